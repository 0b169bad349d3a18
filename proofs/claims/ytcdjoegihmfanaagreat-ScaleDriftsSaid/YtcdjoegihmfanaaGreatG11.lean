/- Apart: pairs of proofs of which each has a change between. events: what is known of a bridge, and what is asked, by minutes. reach: the least and the greatest sum over a bridge; At. but: the proofs of a bridge without some. -/
import Derived.Test.YtcdjoegihmfanaaGreatG8
import Derived.Maps.OwnIn
import Derived.WalkMore
import Derived.Test.YtcdjoegihmfanaaGreatG9
import Derived.Test.YtcdjoegihmfanaaGreatG10
import Derived.Test.YtcdjoegihmfanaaGreatG5
import Derived.Shelf.SlIterI.Nil
import Derived.Shelf.SortM.Plain
import Derived.Shelf.SortM.SortNone
import Derived.Deep.LoopGhost
import Derived.Carry
import Derived.Test.YtcdjoegihmfanaaGreatG6
import Derived.Laws.CopyOwn
namespace Go.Proofs.YtcdjoegihmfanaaGreat
open Go.RowKit
set_option linter.unusedVariables false
/-- Pairs of indices as pairs of numbers. -/
def natPs (L : List (Nat × Nat)) : List (Int × Int) := L.map fun p => ((p.1 : Int), (p.2 : Int))
theorem natPs_snoc (L : List (Nat × Nat)) (a b : Nat) : pairs (natPs (L ++ [(a, b)])) = pairs (natPs L) ++ [.int .i64 (a : Int), .int .i64 (b : Int)] := by simp [natPs, pairs]
def stepA (sp : Nat → Int × Int) (g h : Gr) : List (Nat × Nat) := match g.ps.find? (fun i => exclI sp i (h.ps.headD 0)) with | some i => [(i, h.ps.headD 0)] | none => []
theorem apartG_cons2 (sp : Nat → Int × Int) (g h : Gr) (t : List Gr) : apartG sp (g :: h :: t) = stepA sp g h ++ apartG sp (h :: t) := rfl
theorem apartG_snoc2 (sp : Nat → Int × Int) (h : Gr) : ∀ (t : List Gr) (g : Gr), apartG sp (t ++ [g, h]) = apartG sp (t ++ [g]) ++ stepA sp g h
  | [], g => by rw [List.nil_append, List.nil_append, apartG_cons2]; simp [apartG]
  | [x], g => by
    show apartG sp (x :: g :: [h]) = apartG sp (x :: g :: []) ++ _
    rw [apartG_cons2, apartG_cons2, apartG_cons2]; simp [apartG]
  | x :: y :: t, g => by
    show apartG sp (x :: y :: (t ++ [g, h])) = apartG sp (x :: y :: (t ++ [g])) ++ _
    rw [apartG_cons2, apartG_cons2, List.append_assoc]
    have := apartG_snoc2 sp h (y :: t) g
    simp only [List.cons_append] at this
    rw [this]
theorem apartG_take {sp : Nat → Int × Int} {gs : List Gr} {k : Nat} (h : k + 1 < gs.length) : apartG sp (gs.take (k + 2)) = apartG sp (gs.take (k + 1)) ++ stepA sp (gs[k]'(by omega)) gs[k + 1] := by
  rw [List.take_succ_eq_append_getElem h, List.take_succ_eq_append_getElem (by omega : k < gs.length), List.append_assoc]
  exact apartG_snoc2 sp _ _ _
theorem apartG_len (sp : Nat → Int × Int) : ∀ gs : List Gr, (apartG sp gs).length ≤ gs.length
  | [] => by simp [apartG]
  | [_] => by simp [apartG]
  | g :: h :: t => by
    rw [apartG_cons2, List.length_append]
    have := apartG_len sp (h :: t)
    have e : (stepA sp g h).length ≤ 1 := by unfold stepA; split <;> simp
    simp only [List.length_cons] at *
    omega
theorem find_at {l : List Nat} {p : Nat → Bool} {m : Nat} (hm : m < l.length) (h0 : ∀ x ∈ l.take m, p x = false) (h1 : p l[m] = true) : l.find? p = some l[m] := by
  have e : l = l.take m ++ l[m] :: l.drop (m + 1) := by rw [← List.drop_eq_getElem_cons hm, List.take_append_drop]
  have h2 : (l.take m).find? p = none := by rw [List.find?_eq_none]; exact fun x hx => by rw [h0 x hx]; simp
  have h3 := List.find?_append (p := p) (xs := l.take m) (ys := l[m] :: l.drop (m + 1))
  rw [← e, h2, List.find?_cons, h1] at h3
  simpa using h3
theorem pair_cells (W : World) (a b : Int) (t : TypeId) : ∀ j u, [Value.int .i64 a, .int .i64 b][j]? = some u → (W.alloc (.cells #[.int .i64 a, .int .i64 b] t)).cell? ((⟨W.heap.size, 0, none⟩ : Addr).add j) = some u := fun j u hu => by
  have h := (Blk.new W [.int .i64 a, .int .i64 b] t).cells j u hu
  rw [addr_add, Nat.zero_add]
  exact h
theorem Below.grown {B : Nat} {W y : World} {o : Obj} {row : Option Nat} (hg : (W.alloc o).grownBy y row) (hB : B ≤ W.heap.size) (hr : ∀ b, row = some b → B ≤ b) : Below B W y :=
  ((below_new W o).mono hB).trans ⟨hg.os, hg.tape, hg.output, hg.size, fun k hk => hg.block k (by simp; omega) (fun e => by have := hr k e.symm; omega)⟩
/-- What Apart tells. -/
def ApartB (e0 e1 : Int) (ps : List Pr) (ts : List Tr) (n : Int) (W : World) (e : Ending) (w' : World) : Prop :=
  (grCode e0 e1 ps ts n = 0 ∧ ∃ v, e = .returned (.tuple #[v, .int .i64 0]) ∧ w'.ownsRow W.heap.size 99 2 v (apartG (spI e0 e1 ps) (groupsG (spI e0 e1 ps) (ordL ps n))).length (pairs (natPs (apartG (spI e0 e1 ps) (groupsG (spI e0 e1 ps) (ordL ps n))))) ∧ Below W.heap.size W w') ∨
  (grCode e0 e1 ps ts n ≠ 0 ∧ e = .returned (.tuple #[.slice none 0 0, .int .i64 (grCode e0 e1 ps ts n)]) ∧ Below W.heap.size W w')
set_option maxRecDepth 100000 in
set_option maxHeartbeats 4000000 in
theorem Apart_any (e0 e1 : Int) (A B : Option Addr) (c d : Nat) (ps : List Pr) (ts : List Tr) (n : Int) (w : World) (hA : BA w A B c d ps ts) :
    Calls Tryz.prog 61 #[bkV e0 e1 (.slice A ps.length c) (.slice B ts.length d), .int .i64 n] w (ApartB e0 e1 ps ts n w) := by
  have HC := fun w1 (hb : Below w.heap.size w w1) => Lib.hid (grouped_any e0 e1 A B c d ps ts n w1 (hA.next hb))
  clear hA
  unfold bkV at HC ⊢
  go_enter Tryz.func61, Tryz.ntmps61
  go_wp2_with fail
  refine (HC _ (by go_grown)).out.mono ?_
  rintro e w1 (⟨h0, hok, g, v, vs, base, rfl, hg, hgb, hG, hv, hb1⟩ | ⟨h0, hok, rfl, hb1⟩ | ⟨h0, rfl, hb1⟩)
  all_goals have hbw : Below w.heap.size w w1 := (below_new w _).trans (hb1.mono (by simp))
  · have HK := Lib.hid (grCode_ok h0 hok)
    have hrow := hv.row
    obtain ⟨A1, c1, rfl, hc1, _⟩ := own_slice hrow
    have hn : (groupsG (spI e0 e1 ps) (ordL ps n)).length ≤ 10 := by
      have h1 := (groupsG_len (sp := spI e0 e1 ps) (l := ordL ps n) _ (Nat.le_refl _)).1
      rw [List.take_length] at h1
      have h2 := ordL_length ps n
      have h3 := (ask_ok h0).1.lp
      omega
    have hgood := groupsG_good (sp := spI e0 e1 ps) (l := ordL ps n) hok
    have hflat := groupsG_flat (spI e0 e1 ps) (ordL ps n)
    have hmem : ∀ x ∈ groupsG (spI e0 e1 ps) (ordL ps n), ∀ i ∈ x.ps, i < ps.length := fun x hx i hi => ordL_mem_lt i (by rw [← hflat]; exact List.mem_flatMap.2 ⟨x, hx, hi⟩)
    have hgn : ∀ x ∈ groupsG (spI e0 e1 ps) (ordL ps n), x.ps ≠ [] := fun x hx => ps_ne (hgood x hx)
    have hglen : ∀ x ∈ groupsG (spI e0 e1 ps) (ordL ps n), x.ps.length ≤ 10 := fun x hx => by
      have h1 := (groupsG_len (sp := spI e0 e1 ps) (l := ordL ps n) _ (Nat.le_refl _)).2
      rw [List.take_length] at h1
      have h2 := ordL_length ps n
      have h3 := (ask_ok h0).1.lp
      have h4 := h1 x hx
      omega
    obtain ⟨gs, HGS⟩ : ∃ gs, Hid (groupsG (spI e0 e1 ps) (ordL ps n) = gs) := ⟨_, Lib.hid rfl⟩
    rw [HGS.out] at hn hmem hgn hv hrow hc1 hglen ⊢
    have HMEM := Lib.hid hmem
    have HGN := Lib.hid hgn
    have HGL := Lib.hid hglen
    have HV := Lib.hid hv
    have HG := Lib.hid hG
    have HBW := Lib.hid hbw
    clear HC h0 hok hgood hflat hmem hgn hv hrow hG hbw hb1 hglen
    go_wp2_with fail
    go_loopw [9, 10, 11, 13] (fun v i _ _ wr => ∃ j : Nat, 1 ≤ j ∧ (j ≤ gs.length ∨ j = 1) ∧ i = .int .i64 (j : Nat) ∧ Hid (wr.ownsRow w1.heap.size 99 2 v (apartG (spI e0 e1 ps) (gs.take j)).length (pairs (natPs (apartG (spI e0 e1 ps) (gs.take j))))) ∧ Hid (Below w1.heap.size w1 wr)) (fun _ i _ _ _ => gs.length - (intOf i).toNat)
    case atStart =>
      refine ⟨1, Nat.le_refl _, .inr rfl, rfl, Lib.hid ?_, Lib.hid (Below.refl _ _)⟩
      have e : apartG (spI e0 e1 ps) (gs.take 1) = [] := by
        match gs with
        | [] => rfl
        | x :: t => simp [apartG]
      rw [e]
      exact ⟨rfl, .inl ⟨rfl, rfl⟩⟩
    case round =>
      obtain ⟨j, hj1, hj2, rfl, HO, HBR⟩ := hrel
      obtain ⟨Av, cv, rfl, hcv, _⟩ := own_slice HO.out
      by_cases hlt : j < gs.length
      · obtain ⟨q, HQ⟩ : ∃ q, Hid (j = q + 1) := ⟨j - 1, Lib.hid (by omega)⟩
        have hw : wrap64 ((j : Int) - 1) = (q : Int) := by rw [IntWalk.wrap64_in _ (by omega)]; have := HQ.out; omega
        have hlq : q < gs.length := by have := HQ.out; omega
        obtain ⟨vb, cap, hf, hvb1, hvb2⟩ := HV.out.row.form (by omega)
        injection hf with e1 e2 e3
        subst e1 e3
        have hcs := own_cells HV.out.row
        have hlvj : j < vs.length := by rw [HV.out.len]; exact hlt
        have hlvq : q < vs.length := by rw [HV.out.len]; exact hlq
        have D2 := HBR.out.at_ hvb2 (hcs _ _ (grC_get HV.out.len j hlt).2.2)
        have E2 := HBR.out.at_ hvb2 (hcs _ _ (grC_get HV.out.len q hlq).2.2)
        have huj := HV.out.each j gs[j] vs[j] (List.getElem?_eq_getElem hlt) (List.getElem?_eq_getElem hlvj)
        have huq := HV.out.each q gs[q] vs[q] (List.getElem?_eq_getElem hlq) (List.getElem?_eq_getElem hlvq)
        have hplj := HGN.out _ (List.getElem_mem hlt)
        have hpmj := HMEM.out _ (List.getElem_mem hlt)
        have hplq := HGN.out _ (List.getElem_mem hlq)
        have hpmq := HMEM.out _ (List.getElem_mem hlq)
        have hleq := HGL.out _ (List.getElem_mem hlq)
        have HAT : Hid (apartG (spI e0 e1 ps) (gs.take (j + 1)) = apartG (spI e0 e1 ps) (gs.take j) ++ stepA (spI e0 e1 ps) gs[q] gs[j]) := Lib.hid (by
          have hq := HQ.out
          subst hq
          exact apartG_take hlt)
        generalize vs[j] = uj at D2 huj
        generalize vs[q] = uq at E2 huq
        generalize gs[j] = hl at D2 huj hplj hpmj HAT
        generalize gs[q] = gl at E2 huq hplq hpmq hleq HAT
        obtain ⟨A5, c5, rfl, hc5, hr5⟩ := own_slice huj
        have hp0 : 0 < hl.ps.length := List.length_pos_iff.2 hplj
        obtain ⟨b5, o5, rfl, hb5, q5⟩ := hr5.nat hp0
        rw [Nat.add_zero] at q5
        obtain ⟨f, HF⟩ : ∃ f, Hid (hl.ps[0] = f) := ⟨_, Lib.hid rfl⟩
        have hfl := hpmj _ (List.getElem_mem hp0)
        have HFH : Hid (hl.ps.headD 0 = f) := Lib.hid (by
          rw [← HF.out]
          match hl.ps, hp0 with
          | x :: t, _ => rfl)
        rw [HF.out] at q5 hfl
        have x5 := HBR.out.at_ hb5 q5
        obtain ⟨A6, c6, rfl, hc6, hr6⟩ := own_slice huq
        rw [show q = j - 1 by have := HQ.out; omega] at E2
        have hp6 : 0 < gl.ps.length := List.length_pos_iff.2 hplq
        obtain ⟨b6, o6, rfl, hb6, _⟩ := hr6.nat hp6
        have HR6 := Lib.hid hr6
        have HPM := Lib.hid hpmq
        obtain ⟨pb, off, rfl, hGI⟩ := HG.out.gi hfl
        have HGI := Lib.hid hGI
        have j0 : (0 : Int) ≤ (j : Int) := by omega
        have j1 : (j : Int) < (gs.length : Int) := by omega
        have q0 : (0 : Int) ≤ (q : Int) := by omega
        have q1 : (q : Int) < (gs.length : Int) := by omega
        have l0 : (0 : Int) < (hl.ps.length : Int) := by omega
        have w1r := HBR.out.size
        clear hcs huj huq hplj hpmj hplq hpmq hr5 q5 hr6 hGI hlvj hlvq
        go_wp2_with fail
        go_step3
        go_wp2_with fail
        go_step3
        go_wp2_with fail
        obtain ⟨wo, hwo⟩ : ∃ x, x = wr := ⟨_, rfl⟩
        subst hwo
        go_loopw [9, 13, 44] (fun v9 _ i wr => ∃ m : Nat, m ≤ gl.ps.length ∧ i = .int .i64 (m : Nat) ∧ v9 = .slice Av (apartG (spI e0 e1 ps) (gs.take j)).length cv ∧ Hid (∀ x ∈ gl.ps.take m, exclI (spI e0 e1 ps) x f = false) ∧ Hid (Below wo.heap.size wo wr)) (fun _ _ i _ => gl.ps.length - (intOf i).toNat)
        case atStart => exact ⟨0, Nat.zero_le _, rfl, rfl, Lib.hid (fun x hx => by simp at hx), Lib.hid (Below.refl _ _)⟩
        case round =>
          obtain ⟨m, hm, rfl, rfl, HN, HBI⟩ := hrel
          have wri := HBI.out.size
          by_cases hlm : m < gl.ps.length
          · obtain ⟨b, o, hbo, hbb, xm⟩ := ((HR6.out.next HBR.out).next HBI.out).nat hlm
            injection hbo with hbo
            injection hbo with hb1 hb2
            subst hb1 hb2
            have hip := HPM.out _ (List.getElem_mem hlm)
            obtain ⟨a, HAE⟩ : ∃ a, Hid (gl.ps[m] = a) := ⟨_, Lib.hid rfl⟩
            rw [HAE.out] at xm hip
            have hbi : Below w1.heap.size w1 wr := HBR.out.trans (HBI.out.mono w1r)
            have HEX := Lib.hid (exclude_any g e0 e1 pb off c ps _ a f wr (HGI.out.below hbi) hip hfl)
            have m0 : (0 : Int) ≤ (m : Int) := by omega
            have m1 : (m : Int) < (gl.ps.length : Int) := by omega
            go_wp2_with fail
            refine HEX.out.mono ?_
            rintro e w2 ⟨rfl, hb2⟩
            have hb2w : Below w1.heap.size w1 w2 := hbi.trans (hb2.mono hbi.size)
            have hbrw : Below wo.heap.size wo w2 := HBI.out.trans (hb2.mono wri)
            have hsz2 := hb2w.size
            have HO2 := Lib.hid (own_block HO.out fun k hk => hbrw.block k (own_lt HO.out k hk).2)
            have hex : exclI (spI e0 e1 ps) a f = decide (min (spI e0 e1 ps a).2 (spI e0 e1 ps f).2 < max (spI e0 e1 ps a).1 (spI e0 e1 ps f).1) := rfl
            rw [← hex]
            clear hex HEX
            cases hx : exclI (spI e0 e1 ps) a f
            · have HN2 : Hid (∀ x ∈ gl.ps.take (m + 1), exclI (spI e0 e1 ps) x f = false) := Lib.hid (by
                rw [List.take_succ_eq_append_getElem hlm]
                intro x hxm
                rcases List.mem_append.1 hxm with h | h
                · exact HN.out x h
                · rw [List.mem_singleton.1 h, HAE.out]; exact hx)
              clear hx
              go_wp2_with fail
              go_roundw
              case rel => exact ⟨m + 1, hlm, by go_num, rfl, HN2, Lib.hid hbrw⟩
              case measure => simp [intOf]; omega
            · have HST : Hid (stepA (spI e0 e1 ps) gl hl = [(a, f)]) := Lib.hid (by
                unfold stepA
                rw [HFH.out, find_at hlm HN.out (by rw [HAE.out]; exact hx), HAE.out])
              obtain ⟨i0, hi0, hz0, hz1, hz2⟩ := info_parts infoPair
              clear hx
              have hal := apartG_len (spI e0 e1 ps) (gs.take j)
              rw [List.length_take] at hal
              have hal2 : (apartG (spI e0 e1 ps) (gs.take j)).length ≤ 10 := by omega
              clear hal
              go_wp2_with (at_builtin; refine Go.wpList_append_own_at _ rfl _ _ 96 rfl w1.heap.size 99 i0 (.agg #[.int .i64 0, .int .i64 0]) 2 16 Tryz.underlying96 hi0 hz0 hz1 hz2 rfl (by decide) _ _ _ rfl (HO2.out.alloc _) ⟨w2.heap.size, 0, none⟩ 1 1 [.int .i64 (a : Nat), .int .i64 (f : Nat)] rfl rfl (pair_cells w2 _ _ _) (by simp [Value.oneCell']) (by unfold maxLen; omega) (by omega) (by simp; omega) ?_; intro v' w3 hown' hgrow hnil hat; obtain ⟨A2, c2, rfl, hc2, _⟩ := own_slice hown')
              refine (by assumption : ∀ (a : Act) (w : World), Code.wp Tryz.prog _ _ a w → (_ : Act → World → Prop) a w) _ _ ?_
              go_wp2_with fail
              go_roundw
              case rel =>
                refine ⟨j + 1, by omega, .inl hlt, by go_num, Lib.hid ?_, Lib.hid (hb2w.trans (Below.grown hgrow (by omega) fun k hk => (own_lt HO2.out k hk).1))⟩
                rw [HAT.out, HST.out, natPs_snoc, List.length_append]
                exact hown'
              case measure => simp [intOf]; omega
          · have hmm : m = gl.ps.length := by omega
            have HST : Hid (stepA (spI e0 e1 ps) gl hl = []) := Lib.hid (by
              unfold stepA
              have h : gl.ps.find? (fun i => exclI (spI e0 e1 ps) i (hl.ps.headD 0)) = none := by
                rw [List.find?_eq_none, HFH.out]
                intro x hx
                rw [HN.out x (by rw [hmm, List.take_length]; exact hx)]; simp
              rw [h])
            have HO2 := Lib.hid (own_block HO.out fun k hk => HBI.out.block k (own_lt HO.out k hk).2)
            go_wp2_with fail
            (try simp only [Exit.noGoto_normal, Exit.inBlock, Exit.then])
            refine (by assumption : ∀ (a : Act) (w : World), Code.wp Tryz.prog _ _ a w → (_ : Act → World → Prop) a w) _ _ ?_
            go_wp2_with fail
            go_roundw
            case rel =>
              refine ⟨j + 1, by omega, .inl hlt, by go_num, Lib.hid ?_, Lib.hid (HBR.out.trans (HBI.out.mono w1r))⟩
              rw [HAT.out, HST.out, List.append_nil]
              exact HO2.out
            case measure => simp [intOf]; omega
      · have HE : Hid (gs.take j = gs) := Lib.hid (List.take_of_length_le (by omega))
        go_wp2_with fail
        go_ret2
        refine .inl ⟨HK.out, .slice Av (apartG (spI e0 e1 ps) (gs.take j)).length cv, rfl, ?_, HBW.out.trans (HBR.out.mono HBW.out.size)⟩
        rw [HGS.out]
        rw [HE.out]
        rw [HE.out] at HO
        exact HO.out.base_ HBW.out.size
  · have HK := Lib.hid (grCode_bad h0 hok)
    clear HC h0 hok hb1
    go_wp2_with fail
    go_ret2
    exact .inr ⟨by rw [HK.out]; decide, by rw [HK.out]; rfl, hbw⟩
  · have h0' : (askCode (ckBook e0 e1 ps ts) n 0 == 0) = false := by simpa using h0
    have h0'' : (askCode (ckBook e0 e1 ps ts) n 0 != 0) = true := by simpa using h0
    have H0 := Lib.hid h0
    clear HC h0 hb1
    go_wp2_with fail
    go_ret2
    exact .inr ⟨by rw [grCode_ask H0.out]; exact H0.out, by rw [grCode_ask H0.out]; rfl, hbw⟩
end Go.Proofs.YtcdjoegihmfanaaGreat
namespace Go.Proofs.YtcdjoegihmfanaaGreat
open Go.RowKit Go.Shelf
set_option linter.unusedVariables false
attribute [local go_sem] Oper.semAt_some
theorem mapII : Tryz.prog.underlying 152 = some (.map 3 3) := by kernel_rfl
theorem mapIS : Tryz.prog.underlying 245 = some (.map 3 36) := by kernel_rfl
attribute [local go_sem] run_makeMap
theorem grown_of_below {w w' : World} (hb : Below w.heap.size w w') (r : Option Nat) : w.grownBy w' r := ⟨hb.os, hb.tape, hb.output, hb.size, fun k hk _ => hb.block k hk⟩
theorem infoEv : (Tryz.prog.info? 223).map (fun i => (i.zero, i.size, i.bytes)) = some (some (.agg #[.int .i64 0, .int .i64 0, .int .i64 0, .int .i64 0]), 4, 32) := by kernel_rfl
theorem quad_cells (W : World) (a b c d : Int) (t : TypeId) : ∀ j u, [Value.int .i64 a, .int .i64 b, .int .i64 c, .int .i64 d][j]? = some u → (W.alloc (.cells #[.int .i64 a, .int .i64 b, .int .i64 c, .int .i64 d] t)).cell? ((⟨W.heap.size, 0, none⟩ : Addr).add j) = some u := fun j u hu => by
  have h := (Blk.new W [.int .i64 a, .int .i64 b, .int .i64 c, .int .i64 d] t).cells j u hu
  rw [addr_add, Nat.zero_add]
  exact h
theorem evs_snoc (l : List Ev) (e : Ev) : evs (l ++ [e]) = evs l ++ [.int .i64 e.lo, .int .i64 e.hi, .int .i64 e.m, .int .i64 e.w] := by unfold evs; rw [rowsOf_append]; rfl
/-- The desk's box, the map of spans and its box. -/
structure EvS (W : World) (g k : Nat) (F : Int → Option (Int × Int)) (wr : World) : Prop where
  bl : Below W.heap.size W wr
  k0 : Blk wr W.heap.size [.pointer (some ⟨g, 0, none⟩)]
  k2 : Blk wr (W.heap.size + 2) [.map (some (W.heap.size + 1))]
  mi : MI spanE Tryz.prog 3 wr (W.heap.size + 1) k F
theorem EvS.below {W wr w' : World} {g k : Nat} {F : Int → Option (Int × Int)} (h : EvS W g k F wr) (hb : Below wr.heap.size wr w') : EvS W g k F w' := ⟨h.bl.trans (hb.mono h.bl.size), h.k0.below hb, h.k2.below hb, h.mi.below hb⟩
theorem EvS.mono {W wr : World} {g k k' : Nat} {F : Int → Option (Int × Int)} (h : EvS W g k F wr) (hk : k ≤ k') : EvS W g k' F wr := ⟨h.bl, h.k0, h.k2, h.mi.mono hk⟩
theorem RgJ.bl {W W1 W' : World} {rec : LoopState → Option Code → Loop} {l S : Nat} {X : Nat → Prop} {st : LoopState} {pe : Option Code} (h : RgJ W1 rec l X S st pe W') (hb : Below W.heap.size W W1) (hX : ∀ k, X k → W.heap.size ≤ k) (hl : W.heap.size ≤ l) : Below W.heap.size W W' :=
  ⟨h.os.trans hb.os, h.tape.trans hb.tape, h.output.trans hb.output, Nat.le_trans hb.size h.size, fun k hk => (h.far k (Nat.lt_of_lt_of_le hk hb.size) (fun hx => by have := hX k hx; omega) (by omega)).trans (hb.block k hk)⟩
theorem EvS.grown {W wr w' : World} {g k r : Nat} {F : Int → Option (Int × Int)} (h : EvS W g k F wr) (hg : wr.grownBy w' (some r)) (hr : W.heap.size + 2 < r) : EvS W g k F w' :=
  ⟨below_grown h.bl hg (by omega), h.k0.grown hg (by intro e; injection e with e; omega), h.k2.grown hg (by intro e; injection e with e; omega), h.mi.block (hg.block _ h.mi.lt (by intro e; injection e with e; omega))⟩
theorem EvS.upd {W wr : World} {g k : Nat} {F : Int → Option (Int × Int)} (h : EvS W g k F wr) (hk : k < 1000000) {x : Int} (hx : i64ok x) (a b : Int) :
    ∃ w', (Instr.mapUpdate 245 (.map (some (W.heap.size + 1))) (.int .i64 x) (.agg #[.int .i64 a, .int .i64 b])).run Tryz.prog wr = .ok () w' ∧ EvS W g (k + 1) (fun y => if y = x then some (a, b) else F y) w' ∧ wr.grownBy w' (some (W.heap.size + 1)) ∧ w'.heap.size = wr.heap.size := by
  obtain ⟨w', h1, h2, h3, h4⟩ := h.mi.update keyI mapIS hk hx (a, b)
  exact ⟨w', h1, ⟨below_grown h.bl h3 (by omega), h.k0.grown h3 (by intro e; injection e with e; omega), h.k2.grown h3 (by intro e; injection e with e; omega), h2⟩, h3, h4⟩
set_option maxRecDepth 100000 in
set_option maxHeartbeats 2000000 in
theorem events_any (g : Nat) (e0 e1 : Int) (PA : Option Addr) (c : Nat) (ps : List Pr) (TA : Option Addr) (d : Nat) (ts : List Tr) (n : Int) (mb nb : Nat) (asks : List (Int × Int)) (W : World) (hG : Gd W g e0 e1 PA c ps TA d ts) (hM : MI intE Tryz.prog 3 W mb nb (askF asks)) (hnb : nb ≤ 900) :
    Calls Tryz.prog 150 #[.pointer (some ⟨g, 0, none⟩), .int .i64 n, .map (some mb)] W (RetOwn 223 4 (evP e0 e1 ps n asks).length (evs (evP e0 e1 ps n asks)) W) := by
  have HG := Lib.hid hG
  have HM := Lib.hid hM
  clear hG hM
  refine callsIn_wide.1 (callsIn_of_wp_marks (F := Fence.wide) (n := 4) Tryz.func150 rfl trivial ?_)
  refine wpIn_wide.2 ?_
  simp only [Tryz.ntmps150, List.size_toArray, List.length_cons, List.length_nil, Nat.reduceAdd, Nat.reduceSub, Array.replicate_succ, Array.replicate_zero, List.push_toArray, List.append_toArray, List.nil_append, List.cons_append]
  go_wp2_with fail
  have hb0 := below_new W (.cells #[.pointer (some ⟨g, 0, none⟩)] 146)
  have K0 := Blk.new W [.pointer (some ⟨g, 0, none⟩)] 146
  have hm0 := HM.out.below hb0
  have e0' : (W.alloc (.cells #[.pointer (some ⟨g, 0, none⟩)] 146)).heap.size = W.heap.size + 1 := by simp
  change Blk (W.alloc (.cells #[.pointer (some ⟨g, 0, none⟩)] 146)) _ _ at K0
  generalize W.alloc (.cells #[.pointer (some ⟨g, 0, none⟩)] 146) = W1 at *
  have hb1 := below_new W1 (.map #[] 0)
  have hs1 := MI.new spanE Tryz.prog 3 W1
  have e1' : (W1.alloc (.map #[] 0)).heap.size = W.heap.size + 2 := by simp [e0']
  have hm1 := hm0.below hb1
  have K1 := K0.below hb1
  rw [e0'] at hs1
  generalize W1.alloc (.map #[] 0) = W2 at *
  have hb2 := below_new W2 (.cells #[.map (some (W.heap.size + 1))] 245)
  have K2 := Blk.new W2 [.map (some (W.heap.size + 1))] 245
  have e2' : (W2.alloc (.cells #[.map (some (W.heap.size + 1))] 245)).heap.size = W.heap.size + 3 := by simp [e1']
  have hm2 := hm1.below hb2
  have hs2 := hs1.below hb2
  have K1' := K1.below hb2
  rw [e1'] at K2
  have hbw := (hb0.trans (hb1.mono hb0.size)).trans (hb2.mono (Nat.le_trans hb0.size hb1.size))
  change Blk (W2.alloc (.cells #[.map (some (W.heap.size + 1))] 245)) _ _ at K2
  clear hb0 hb1 hb2 hs1 hm0 hm1 K0 K1
  generalize W2.alloc (.cells #[.map (some (W.heap.size + 1))] 245) = W3 at *
  obtain ⟨W4, cnt, hrun, hMR, hb4, hz4, hcnt⟩ := hm2.rangeN keyI mapII
  have HS := Lib.hid (EvS.below (g := g) ⟨hbw, K1', K2, hs2⟩ hb4)
  have HMR := Lib.hid hMR
  rw [e2'] at hrun HMR hz4
  have hmbW := HM.out.lt
  clear hbw K1' K2 hs2 hm2 hb4 hMR e0' e1' e2'
  go_wp2_with fail
  simp only [hrun]
  go_wp2_with fail
  clear hrun
  go_loopg [8] cnt (fun gk s8 wr => ∃ (left : Int → Bool) (F : Int → Option (Int × Int)), gk ≤ cnt ∧ Hid (EvS W g (cnt - gk) F wr) ∧ Hid (MR intE Tryz.prog 3 wr mb (W.heap.size + 3) nb (askF asks) left gk) ∧ Hid (F = fun y => if hasAt asks y = true ∧ left y = false then some (-50, 50) else none))
  case atStart =>
    refine ⟨_, fun _ => none, Nat.le_refl _, Lib.hid (by rw [Nat.sub_self]; exact HS.out), HMR, Lib.hid ?_⟩
    funext y
    unfold askF
    cases hasAt asks y <;> simp
  case round =>
    obtain ⟨left, F, hgk, HE, HR, HF⟩ := hrel
    have hne := HR.out.ne
    rcases HR.out.next keyI 0 with ⟨rfl, hleft, hrun⟩ | ⟨x, a, W5, cnt', hx, hlx, hfx, hrun, hR', hlt, hg5, hz5, hent⟩
    · have HL := Lib.hid hleft
      have y0 := HE.out.k0.cells 0 _ rfl
      have l0 := HE.out.k0.lt
      clear hleft
      go_wp2_with fail
      have HF2 : Hid (F = allF asks) := Lib.hid (by
        rw [HF.out]; funext y; unfold allF; simp [HL.out])
      refine (proofs_any g n _).mono ?_
      rintro e w1 ⟨v, base, rfl, hbase, hit, hb1⟩
      obtain ⟨hv, hlt, hcx, hcn⟩ := hit
      subst hv
      have HE1 := Lib.hid (((HE.out.below hb1).mono (show cnt - 0 ≤ nb by omega)))
      have HG1 := Lib.hid (HG.out.below HE1.out.bl)
      have hM1 := HM.out.below HE1.out.bl
      have HM1 := Lib.hid hM1
      have hs0 : W.heap.size + 3 < wr.heap.size := HR.out.lt
      have hs1 : W.heap.size + 3 < w1.heap.size := by have := HR.out.lt; have := hb1.size; omega
      clear hrun y0 l0 hb1 hM1 HE HR HL
      go_wp2_with fail
      have hGl := HG.out.bk.lt
      refine range_proofs w1 3 base g n PA c ps W.heap.size (by rfl) (by rfl) hcx HG1.out.bk.c2 hcn (HG.out.rp.below HE1.out.bl) HE1.out.bl.size hlt HG1.out.bk.lt HG.out.ok.lp (fun p hp => (HG.out.ok.pr p hp).1) HG.out.ok.once (fun k => k = W.heap.size + 1) (fun k hk => by subst hk; omega) (fun S pre w => MI spanE Tryz.prog 3 w (W.heap.size + 1) (nb + pre.length) (spF e0 e1 ps pre (allF asks))) (fun _ _ => False) (fun S pre w w' h hs hk => h.block (hk _ (by omega) h.lt)) (fun _ _ _ h => h.elim) ?_ ?_ ?_ ?_
      · intro S w hS hb
        have := HE1.out.mi.below hb
        rw [HF2.out] at this
        exact this
      · intro W1 rec S pre i w hz1 hbz hJ hU hpre
        have HJ := Lib.hid hJ
        have HU := Lib.hid hU
        have hi : i < ps.length := ordL_mem_lt i (hpre.subset (by simp))
        have hp10 : pre.length ≤ 10 := by
          have h1 := hpre.length_le
          rw [List.length_append] at h1
          have h2 := ordL_length ps n
          have h3 := HG.out.ok.lp
          simp at h1; omega
        clear hJ hU hpre
        rw [pAt_eq hi]
        unfold prV
        gi_wp2
        have hba := below_new w (.cells #[.int .i64 ps[i].b, .int .i64 ps[i].m, .int .i64 ps[i].k, .int .i64 ps[i].r] 57)
        have hS := HJ.out.hS
        have hSl := HJ.out.lt
        refine ⟨HJ.out.below (by omega) (by omega) hba, hba.block _ hSl, hba.size, ?_⟩
        have hJb := (HJ.out.below (by omega) (by omega) hba).put (by omega) .busy none
        have hPb := (Blk.new w [.int .i64 ps[i].b, .int .i64 ps[i].m, .int .i64 ps[i].k, .int .i64 ps[i].r] 57).block (w' := (w.alloc (.cells #[.int .i64 ps[i].b, .int .i64 ps[i].m, .int .i64 ps[i].k, .int .i64 ps[i].r] 57)).putObj (w1.heap.size + 1) (.loop (rec .busy none))) (by rw [putObj_size]; exact Nat.le_refl _) (World.putObj_heap_other (by have := HJ.out.size; omega))
        have hUb := (HU.out.below hba).block (w' := (w.alloc (.cells #[.int .i64 ps[i].b, .int .i64 ps[i].m, .int .i64 ps[i].k, .int .i64 ps[i].r] 57)).putObj (w1.heap.size + 1) (.loop (rec .busy none))) (World.putObj_heap_other (by omega))
        have hSb : ((w.alloc (.cells #[.int .i64 ps[i].b, .int .i64 ps[i].m, .int .i64 ps[i].k, .int .i64 ps[i].r] 57)).putObj (w1.heap.size + 1) (.loop (rec .busy none))).heap[S]? = (w.alloc (.cells #[.int .i64 ps[i].b, .int .i64 ps[i].m, .int .i64 ps[i].k, .int .i64 ps[i].r] 57)).heap[S]? := World.putObj_heap_other (by omega)
        have hzb : ((w.alloc (.cells #[.int .i64 ps[i].b, .int .i64 ps[i].m, .int .i64 ps[i].k, .int .i64 ps[i].r] 57)).putObj (w1.heap.size + 1) (.loop (rec .busy none))).heap.size = w.heap.size + 1 := by rw [putObj_size]; simp
        generalize w.alloc (.cells #[.int .i64 ps[i].b, .int .i64 ps[i].m, .int .i64 ps[i].k, .int .i64 ps[i].r] 57) = Wa at *
        obtain ⟨Wb, hWb⟩ : ∃ Wb, Wa.putObj (w1.heap.size + 1) (.loop (rec .busy none)) = Wb := ⟨_, rfl⟩
        rw [hWb] at hJb hPb hUb hSb hzb ⊢
        have hbl := hJb.bl (HE1.out.bl.trans (hbz.mono HE1.out.bl.size)) (fun k hk => by omega) (by omega)
        have y0 := (hJb.cell (b := W.heap.size) (o := 0) (by omega) (by omega) (by omega)).trans (hbz.at_ (by omega) (HE1.out.k0.cells 0 _ rfl))
        have y7 := (hJb.cell (b := W.heap.size + 2) (o := 0) (by omega) (by omega) (by omega)).trans (hbz.at_ (by omega) (HE1.out.k2.cells 0 _ rfl))
        have l0 : W.heap.size < Wb.heap.size := by have := hJb.size; omega
        have l7 : W.heap.size + 2 < Wb.heap.size := by have := hJb.size; omega
        obtain ⟨pb0, off0, hPA, hGI⟩ := (HG.out.below hbl).gi hi
        have HSP := fun (w5 : World) (hb : Below Wb.heap.size Wb w5) => Lib.hid (span_at (hGI.below hb) hi)
        have z0 := hPb.cells 0 _ rfl
        have z1 := hPb.cells 1 _ rfl
        have z2 := hPb.cells 2 _ rfl
        have z3 := hPb.cells 3 _ rfl
        have lp := hPb.lt
        have hx : i64ok ps[i].m := by have := (HG.out.ok.pr _ (List.getElem_mem hi)).1; unfold i64ok; omega
        have HX := Lib.hid hx
        have HST : Hid (∀ k (f : Int → Option (Int × Int)), MI spanE Tryz.prog 3 k (W.heap.size + 1) (nb + pre.length + 1) (fun y => if y = ps[i].m then some (spI e0 e1 ps i) else spF e0 e1 ps pre (allF asks) y) → MI spanE Tryz.prog 3 k (W.heap.size + 1) (nb + (pre ++ [i]).length) (spF e0 e1 ps (pre ++ [i]) (allF asks))) := Lib.hid (fun k f h => by
          rw [spF_snoc, pAt_eq hi, List.length_append]; exact h)
        generalize ps[i].b = pb at *
        generalize ps[i].m = pm at *
        generalize ps[i].k = pk at *
        generalize ps[i].r = pr at *
        generalize spI e0 e1 ps i = S9 at *
        obtain ⟨slo, shi⟩ := S9
        have HJB := Lib.hid hJb
        have HUB := Lib.hid hUb
        have HSB := Lib.hid hSb
        have HZB := Lib.hid hzb
        have HWB := Lib.hid hWb
        clear hJb hUb hSb hzb hWb hPb hba hbl hGI hx
        refine wpIn_block ?_
        have hq : ¬ LetsOut (Exit.inBlock 3 (RgPost W1 rec (w1.heap.size + 1) (fun k => k = W.heap.size + 1) S Wa (fun w => MI spanE Tryz.prog 3 w (W.heap.size + 1) (nb + (pre ++ [i]).length) (spF e0 e1 ps (pre ++ [i]) (allF asks))) (fun _ => False))) := by
          rintro ⟨a, w, h⟩; exact h
        obtain ⟨pb8, hpb8⟩ : ∃ pb8, w.heap.size = pb8 := ⟨_, rfl⟩
        rw [hpb8] at z0 z1 z2 z3 lp ⊢
        refine wp_invR 6 (by kernel_rfl) (by kernel_rfl) hq (by kernel_rfl) (by kernel_rfl) (by decide) (FL [PEq (.map (some (W.heap.size + 1))), PEq (.pointer (some ⟨pb8, 1, none⟩)), PEq (.int .i64 pm), PEq (.pointer (some ⟨g, 0, none⟩)), PEq (.agg #[.int .i64 pb, .int .i64 pm, .int .i64 pk, .int .i64 pr]), PEq (.agg #[.int .i64 slo, .int .i64 shi])])
          (fun x => Below Wb.heap.size Wb x) (fun x y => Below x.heap.size x y) (FL.keepB (by simp [stbB_eq])) (below_drew Wb) ?_ ?_
        · intro iq o hi' ho listed vals a w5 hdep hM hAt K hK
          have HI := Lib.hid hM.inv
          match iq, hi' with
          | 0, _ =>
            injection ho with ho
            subst ho
            rw [if_pos (wantedN rfl)]
            obtain ⟨e7, e7'⟩ := hAt.slot 7 (by kernel_rfl) (by rfl)
            have q0 := HI.out.at_ l7 y7
            go_simp
            exact hK _ w5 (Below.refl _ _) HI.out rfl
          | 1, _ =>
            injection ho with ho
            subst ho
            rw [if_pos (wantedN rfl)]
            obtain ⟨e10, e10'⟩ := hAt.slot 10 (by kernel_rfl) (by rfl)
            go_simp
            exact hK _ w5 (Below.refl _ _) HI.out rfl
          | 2, _ =>
            injection ho with ho
            subst ho
            rw [if_pos (wantedN rfl)]
            have l1 := hdep ⟨1, .data⟩ (by simp) rfl
            obtain ⟨x1, x1'⟩ := hAt.dep 1 (d := 30) (by omega) l1 (by rfl) (hM.fact 1 (by omega) l1)
            have q0 := HI.out.at_ lp z1
            go_simp
            exact hK _ w5 (Below.refl _ _) HI.out rfl
          | 3, _ =>
            injection ho with ho
            subst ho
            rw [if_pos (wantedN rfl)]
            obtain ⟨e3, e3'⟩ := hAt.slot 3 (by kernel_rfl) (by rfl)
            have q0 := HI.out.at_ l0 y0
            go_simp
            exact hK _ w5 (Below.refl _ _) HI.out rfl
          | 4, _ =>
            injection ho with ho
            subst ho
            rw [if_pos (wantedN rfl)]
            obtain ⟨e10, e10'⟩ := hAt.slot 10 (by kernel_rfl) (by rfl)
            have q0 := HI.out.at_ lp z0
            have q1 := HI.out.at_ lp z1
            have q2 := HI.out.at_ lp z2
            have q3 := HI.out.at_ lp z3
            go_simp
            exact hK _ w5 (Below.refl _ _) HI.out rfl
          | 5, _ =>
            injection ho with ho
            subst ho
            rw [if_pos (wantedN rfl)]
            have l3 := hdep ⟨3, .data⟩ (by simp) rfl
            obtain ⟨x3, x3'⟩ := hAt.dep 3 (d := 32) (by omega) l3 (by rfl) (hM.fact 3 (by omega) l3)
            have l4 := hdep ⟨4, .data⟩ (by simp) rfl
            obtain ⟨x4, x4'⟩ := hAt.dep 4 (d := 33) (by omega) l4 (by rfl) (hM.fact 4 (by omega) l4)
            go_simp
            refine ((HSP w5 HI.out).out).mono ?_
            rintro e w6 ⟨rfl, hb6⟩
            exact hK _ w6 hb6 (HI.out.trans (hb6.mono HI.out.size)) rfl
          | jq + 6, hq => exact absurd hq (by omega)
        · intro vals w5 hM
          have HI := Lib.hid hM.inv
          have f0 : vals 0 = .map (some (W.heap.size + 1)) := hM.all (by decide) 0 (by omega)
          have f1 : vals 1 = .pointer (some ⟨pb8, 1, none⟩) := hM.all (by decide) 1 (by omega)
          have f2 : vals 2 = .int .i64 pm := hM.all (by decide) 2 (by omega)
          have f3 : vals 3 = .pointer (some ⟨g, 0, none⟩) := hM.all (by decide) 3 (by omega)
          have f4 : vals 4 = .agg #[.int .i64 pb, .int .i64 pm, .int .i64 pk, .int .i64 pr] := hM.all (by decide) 4 (by omega)
          have f5 : vals 5 = .agg #[.int .i64 slo, .int .i64 shi] := hM.all (by decide) 5 (by omega)
          clear hM
          simp only [putAll, List.range, List.range.loop, List.foldl_cons, List.foldl_nil, f0, f1, f2, f3, f4, f5]
          clear f0 f1 f2 f3 f4 f5
          change wpAny _ _ _ _ _ _ (Act.put (Act.put (Act.put (Act.put (Act.put (Act.put _ (some 29) _) (some 30) _) (some 31) _) (some 32) _) (some 33) _) (some 34) _) _
          simp only [Act.put, List.setIfInBounds_toArray, List.set_cons_zero, List.set_cons_succ]
          have HUw := Lib.hid (HUB.out.below HI.out)
          obtain ⟨w7, hrun, hM7, hg7, hz7⟩ := HUw.out.update keyI mapIS (by omega) HX.out (slo, shi)
          have HM7 := Lib.hid hM7
          have HG7 := Lib.hid hg7
          clear hM7 hg7
          change (Instr.mapUpdate _ _ _ (.agg #[.int .i64 slo, .int .i64 shi])).run _ w5 = .ok () w7 at hrun
          refine tail_step 6 _ (by kernel_rfl) rfl rfl (fun K' hK => ?_)
          go_simp
          refine hK _ _ ?_
          clear hK K' hrun
          refine wpAny_done (by kernel_rfl) ?_ _
          have hS1 := HJB.out.hS
          have hS2 := HJB.out.lt
          have hz1b := HJB.out.size
          have hz5b := HI.out.size
          have hfar : ∀ k, k < Wb.heap.size → k ≠ W.heap.size + 1 → w7.heap[k]? = Wb.heap[k]? := fun k hk hne => (HG7.out.block k (by omega) (by intro e; injection e with e; omega)).trans (HI.out.block k hk)
          refine ⟨HJB.out.step (by omega) (by omega) (HG7.out.os.trans HI.out.os) (HG7.out.tape.trans HI.out.tape) (HG7.out.output.trans HI.out.output) (by omega) (fun k hk hx => hfar k (by omega) hx), (hfar S (by omega) (by omega)).trans HSB.out, ?_, HST.out w7 (fun _ => none) HM7.out⟩
          have : Wb.heap.size = Wa.heap.size := by rw [← HWB.out, putObj_size]
          omega
      · intro W1 S w2 hz1 hbz hs h1 h2 h3 h4 h5 hU
        have hbl : Below W.heap.size W w2 := ⟨h1.trans HE1.out.bl.os, h2.trans HE1.out.bl.tape, h3.trans HE1.out.bl.output, Nat.le_trans HE1.out.bl.size hs, fun k hk => (h4 k (by omega) (by omega)).trans (HE1.out.bl.block k hk)⟩
        have hE2 : EvS W g (nb + (ordL ps n).length) (spF e0 e1 ps (ordL ps n) (allF asks)) w2 := ⟨hbl, HE1.out.k0.block hs (h4 _ (by omega) (by omega)), HE1.out.k2.block hs (h4 _ (by omega) (by omega)), hU⟩
        have HE2 := Lib.hid hE2
        have H5 := Lib.hid h5
        have y7 := hE2.k2.cells 0 _ rfl
        have l7 := hE2.k2.lt
        have HM2 := Lib.hid (HM.out.below hbl)
        have hlo : (ordL ps n).length ≤ 10 := by have := ordL_length ps n; have := HG.out.ok.lp; omega
        have HS2 := Lib.hid hs
        clear hbl hE2 h1 h2 h3 h4 h5 hU hbz hz1 hs HE1 HM1 hcx hcn HG1
        have HEQ : Hid (∀ K : List Int, K.Pairwise (· < ·) → (∀ m, m ∈ K ↔ (spF e0 e1 ps (ordL ps n) (allF asks) m).isSome = true) → K.map (evK e0 e1 ps n asks) = evP e0 e1 ps n asks) := Lib.hid (fun K h1 h2 => events_eq HG.out.ok.once n asks h1 h2)
        go_wp2_with fail
        refine (keys_any _ _).mono ?_
        rintro e w3 ⟨rfl, rfl⟩
        go_wp2_with fail
        refine (sorted_any w2 _ _ _ HE2.out.mi (by omega)).mono ?_
        rintro e w4 ⟨v, K, rfl, hK1, hK2, hK3, hK4, hrow, hb4⟩
        obtain ⟨A1, c1, rfl, hc1, hr1⟩ := own_slice hrow
        have HK := Lib.hid (HEQ.out K hK1 hK2)
        have HK2 := Lib.hid hK2
        have HK4 := Lib.hid hK4
        have hKl : K.length ≤ 1000 := by omega
        have HE4 := Lib.hid (HE2.out.below hb4)
        have HM4 := Lib.hid (HM2.out.below hb4)
        have hdw : w1.heap.size < w2.heap.size := by
          have := (Array.getElem?_eq_some_iff.1 H5.out).1
          exact this
        have HD4 : Hid (w4.heap[w1.heap.size]? = some (.deferred (some []))) := Lib.hid ((hb4.block _ hdw).trans H5.out)
        have hdw4 : w1.heap.size < w4.heap.size := Nat.lt_of_lt_of_le hdw hb4.size
        have HR1 := Lib.hid hr1
        clear hK1 hK2 hK3 hK4 hrow hb4 HE2 HM2 H5 HEQ y7 l7 hr1 hc1
        go_wp2_with fail
        obtain ⟨i0, hi0, hz0, hz1, hz2⟩ := info_parts infoEv
        go_loopw [11, 13, 39] (fun s11 _ i wr => ∃ k : Nat, k ≤ K.length ∧ i = .int .i64 (k : Nat) ∧ Hid (wr.ownsRow w4.heap.size 223 4 s11 k (evs ((K.take k).map (evK e0 e1 ps n asks)))) ∧ Hid (Below w4.heap.size w4 wr)) (fun _ _ i _ => K.length - (intOf i).toNat)
        case atStart => exact ⟨0, Nat.zero_le _, rfl, Lib.hid nil_own, Lib.hid (Below.refl _ _)⟩
        case round =>
          obtain ⟨k, hk, rfl, HO, HBR⟩ := hrel
          obtain ⟨Av, cv, rfl, hcv, _⟩ := own_slice HO.out
          have hwr := HBR.out.size
          by_cases hlt : k < K.length
          · have hEr := HE4.out.below HBR.out
            have hMr := HM4.out.below HBR.out
            obtain ⟨kb, ko, rfl, hkb, hkc⟩ := (HR1.out.more (B' := w4.heap.size) (Nat.le_refl _)).int hlt
            have x0 := HBR.out.at_ hkb hkc
            have HT := Lib.hid (List.take_succ_eq_append_getElem hlt)
            have hkk := HK4.out _ (List.getElem_mem hlt)
            generalize K[k] = m at *
            have r1 := hEr.mi.look (t := 245) keyI mapIS (0, 0) (by rfl) hkk
            have r2 := hMr.look (t := 152) keyI mapII 0 (by rfl) hkk
            obtain ⟨sp, HSP⟩ : ∃ sp, Hid ((spF e0 e1 ps (ordL ps n) (allF asks) m).getD (0, 0) = sp) := ⟨_, Lib.hid rfl⟩
            obtain ⟨wv, HWV⟩ : ∃ wv, Hid ((askF asks m).getD 0 = wv) := ⟨_, Lib.hid rfl⟩
            have HEV : Hid (evK e0 e1 ps n asks m = ⟨m, sp.1, sp.2, wv⟩) := Lib.hid (by unfold evK; rw [HSP.out, HWV.out])
            rw [HSP.out] at r1
            rw [HWV.out] at r2
            obtain ⟨sa, sb⟩ := sp
            change (Instr.lookup _ _ _ _).run _ wr = .ok (.agg #[.int .i64 sa, .int .i64 sb]) wr at r1
            change (Instr.lookup _ _ _ _).run _ wr = .ok (.int .i64 wv) wr at r2
            have y7 := hEr.k2.cells 0 _ rfl
            have l7 := hEr.k2.lt
            have k0 : (0 : Int) ≤ (k : Int) := by omega
            have k1 : (k : Int) < (K.length : Int) := by omega
            clear hEr hMr hkc hkk
            go_wp2_with (at_builtin; refine Go.wpList_append_own_at _ rfl _ _ 218 rfl w4.heap.size 223 i0 (.agg #[.int .i64 0, .int .i64 0, .int .i64 0, .int .i64 0]) 4 32 Tryz.underlying218 hi0 hz0 hz1 hz2 rfl (by decide) _ _ _ rfl (HO.out.alloc _) ⟨wr.heap.size, 0, none⟩ 1 1 [.int .i64 sa, .int .i64 sb, .int .i64 m, .int .i64 wv] rfl rfl (quad_cells wr _ _ _ _ _) (by simp [Value.oneCell']) (by unfold maxLen; omega) (by omega) (by simp; omega) ?_; intro v' w5 hown' hgrow hnil hat; obtain ⟨A2, c2, rfl, hc2, _⟩ := own_slice hown')
            go_roundw
            case rel =>
              refine ⟨k + 1, hlt, by go_num, Lib.hid ?_, Lib.hid (HBR.out.trans (Below.grown hgrow hwr fun k hk => (own_lt HO.out k hk).1))⟩
              rw [HT.out, List.map_append, List.map_cons, List.map_nil, evs_snoc, HEV.out]
              exact hown'
            case measure => simp [intOf]; omega
          · have HT : Hid (evs ((K.take k).map (evK e0 e1 ps n asks)) = evs (evP e0 e1 ps n asks)) := Lib.hid (by rw [List.take_of_length_le (by omega), HK.out])
            have HL : Hid (k = (evP e0 e1 ps n asks).length) := Lib.hid (by rw [← HK.out, List.length_map]; omega)
            rw [HT.out] at HO
            have HD := HBR.out.block _ hdw4 |>.trans HD4.out
            have HDH := Lib.hid HD
            clear HD
            go_wp2_with fail
            refine ⟨by simp, .inl ⟨_, _, rfl, run_takeDeferred HDH.out, ?_⟩⟩
            refine ⟨_, results_tmp rfl _ _ _, ?_⟩
            rw [← HL.out]
            have hbl := HE4.out.bl.trans (HBR.out.mono HE4.out.bl.size)
            have hb1 := HE4.out.bl.size
            refine ⟨_, rfl, (own_block HO.out (fun k hk => World.putObj_heap_other (by have := (own_lt HO.out k hk).1; omega))).base_ hb1, ?_⟩
            exact ⟨hbl.os, hbl.tape, hbl.output, by rw [putObj_size]; exact hbl.size, fun k hk => (World.putObj_heap_other (by omega)).trans (hbl.block k hk)⟩
      · intro W1 pre W' _ _ _ _ _ _ _ _ h
        exact h.elim
    · have HR' := Lib.hid hR'
      have HE5 := Lib.hid (HE.out.grown hg5 (by omega))
      have HX := Lib.hid (And.intro hx (And.intro hlx hfx))
      have HZ := Lib.hid hz5
      change (Instr.next _ _ _).run _ wr = .ok (.tuple #[.bool true, .int .i64 x, .int .i64 a]) W5 at hrun
      change (Instr.entry _).run _ W5 = .ok (.tuple #[.int .i64 x, .int .i64 a]) W5 at hent
      have y7 := HE5.out.k2.cells 0 _ rfl
      have l7 := HE5.out.k2.lt
      clear hx hlx hfx hR' hg5 hz5
      go_wp2_with fail
      refine wp_invT 3 (by kernel_rfl) (by kernel_rfl) (by kernel_rfl) (by decide) (FL [PEq (.map (some (W.heap.size + 1))), PEq (.int .i64 x), PEq (.agg #[.int .i64 (-50), .int .i64 50])])
        (fun x => Below W5.heap.size W5 x) (fun x y => Below x.heap.size x y) (FL.keepB (by simp [stbB_eq])) (below_drew W5) ?_ ?_
      · intro iq o hi' ho listed vals a w5 hdep hM hAt K hK
        have HI := Lib.hid hM.inv
        match iq, hi' with
        | 0, _ =>
          injection ho with ho
          subst ho
          rw [if_pos (wantedN rfl)]
          obtain ⟨e7, e7'⟩ := hAt.slot 7 (by kernel_rfl) (by rfl)
          have q0 := HI.out.at_ l7 y7
          go_simp
          exact hK _ w5 (Below.refl _ _) HI.out rfl
        | 1, _ =>
          injection ho with ho
          subst ho
          rw [if_pos (wantedN rfl)]
          obtain ⟨e8, e8'⟩ := hAt.slot 8 (by kernel_rfl) (by rfl)
          go_simp
          exact hK _ w5 (Below.refl _ _) HI.out rfl
        | 2, _ =>
          injection ho with ho
          subst ho
          rw [if_pos (wantedN rfl)]
          go_simp
          refine (all_any w5).mono ?_
          rintro e w6 ⟨rfl, hb6⟩
          exact hK _ w6 hb6 (HI.out.trans (hb6.mono HI.out.size)) rfl
        | jq + 3, hq => exact absurd hq (by omega)
      · intro vals w5 hM
        have HI := Lib.hid hM.inv
        have f0 : vals 0 = .map (some (W.heap.size + 1)) := hM.all (by decide) 0 (by omega)
        have f1 : vals 1 = .int .i64 x := hM.all (by decide) 1 (by omega)
        have f2 : vals 2 = .agg #[.int .i64 (-50), .int .i64 50] := hM.all (by decide) 2 (by omega)
        clear hM
        simp only [putAll, List.range, List.range.loop, List.foldl_cons, List.foldl_nil, f0, f1, f2]
        clear f0 f1 f2
        change wpAny _ _ _ _ _ _ (Act.put (Act.put (Act.put _ (some 21) _) (some 22) _) (some 23) _) _
        simp only [Act.put, List.setIfInBounds_toArray, List.set_cons_zero, List.set_cons_succ]
        have HE6 := Lib.hid (HE5.out.below HI.out)
        have HR6 := Lib.hid (MR.kept HR'.out (grown_of_below HI.out none) (by simp) (by simp))
        obtain ⟨W7, hrun, hE7, hg7, hz7⟩ := HE6.out.upd (by omega) HX.out.1 (-50) 50
        have HE7 := Lib.hid hE7
        have HR7 := Lib.hid (MR.kept HR6.out hg7 (by intro e; injection e with e; omega) (by intro e; injection e with e; omega))
        clear hE7 hg7
        refine tail_step 3 _ (by kernel_rfl) rfl rfl (fun K' hK => ?_)
        go_simp
        refine hK _ _ ?_
        clear hK K' hrun
        refine wpAny_done (by kernel_rfl) ?_ _
        go_wp2_with fail
        go_roundg cnt'
        case measure => exact hlt
        case rel =>
          refine ⟨_, _, by omega, Lib.hid (HE7.out.mono (show cnt - gk + 1 ≤ cnt - cnt' by omega)), HR7, Lib.hid ?_⟩
          obtain ⟨_, q2, q3⟩ := HX.out
          have hh : hasAt asks x = true := by
            unfold askF at q3
            by_cases h : hasAt asks x = true
            · exact h
            · rw [if_neg h] at q3; cases q3
          rw [HF.out]
          funext y
          by_cases hy : y = x
          · subst hy; simp [hh]
          · simp [hy]
end Go.Proofs.YtcdjoegihmfanaaGreat
namespace Go.Proofs.YtcdjoegihmfanaaGreat
open Go.RowKit
set_option linter.unusedVariables false
attribute [local go_sem] run_makeMap
def reE (l : List Ev) (c : Nat) : Ending := .returned (.tuple #[.agg #[.int .i64 (solS false l c), .int .i64 (solS true l c)], .bool (solB l c)])
theorem evP_len {e0 e1 : Int} {ps : List Pr} {n : Int} {asks : List (Int × Int)} (hp : ps.length ≤ 10) (ha : okAsks asks) : (evP e0 e1 ps n asks).length ≤ 1000 := by
  have h1 := evP_length_le e0 e1 ps n asks
  have h2 := ordL_length ps n
  have h3 := ha.1
  omega
set_option maxHeartbeats 1000000 in
theorem reach_any (g : Nat) (e0 e1 : Int) (PA : Option Addr) (c : Nat) (ps : List Pr) (TA : Option Addr) (d : Nat) (ts : List Tr) (n : Int) (mb nb : Nat) (asks : List (Int × Int)) (ch : Nat) (W : World) (hG : Gd W g e0 e1 PA c ps TA d ts) (hM : MI intE Tryz.prog 3 W mb nb (askF asks)) (hnb : nb ≤ 900) (ha : okAsks asks) (hch : ch ≤ 4) :
    Calls Tryz.prog 89 #[.pointer (some ⟨g, 0, none⟩), .int .i64 n, .map (some mb), .int .i64 (ch : Nat)] W fun e w' => e = reE (evP e0 e1 ps n asks) ch ∧ Below W.heap.size W w' := by
  have HE := fun w1 (hb : Below W.heap.size W w1) => Lib.hid (events_any g e0 e1 PA c ps TA d ts n mb nb asks w1 (hG.below hb) (hM.below hb) hnb)
  have HL := Lib.hid (evP_len (e0 := e0) (e1 := e1) (n := n) hG.ok.lp ha)
  have HW := Lib.hid (evP_bd (e0 := e0) (e1 := e1) hG.ok.once (n := n) ha)
  clear hG hM ha
  unfold reE
  generalize evP e0 e1 ps n asks = l at *
  have HS0 := fun A cap w hr => Lib.hid (solve_sums false A cap l ch w hr HL.out HW.out hch)
  have HS1 := fun A cap w hr => Lib.hid (solve_sums true A cap l ch w hr HL.out HW.out hch)
  have hs : Calls Tryz.prog 148 #[] (W.alloc (.cells #[.int .i64 0, .int .i64 0] 36)) _ := sides_any _
  simp only [sdV, sdF, if_true, if_false, Bool.false_eq_true] at HS0 HS1 hs
  go_enter Tryz.func89, Tryz.ntmps89
  go_wp2_with fail
  refine hs.mono ?_
  rintro e w1 ⟨rfl, hb1⟩
  have B0 := (Blk.new W [.int .i64 0, .int .i64 0] 36).below hb1
  have hbw : Below W.heap.size W w1 := (below_new _ _).trans (hb1.mono (by simp))
  clear hs hb1
  go_wp2_with fail
  have b2 := below_new w1 (.cells #[.func (.func 180) #[] #[]] 213)
  have B1 := Blk.new w1 [.func (.func 180) #[] #[]] 213
  have b3 := below_new (w1.alloc (.cells #[.func (.func 180) #[] #[]] 213)) (.cells #[.func (.func 181) #[] #[]] 213)
  have B2 := Blk.new (w1.alloc (.cells #[.func (.func 180) #[] #[]] 213)) [.func (.func 181) #[] #[]] 213
  have B1 := B1.below b3
  have B0 := (B0.below b2).below b3
  have hbw := (hbw.trans (b2.mono hbw.size)).trans (b3.mono (Nat.le_trans hbw.size b2.size))
  rw [World.size_alloc] at B2
  change Blk ((w1.alloc (.cells #[.func (.func 180) #[] #[]] 213)).alloc (.cells #[.func (.func 181) #[] #[]] 213)) _ _ at B2
  clear b2 b3
  generalize (w1.alloc (.cells #[.func (.func 180) #[] #[]] 213)).alloc (.cells #[.func (.func 181) #[] #[]] 213) = w2 at *
  refine (HE w2 hbw).out.mono ?_
  rintro e w3 ⟨v, rfl, hv, hb3⟩
  obtain ⟨A, cap, rfl, hcap, hr⟩ := own_slice hv
  have B0 := B0.below hb3
  have B1 := B1.below hb3
  have B2 := B2.below hb3
  have hbw := hbw.trans (hb3.mono hbw.size)
  have q1 := B1.cells 0 _ rfl
  have q2 := B2.cells 0 _ rfl
  have l1 := B1.lt
  have l2 := B2.lt
  have HR := Lib.hid hr
  clear HE hv hb3 hr
  go_wp2_with fail
  refine (HS0 _ _ w3 HR.out).out.mono ?_
  rintro e w4 ⟨v4, rfl, hv4, hb4⟩
  have q2 := hb4.at_ l2 q2
  have l2 := Nat.lt_of_lt_of_le l2 hb4.size
  have HR4 := Lib.hid (HR.out.next hb4)
  have B0 := B0.below hb4
  have hbw := hbw.trans (hb4.mono hbw.size)
  have HV4 := Lib.hid hv4
  clear hv4 HS0 hb4 q1 l1
  go_wp2_with fail
  refine (HS1 _ _ w4 HR4.out).out.mono ?_
  rintro e w5 ⟨v5, rfl, hv5, hb5⟩
  have B0 := B0.below hb5
  have hbw := hbw.trans (hb5.mono hbw.size)
  have c0 := B0.cells 0 _ rfl
  have c1 := B0.cells 1 _ rfl
  have f0 := B0.free 0
  have f1 := B0.free 1
  have lt := B0.lt
  clear hv5 HS1 hb5 q2 l2
  go_wp2_with fail
  obtain ⟨r0, r1⟩ := two_set (u := .int .i64 (solS false l ch)) (v := .int .i64 (solS true l ch)) c0 c1
  refine bodyPost_ret (v := .tuple #[.agg #[.int .i64 (solS false l ch), .int .i64 (solS true l ch)], .bool (solB l ch)]) (by simp [results, Tryz.results89, go_sem, r0, r1]) rfl ⟨rfl, (hbw.setCell (p := ⟨W.heap.size, 0, none⟩) (Nat.le_refl _) _).setCell (p := ⟨W.heap.size, 1, none⟩) (Nat.le_refl _) _⟩
def atCode (e0 e1 : Int) (ps : List Pr) (ts : List Tr) (n m ch : Int) : Int :=
  if askCode (ckBook e0 e1 ps ts) n 0 ≠ 0 then askCode (ckBook e0 e1 ps ts) n 0 else if askCode (ckBook e0 e1 ps ts) n ch ≠ 0 ∨ inB m 0 10000 = false then 4 else if solB (evP e0 e1 ps n [(m, 1)]) ch.toNat then 0 else 7
def atE (e0 e1 : Int) (ps : List Pr) (ts : List Tr) (n m ch : Int) : Int × Int :=
  if atCode e0 e1 ps ts n m ch = 0 then (solS false (evP e0 e1 ps n [(m, 1)]) ch.toNat, solS true (evP e0 e1 ps n [(m, 1)]) ch.toNat) else (0, 0)
theorem askF_one (m : Int) : (fun y => if y = m then some (1 : Int) else none) = askF [(m, 1)] := by
  funext y
  unfold askF hasAt sumAt
  by_cases h : y = m
  · subst h; simp [sumAt]
  · have h' : ¬ m = y := fun e => h e.symm
    simp [h, h']
set_option maxHeartbeats 1000000 in
theorem At_any (e0 e1 : Int) (A B : Option Addr) (c d : Nat) (ps : List Pr) (ts : List Tr) (n m ch : Int) (w : World) (hA : BA w A B c d ps ts) :
    Calls Tryz.prog 20 #[bkV e0 e1 (.slice A ps.length c) (.slice B ts.length d), .int .i64 n, .int .i64 m, .int .i64 ch] w fun e w' => e = spE (atE e0 e1 ps ts n m ch) (atCode e0 e1 ps ts n m ch) ∧ Below w.heap.size w w' := by
  have HC := fun w1 (hb : Below w.heap.size w w1) => Lib.hid (asked_any e0 e1 A B c d ps ts n 0 w1 (hA.next hb))
  have HD := fun w1 (hb : Below w.heap.size w w1) => Lib.hid (asked_any e0 e1 A B c d ps ts n ch w1 (hA.next hb))
  have HA := Lib.hid hA
  clear hA
  unfold bkV at HC HD ⊢
  go_enter Tryz.func20, Tryz.ntmps20
  go_wp2_with fail
  have b0 := below_new w (.cells #[.int .i64 e0, .int .i64 e1, .slice A ps.length c, .slice B ts.length d] 26)
  have B0 := Blk.new w [.int .i64 e0, .int .i64 e1, .slice A ps.length c, .slice B ts.length d] 26
  change Blk (w.alloc (.cells #[.int .i64 e0, .int .i64 e1, .slice A ps.length c, .slice B ts.length d] 26)) _ _ at B0
  have hz0 : (w.alloc (.cells #[.int .i64 e0, .int .i64 e1, .slice A ps.length c, .slice B ts.length d] 26)).heap.size = w.heap.size + 1 := by simp
  generalize w.alloc (.cells #[.int .i64 e0, .int .i64 e1, .slice A ps.length c, .slice B ts.length d] 26) = W0 at *
  have b1 := below_new W0 (.cells #[.int .i64 0, .int .i64 0] 36)
  have B1 := Blk.new W0 [.int .i64 0, .int .i64 0] 36
  change Blk (W0.alloc (.cells #[.int .i64 0, .int .i64 0] 36)) _ _ at B1
  have B0 := B0.below b1
  have hbw := b0.trans (b1.mono b0.size)
  rw [hz0] at B1
  clear b0 b1 hz0
  generalize W0.alloc (.cells #[.int .i64 0, .int .i64 0] 36) = W1 at *
  refine (HC W1 hbw).out.mono ?_
  rintro e w1 (⟨h0, g, rfl, hg, hk, hb1⟩ | ⟨h0, rfl, hb1⟩)
  · have B0 := B0.below hb1
    have b0 := B0.cells 0 _ rfl
    have b1 := B0.cells 1 _ rfl
    have b2 := B0.cells 2 _ rfl
    have b3 := B0.cells 3 _ rfl
    have bl := B0.lt
    have B1 := B1.below hb1
    have hbw := hbw.trans (hb1.mono hbw.size)
    have H0 := Lib.hid h0
    clear HC h0 hk hb1 hg
    go_wp2_with fail
    refine (HD w1 hbw).out.mono ?_
    rintro e w2 (⟨h0, g2, rfl, hg, hk, hb2⟩ | ⟨h0, rfl, hb2⟩)
    · have hG := Gd.mk' (HA.out.next (hbw.trans (hb2.mono hbw.size))) hk (ask_ok h0).1
      have HG := Lib.hid hG
      have H2 := Lib.hid h0
      have B1 := B1.below hb2
      have hbw := hbw.trans (hb2.mono hbw.size)
      have c0 := B1.cells 0 _ rfl
      have c1 := B1.cells 1 _ rfl
      have f0 := B1.free 0
      have f1 := B1.free 1
      have lt := B1.lt
      clear HD h0 hk hb2 hG b0 b1 b2 b3 bl B0
      go_wp2_with fail
      refine (in_any _ _ _ _).mono ?_
      rintro e w3 ⟨rfl, rfl⟩
      cases h1 : inB m 0 10000
      · have H1 : Hid (atCode e0 e1 ps ts n m ch = 4) := Lib.hid (by unfold atCode; rw [if_neg (by rw [H0.out]; simp), if_pos (.inr h1)])
        clear h1
        go_wp2_with fail
        obtain ⟨r0, r1⟩ := two_set (u := .int .i64 0) (v := .int .i64 0) c0 c1
        refine bodyPost_ret (v := .tuple #[.agg #[.int .i64 0, .int .i64 0], .int .i64 4]) (by simp [results, Tryz.results20, go_sem, r0, r1]) rfl ⟨spE_eq (s := (0, 0)) (by unfold atE; rw [H1.out]; rfl) H1.out.symm, (hbw.setCell (p := ⟨w.heap.size + 1, 0, none⟩) (by simp) _).setCell (p := ⟨w.heap.size + 1, 1, none⟩) (by simp) _⟩
      · have H1 : Hid (atCode e0 e1 ps ts n m ch = if solB (evP e0 e1 ps n [(m, 1)]) ch.toNat then 0 else 7) := Lib.hid (by unfold atCode; rw [if_neg (by rw [H0.out]; simp), if_neg (by rw [H2.out, h1]; simp)])
        obtain ⟨_, _, hc0, hc4⟩ := ask_ok H2.out
        obtain ⟨k, rfl⟩ : ∃ k : Nat, ch = (k : Nat) := ⟨ch.toNat, by omega⟩
        rw [Int.toNat_natCast] at H1
        have hx : i64ok m := by have := inB_iff.1 h1; unfold i64ok; omega
        have HX := Lib.hid hx
        have hM0 := MI.new intE Tryz.prog 3 w2
        have ba := below_new w2 (.map #[] 0)
        obtain ⟨w4, hrun, hM, hg4, hz4⟩ := hM0.update keyI mapII (by decide) hx 1
        change (Instr.mapUpdate _ _ _ (.int .i64 1)).run _ _ = .ok () w4 at hrun
        have hbz : Below w2.heap.size w2 w4 := below_grown ba hg4 (Nat.le_refl _)
        rw [askF_one] at hM
        have HR := Lib.hid (reach_any g2 e0 e1 A c ps B d ts n w2.heap.size 1 [(m, 1)] k w4 (HG.out.below hbz) hM (by decide) ⟨by simp, fun p hp => by simp at hp; subst hp; simp⟩ (by omega))
        clear h1 hc0 hc4 hM0 hM hx
        go_wp2_with fail
        refine HR.out.mono ?_
        rintro e w5 ⟨rfl, hb5⟩
        unfold reE
        have hb25 := hbz.trans (hb5.mono hbz.size)
        have c0 := hb25.at_ lt c0
        have c1 := hb25.at_ lt c1
        have f0 := (hb25.frozen (p := ⟨w.heap.size + 1, 0, none⟩) lt).trans f0
        have f1 := (hb25.frozen (p := ⟨w.heap.size + 1, 1, none⟩) lt).trans f1
        have lt := Nat.lt_of_lt_of_le lt hb25.size
        have hbw := hbw.trans (hb25.mono hbw.size)
        clear HR hb25 hbz hb5 hrun hg4 hz4 ba
        have HE : Hid (atE e0 e1 ps ts n m (k : Nat) = if solB (evP e0 e1 ps n [(m, 1)]) k then (solS false (evP e0 e1 ps n [(m, 1)]) k, solS true (evP e0 e1 ps n [(m, 1)]) k) else (0, 0)) := Lib.hid (by
          unfold atE
          rw [H1.out, Int.toNat_natCast]
          cases solB (evP e0 e1 ps n [(m, 1)]) k <;> simp)
        obtain ⟨x0, HX0⟩ : ∃ x, Hid (solS false (evP e0 e1 ps n [(m, 1)]) k = x) := ⟨_, Lib.hid rfl⟩
        obtain ⟨x1, HX1⟩ : ∃ x, Hid (solS true (evP e0 e1 ps n [(m, 1)]) k = x) := ⟨_, Lib.hid rfl⟩
        obtain ⟨bb, HBB⟩ : ∃ x, Hid (solB (evP e0 e1 ps n [(m, 1)]) k = x) := ⟨_, Lib.hid rfl⟩
        rw [HX0.out, HX1.out, HBB.out] at HE
        rw [HX0.out, HX1.out, HBB.out]
        rw [HBB.out] at H1
        clear HX0 HX1 HBB
        cases bb
        · go_wp2_with fail
          obtain ⟨r0, r1⟩ := two_set (u := .int .i64 0) (v := .int .i64 0) c0 c1
          have hbz := (hbw.setCell (p := ⟨w.heap.size + 1, 0, none⟩) (by simp) (.int .i64 0)).setCell (p := ⟨w.heap.size + 1, 1, none⟩) (by simp) (.int .i64 0)
          have hlz : w.heap.size + 1 < ((w5.setCell ⟨w.heap.size + 1, 0, none⟩ (.int .i64 0)).setCell ⟨w.heap.size + 1, 1, none⟩ (.int .i64 0)).heap.size := by simpa [World.setCell] using lt
          generalize (w5.setCell _ _).setCell _ _ = Z at r0 r1 hbz hlz ⊢
          have hba := below_new Z (.cells #[.int .i64 x0, .int .i64 x1] 36)
          have q0 := hba.at_ hlz r0
          have q1 := hba.at_ hlz r1
          have hbq := hbz.trans (hba.mono hbz.size)
          generalize Z.alloc _ = Y at q0 q1 hbq ⊢
          exact bodyPost_ret (v := .tuple #[.agg #[.int .i64 0, .int .i64 0], .int .i64 7]) (by simp [results, Tryz.results20, go_sem, q0, q1]) rfl ⟨spE_eq (s := (0, 0)) (by rw [HE.out]; rfl) H1.out.symm, hbq⟩
        · go_wp2_with fail
          obtain ⟨r0, r1⟩ := two_set (u := .int .i64 x0) (v := .int .i64 x1) c0 c1
          have hbz := (hbw.setCell (p := ⟨w.heap.size + 1, 0, none⟩) (by simp) (.int .i64 x0)).setCell (p := ⟨w.heap.size + 1, 1, none⟩) (by simp) (.int .i64 x1)
          have hlz : w.heap.size + 1 < ((w5.setCell ⟨w.heap.size + 1, 0, none⟩ (.int .i64 x0)).setCell ⟨w.heap.size + 1, 1, none⟩ (.int .i64 x1)).heap.size := by simpa [World.setCell] using lt
          generalize (w5.setCell _ _).setCell _ _ = Z at r0 r1 hbz hlz ⊢
          have hba := below_new Z (.cells #[.int .i64 x0, .int .i64 x1] 36)
          have q0 := hba.at_ hlz r0
          have q1 := hba.at_ hlz r1
          have hbq := hbz.trans (hba.mono hbz.size)
          generalize Z.alloc _ = Y at q0 q1 hbq ⊢
          exact bodyPost_ret (v := .tuple #[.agg #[.int .i64 x0, .int .i64 x1], .int .i64 0]) (by simp [results, Tryz.results20, go_sem, q0, q1]) rfl ⟨spE_eq (s := (x0, x1)) (by rw [HE.out]; rfl) H1.out.symm, hbq⟩
    · have H1 : Hid (atCode e0 e1 ps ts n m ch = 4) := Lib.hid (by unfold atCode; rw [if_neg (by rw [H0.out]; simp), if_pos (.inl h0)])
      have h0' : (askCode (ckBook e0 e1 ps ts) n ch == 0) = false := by simpa using h0
      have h0'' : (askCode (ckBook e0 e1 ps ts) n ch != 0) = true := by simpa using h0
      have B1 := B1.below hb2
      have hbw := hbw.trans (hb2.mono hbw.size)
      have c0 := B1.cells 0 _ rfl
      have c1 := B1.cells 1 _ rfl
      have f0 := B1.free 0
      have f1 := B1.free 1
      have lt := B1.lt
      clear HD h0 hb2 b0 b1 b2 b3 bl B0
      go_wp2_with fail
      obtain ⟨r0, r1⟩ := two_set (u := .int .i64 0) (v := .int .i64 0) c0 c1
      refine bodyPost_ret (v := .tuple #[.agg #[.int .i64 0, .int .i64 0], .int .i64 4]) (by simp [results, Tryz.results20, go_sem, r0, r1]) rfl ⟨spE_eq (s := (0, 0)) (by unfold atE; rw [H1.out]; rfl) H1.out.symm, (hbw.setCell (p := ⟨w.heap.size + 1, 0, none⟩) (by simp) _).setCell (p := ⟨w.heap.size + 1, 1, none⟩) (by simp) _⟩
  · have H1 : Hid (atCode e0 e1 ps ts n m ch = askCode (ckBook e0 e1 ps ts) n 0) := Lib.hid (by unfold atCode; rw [if_pos h0])
    have H0 := Lib.hid h0
    have h0' : (askCode (ckBook e0 e1 ps ts) n 0 == 0) = false := by simpa using h0
    have h0'' : (askCode (ckBook e0 e1 ps ts) n 0 != 0) = true := by simpa using h0
    have B1 := B1.below hb1
    have hbw := hbw.trans (hb1.mono hbw.size)
    have c0 := B1.cells 0 _ rfl
    have c1 := B1.cells 1 _ rfl
    have f0 := B1.free 0
    have f1 := B1.free 1
    have lt := B1.lt
    clear HC HD h0 hb1 B0
    go_wp2_with fail
    obtain ⟨r0, r1⟩ := two_set (u := .int .i64 0) (v := .int .i64 0) c0 c1
    refine bodyPost_ret (v := .tuple #[.agg #[.int .i64 0, .int .i64 0], .int .i64 (askCode (ckBook e0 e1 ps ts) n 0)]) (by simp [results, Tryz.results20, go_sem, r0, r1]) rfl ⟨spE_eq (s := (0, 0)) (by unfold atE; rw [if_neg (by rw [H1.out]; exact H0.out)]) H1.out.symm, (hbw.setCell (p := ⟨w.heap.size + 1, 0, none⟩) (by simp) _).setCell (p := ⟨w.heap.size + 1, 1, none⟩) (by simp) _⟩
end Go.Proofs.YtcdjoegihmfanaaGreat
namespace Go.Proofs.YtcdjoegihmfanaaGreat
open Go.RowKit Go.Sort
set_option linter.unusedVariables false
theorem mapIB : Tryz.prog.underlying 162 = some (.map 3 4) := by kernel_rfl
set_option maxRecDepth 100000 in
theorem but1_any (bb mb nb : Nat) (f : Int → Option Bool) (x : Int) (W : World) (hM : MI boolE Tryz.prog 3 W mb nb f) (hb : W.cell? ⟨bb, 0, none⟩ = some (.map (some mb))) (hx : i64ok x) :
    Calls Tryz.prog 154 #[.int .i64 x, .pointer (some ⟨bb, 0, none⟩)] W fun e w' => e = .returned (.bool ((f x).getD false)) ∧ w' = W := by
  have hl := hM.look (t := 162) keyI mapIB false (by rfl) hx
  change (Instr.lookup _ _ _ _).run _ W = .ok (.bool ((f x).getD false)) W at hl
  clear hM
  go_enter Tryz.func154, Tryz.ntmps154
  go_wp2_with fail
  go_ret
  exact ⟨rfl, rfl⟩
def toF (i : Nat) : Fin 1000 := ⟨i % 1000, Nat.mod_lt _ (by decide)⟩
def encF (i : Fin 1000) : Value := .int .i64 (i.val : Nat)
theorem toF_val {i : Nat} (h : i < 1000) : (toF i).val = i := Nat.mod_eq_of_lt h
theorem nums_toF {l : List Nat} (h : ∀ i ∈ l, i < 1000) : (l.map toF).map encF = nums l := by
  unfold nums ints
  rw [List.map_map, List.map_map]
  refine List.map_congr_left fun i hi => ?_
  simp only [Function.comp, encF, toF_val (h i hi)]
theorem filter_toF {l : List Nat} (h : ∀ i ∈ l, i < 1000) (G : Nat → Bool) : ((l.map toF).filter fun x => !G x.val) = (l.filter fun i => !G i).map toF := by
  rw [List.filter_map]
  congr 1
  refine List.filter_congr fun i hi => ?_
  simp only [Function.comp, toF_val (h i hi)]
theorem zero_ints (n : Nat) (W : World) (hn : n ≤ 1000000) : (Instr.makeSlice 41 (.int .i64 (n : Int)) (.int .i64 (n : Int))).run Tryz.prog W = .ok (.slice (some ⟨W.heap.size, 0, none⟩) n n) (W.alloc (.cells (List.replicate n (Value.int .i64 0)).toArray 3)) := by
  obtain ⟨i0, hi, hz0, hz1, hz2⟩ := info_parts infoInt'
  have h := run_make (P := Tryz.prog) (w := W) 41 3 i0 (.int .i64 0) Tryz.underlying41 hi hz0 .i64 .i64 n n (by omega) (by omega) (by rw [hz2]; omega) (by omega)
  simp only [Int.toNat_natCast, hz1, Nat.mul_one] at h
  have e : madeCells (Value.int .i64 0).cells n = (List.replicate n (Value.int .i64 0)).toArray := by
    apply Array.ext'
    show (madeCells #[Value.int .i64 0] n).toList = _
    rw [toList_madeCells_one]
  rw [e] at h
  exact h
set_option maxRecDepth 100000 in
/-- DeleteFunc at a row of numbers of one's own. -/
theorem delF_any (bb mb nb : Nat) (f : Int → Option Bool) (G : Nat → Bool) (hf : ∀ i : Nat, i < 1000 → (f (i : Nat)).getD false = G i) (b cap : Nat) (l : List Nat) (hl : ∀ i ∈ l, i < 1000) (w : World) (hM : MI boolE Tryz.prog 3 w mb nb f) (hb : w.cell? ⟨bb, 0, none⟩ = some (.map (some mb))) (hbl : bb < w.heap.size) (hbb : b < w.heap.size) (hne : bb ≠ b) (hcap : l.length ≤ cap) (hlen : l.length ≤ 1000) (hH : w.heap[b]? = some (.cells (nums l).toArray 3 (0, 0))) :
    Calls Tryz.prog 153 #[.slice (some ⟨b, 0, none⟩) l.length cap, .func (.func 154) #[] #[.pointer (some ⟨bb, 0, none⟩)]] w fun e w' => e = .returned (.slice (some ⟨b, 0, none⟩) (l.filter fun i => !G i).length cap) ∧ Rd w' w'.heap.size (some ⟨b, 0, none⟩) (nums (l.filter fun i => !G i)) ∧ w.grownBy w' (some b) := by
  have hmb : mb ≠ b := by
    rintro rfl
    obtain ⟨D, ⟨es, clock, h1, _⟩, _⟩ := hM
    rw [h1] at hH; cases hH
  have hHold : Holds encF w b 0 (l.map toF).toArray := by
    intro j hj
    have hj' : j < l.length := by simpa using hj
    refine ⟨?_, by simp [World.frozen?, hH]⟩
    have : (nums l)[j]? = some (encF (toF l[j])) := by
      rw [← nums_toF hl]; simp [hj']
    rw [Nat.zero_add]
    unfold World.cell?
    rw [hH]
    simp [this, hj']
  have hpred : ∀ (W : World), W.heap[mb]? = w.heap[mb]? → W.heap[bb]? = w.heap[bb]? → ∀ x : Fin 1000, FnGives Tryz.prog 154 #[.pointer (some ⟨bb, 0, none⟩)] #[encF x] (.bool (G x.val)) W := by
    intro W h1 h2 x
    have hx := x.2
    have := but1_any bb mb nb f (x.val : Nat) W (hM.block h1) ((World.cell?_of_block (a := ⟨bb, 0, none⟩) h2).trans hb) (by unfold i64ok; omega)
    rw [hf x.val hx] at this
    exact this.mono fun e w' ⟨a, b⟩ => ⟨a, 0, b⟩
  have hmlt := hM.lt
  have h := AnyE.slices_DeleteFunc Tryz.laysDelF encF (fun _ => rfl) (fun x => G x.val) 154 #[.pointer (some ⟨bb, 0, none⟩)] (enters_of Tryz.func154 (by kernel_rfl) rfl) ⟨0, by decide⟩ (fun _ => rfl) b 0 cap (l.map toF).toArray w
    (fun W x hB => hpred W (hB.block mb hmlt) (hB.block bb hbl) x)
    (fun n os dk x hd => hpred _ (by
      unfold sortWorld
      rw [Sort.heap_grow_old _ _ (by simpa [putRow, mapBlock, Sort.ahead] using hmlt)]
      have : b ≠ mb := fun e => hmb e.symm
      simp [putRow, mapBlock, Sort.ahead, Array.getElem?_modify, this]) (by
      unfold sortWorld
      rw [Sort.heap_grow_old _ _ (by simpa [putRow, mapBlock, Sort.ahead] using hbl)]
      have : b ≠ bb := fun e => hne e.symm
      simp [putRow, mapBlock, Sort.ahead, Array.getElem?_modify, this]) x)
    hHold (by simp; omega) (by simpa using hcap)
  have hfl : (((l.map toF).toArray.toList).filter fun x => !G x.val) = (l.filter fun i => !G i).map toF := filter_toF hl G
  simp only [List.size_toArray, List.length_map] at h
  rw [hfl, List.length_map] at h
  refine h.mono ?_
  rintro e w' ⟨rfl, m, rfl⟩
  have hfle := List.length_filter_le (fun i => !G i) l
  obtain ⟨D2, hD2⟩ : ∃ D2, ((l.filter fun i => !G i).map toF ++ List.replicate (l.length - (l.filter fun i => !G i).length) (⟨0, by decide⟩ : Fin 1000)).toArray = D2 := ⟨_, rfl⟩
  have hsz : D2.size = (l.map toF).toArray.size := by rw [← hD2]; simp; omega
  rw [hD2]
  have hgr : w.grownBy (putRow encF (Sort.ahead w m) b 0 D2) (some b) := by
    refine ⟨rfl, rfl, rfl, by simp [putRow, mapBlock, Sort.ahead], fun k hk hne => ?_⟩
    have : b ≠ k := fun e => hne (by rw [e])
    simp [putRow, mapBlock, Sort.ahead, Array.getElem?_modify, this]
  have hK := holds_putRow encF (Sort.ahead w m) b 0 _ D2 (holds_ahead encF w m b 0 _ hHold) hsz
  refine ⟨rfl, fun _ => ⟨b, 0, rfl, Nat.lt_of_lt_of_le hbb hgr.size, fun j u hu => ?_⟩, hgr⟩
  have hj : j < (l.filter fun i => !G i).length := by have := (List.getElem?_eq_some_iff.1 hu).1; simpa [nums, ints] using this
  have hc := (hK j (by rw [hsz]; simp; omega)).1
  have hlt : ∀ i ∈ l.filter fun i => !G i, i < 1000 := fun i hi => hl i (List.mem_filter.1 hi).1
  have hg : D2[j]! = toF (l.filter fun i => !G i)[j] := by
    rw [← hD2]
    simp [List.getElem?_append_left, hj]
  rw [hc, ← hu, ← nums_toF hlt, hg]
  simp [hj]
theorem nums_one (l : List Nat) : ∀ v ∈ nums l, v.oneCell' = true := by unfold nums; exact ints_one _
/-- What but leaves. -/
def butL (ps : List Pr) (n : Int) (G : Nat → Bool) : List Nat := (ordL ps n).filter fun i => !G i
set_option maxRecDepth 100000 in
set_option maxHeartbeats 1000000 in
theorem but_any (g : Nat) (e0 e1 : Int) (PA : Option Addr) (c : Nat) (ps : List Pr) (TA : Option Addr) (d : Nat) (ts : List Tr) (n : Int) (mb nb : Nat) (f : Int → Option Bool) (G : Nat → Bool) (hf : ∀ i : Nat, i < 1000 → (f (i : Nat)).getD false = G i) (W : World) (hG : Gd W g e0 e1 PA c ps TA d ts) (hM : MI boolE Tryz.prog 3 W mb nb f) :
    Calls Tryz.prog 98 #[.pointer (some ⟨g, 0, none⟩), .int .i64 n, .map (some mb)] W fun e w' => ∃ A c', e = .returned (.slice A (butL ps n G).length c') ∧ Rd w' w'.heap.size A (nums (butL ps n G)) ∧ Below W.heap.size W w' := by
  have HG := Lib.hid hG
  have hlo : (ordL ps n).length ≤ 10 := by have := ordL_length ps n; have := hG.ok.lp; omega
  have HLO := Lib.hid hlo
  have HLT : Hid (∀ i ∈ ordL ps n, i < 1000) := Lib.hid fun i hi => by have := ordL_mem_lt i hi; have := hG.ok.lp; omega
  have hmk := fun W => zero_ints (ordL ps n).length W (by omega)
  clear hG
  go_enter Tryz.func98, Tryz.ntmps98
  go_wp2_with fail
  have b0 := below_new W (.cells #[.map (some mb)] 162)
  have B0 := Blk.new W [.map (some mb)] 162
  change Blk (W.alloc (.cells #[.map (some mb)] 162)) _ _ at B0
  have hM0 := hM.below b0
  generalize W.alloc (.cells #[.map (some mb)] 162) = W0 at *
  have HO := Lib.hid (order_any W0 g n PA c ps (Nat.lt_of_lt_of_le HG.out.bk.lt b0.size) (HG.out.below b0).bk.c2 (HG.out.below b0).rp HG.out.ok.lp (fun p hp => (HG.out.ok.pr p hp).1) HG.out.ok.once)
  refine HO.out.mono ?_
  rintro e w1 ⟨v, rfl, hv, hb1⟩
  obtain ⟨A1, c1, rfl, hc1, hr1⟩ := own_slice hv
  have B1 := B0.below hb1
  have hM1 := hM0.below hb1
  have hbw := b0.trans (hb1.mono b0.size)
  have HB1 := Lib.hid B1
  have HM1 := Lib.hid hM1
  have HR1 := Lib.hid hr1
  have HBW := Lib.hid hbw
  clear HO b0 B0 hM0 hb1 hv B1 hM1 hr1 hbw
  go_wp2_with (with_reducible refine wpList_copy_splice rfl _ _ 41 41 rfl 3 Tryz.underlying41 sizeIntV _ _ (ordL ps n).length (ordL ps n).length (ordL ps n).length c1 rfl rfl w1.heap.size 0 (List.replicate (ordL ps n).length (Value.int .i64 0)) 3 (World.alloc_heap_new w1 _) (nums (ordL ps n)) ?_ ?_ ?_ (nums_one _) w1.heap.size w1 (below_new w1 _) (Nat.le_refl _) ?_)
  · rw [nums_length]; exact (Nat.min_self _).symm
  · intro hpos
    obtain ⟨b, off, hA, hbb, hc⟩ := HR1.out (by intro e; rw [e] at hpos; simp at hpos)
    refine ⟨⟨b, off, none⟩, hA, fun j v hv => ?_⟩
    rw [addr_add]
    exact (below_new w1 _).at_ hbb (hc j v hv)
  · rw [nums_length]; simp
  · intro w2 HH hb2
    have hsp : splice (List.replicate (ordL ps n).length (Value.int .i64 0)) 0 (nums (ordL ps n)) = nums (ordL ps n) := by
      unfold splice
      rw [List.take_zero, List.nil_append, List.drop_eq_nil_of_le (by rw [nums_length]; simp), List.append_nil]
    rw [hsp] at HH
    have B2 := HB1.out.below hb2
    have hbl : W.heap.size < w1.heap.size := HB1.out.lt
    have hz2 : w1.heap.size < w2.heap.size := (Array.getElem?_eq_some_iff.1 HH.out).1
    have HD := Lib.hid (delF_any W.heap.size mb nb f G hf w1.heap.size (ordL ps n).length (ordL ps n) HLT.out w2 (HM1.out.below hb2) (B2.cells 0 _ rfl) B2.lt hz2 (by omega) (Nat.le_refl _) (by have := HLO.out; omega) HH.out)
    have hbw := HBW.out.trans (hb2.mono HBW.out.size)
    clear B2
    go_wp2_with fail
    refine HD.out.mono ?_
    rintro e w3 ⟨rfl, hr3, hg3⟩
    have HR3 := Lib.hid hr3
    clear hr3
    go_wp2_with fail
    go_ret
    exact ⟨_, _, rfl, HR3.out, below_grown hbw hg3 (by omega)⟩
end Go.Proofs.YtcdjoegihmfanaaGreat
