/- Wrong: the fewest proofs without which a drift fits the others. slices.Reverse at a row of numbers of one's own. Between which proofs a change can be: groups from the first proof on, and from the last one back. Between which minutes a change can be: the reference's look at each place between two proofs has the ends that groups tell. When: between which minutes a change can be. -/
import Derived.Test.YtcdjoegihmfanaaGreatG12
import Derived.Test.YtcdjoegihmfanaaGreatG13
import Derived.WalkMore
import Derived.Test.YtcdjoegihmfanaaGreatG6
import Derived.Test.YtcdjoegihmfanaaGreatG5
import Derived.Test.YtcdjoegihmfanaaGreatG3
import Derived.Test.YtcdjoegihmfanaaGreatG8
namespace Go.Proofs.YtcdjoegihmfanaaGreat
open Go.RowKit
set_option linter.unusedVariables false
attribute [local go_sem] run_makeMap
theorem bitsub_snoc : ∀ (xs : List Nat) (i set : Nat), bitsub (xs ++ [i]) set = bitsub xs set ++ (if set / 2 ^ xs.length % 2 = 1 then [i] else [])
  | [], i, set => by simp [bitsub]
  | x :: xs, i, set => by
    have ih := bitsub_snoc xs i (set / 2)
    simp only [List.cons_append, bitsub, ih, List.length_cons]
    have e : set / 2 / 2 ^ xs.length = set / 2 ^ (xs.length + 1) := by rw [Nat.div_div_eq_div_mul, Nat.pow_succ, Nat.mul_comm]
    rw [e]
    split <;> rfl
theorem bitsub_len (xs : List Nat) (set : Nat) : (bitsub xs set).length ≤ xs.length := (bitsub_sub xs set).length_le
theorem wrongS_len (P : List Nat → Bool) (own : List Nat) : ∀ k, ((wrongS P own k).getD []).length ≤ own.length
  | 0 => by simp [wrongS]
  | k + 1 => by
    have ih := wrongS_len P own k
    have hb := bitsub_len own k
    simp only [wrongS]
    cases h : wrongS P own k with
    | none => simp only; split <;> simp [hb]
    | some o =>
      rw [h] at ih
      simp only [Option.getD_some] at ih
      simp only
      repeat' split
      all_goals simp only [Option.getD_some]; omega
theorem and_one : ∀ v : Fin 1025, bits BinOp.and IntKind.i64 ((v.val : Nat) : Int) 1 = ((v.val % 2 : Nat) : Int) := by decide +kernel
theorem bit_eq {k m : Nat} (hk : k < 1025) : (bits BinOp.and IntKind.i64 ((k : Int) / 2 ^ m) 1 == 1) = decide (k / 2 ^ m % 2 = 1) := by
  have h1 : ((k : Int) / 2 ^ m) = ((k / 2 ^ m : Nat) : Int) := by simp
  have h2 : k / 2 ^ m < 1025 := Nat.lt_of_le_of_lt (Nat.div_le_self _ _) hk
  rw [h1, and_one ⟨_, h2⟩]
  rw [Bool.eq_iff_iff]
  simp only [beq_iff_eq, decide_eq_true_eq]
  omega
def wstep (P : List Nat → Bool) : Option (List Nat) → List Nat → Option (List Nat)
  | none, l => if P l then some l else none
  | some out, l => if out.length < l.length ∨ (l.length = out.length ∧ lexLt l out = false) then some out else if P l then some l else some out
theorem wrongS_succ {P : List Nat → Bool} {own : List Nat} {k : Nat} {o : Option (List Nat)} (h : wrongS P own k = o) : wrongS P own (k + 1) = wstep P o (bitsub own k) := by
  rw [wrongS, h]
  cases o <;> rfl
/-- Without some a drift fits the others. -/
def wrP (e0 e1 : Int) (ps : List Pr) (n : Int) (ch : Nat) (l : List Nat) : Bool := possB (spI e0 e1 ps) (butL ps n fun i => decide (i ∈ l)) ch
def wrL (e0 e1 : Int) (ps : List Pr) (ts : List Tr) (n ch : Int) : List Nat := if askCode (ckBook e0 e1 ps ts) n ch = 0 then (wrongS (wrP e0 e1 ps n ch.toNat) (ownI ps n) (2 ^ (ownI ps n).length)).getD [] else []
set_option maxRecDepth 100000 in
set_option maxHeartbeats 4000000 in
theorem Wrong_any (e0 e1 : Int) (A B : Option Addr) (c d : Nat) (ps : List Pr) (ts : List Tr) (n ch : Int) (w : World) (hA : BA w A B c d ps ts) :
    Calls Tryz.prog 25 #[bkV e0 e1 (.slice A ps.length c) (.slice B ts.length d), .int .i64 n, .int .i64 ch] w (LstE (wrL e0 e1 ps ts n ch) (askCode (ckBook e0 e1 ps ts) n ch) w) := by
  have HC := fun w1 (hb : Below w.heap.size w w1) => Lib.hid (asked_any e0 e1 A B c d ps ts n ch w1 (hA.next hb))
  have HA := Lib.hid hA
  clear hA
  unfold bkV at HC ⊢
  go_enter Tryz.func25, Tryz.ntmps25
  go_wp2_with fail
  have b0 := below_new w (.cells #[.int .i64 e0, .int .i64 e1, .slice A ps.length c, .slice B ts.length d] 26)
  generalize w.alloc (.cells #[.int .i64 e0, .int .i64 e1, .slice A ps.length c, .slice B ts.length d] 26) = W0 at *
  refine (HC W0 b0).out.mono ?_
  rintro e w1 (⟨h0, g, rfl, hg, hk, hb1⟩ | ⟨h0, rfl, hb1⟩)
  · have hbw := b0.trans (hb1.mono b0.size)
    have hG := Gd.mk' (HA.out.next hbw) hk (ask_ok h0).1
    have HG := Lib.hid hG
    have H0 := Lib.hid h0
    obtain ⟨_, _, hc0, hc4⟩ := ask_ok h0
    obtain ⟨q, rfl⟩ : ∃ q : Nat, ch = (q : Nat) := ⟨ch.toNat, by omega⟩
    have hq : q ≤ 1000 := by omega
    have HBW := Lib.hid hbw
    clear HC h0 hk hb1 hg hG b0 hc0 hc4 hbw
    go_wp2_with fail
    refine (order_any w1 g n A c ps HG.out.bk.lt HG.out.bk.c2 HG.out.rp HG.out.ok.lp (fun p hp => (HG.out.ok.pr p hp).1) HG.out.ok.once).mono ?_
    rintro e w2 ⟨v, rfl, hv, hb2⟩
    obtain ⟨A2, c2, rfl, hc2, hr2⟩ := own_slice hv
    have hlo : (ordL ps n).length ≤ 10 := by have := ordL_length ps n; have := HG.out.ok.lp; omega
    have hlen : (ownI ps n).length = (ordL ps n).length := (ordL_perm ps n).length_eq.symm
    have HS := Lib.hid (sortI_any w1.heap.size ps n A2 c2 w2 (by omega) hv)
    have HB2 := Lib.hid hb2
    clear hv hb2 hr2
    go_wp2_with fail
    refine HS.out.mono ?_
    rintro e w3 ⟨rfl, hr3, hb3⟩
    have hb13 := HB2.out.trans hb3
    have HG3 := Lib.hid (HG.out.below hb13)
    have HBW3 := Lib.hid (HBW.out.trans (hb13.mono HBW.out.size))
    have HR3 := Lib.hid hr3
    have HLEN := Lib.hid hlen
    rw [← hlen]
    have hlo2 : (ownI ps n).length ≤ 10 := by omega
    clear HS hr3 hb3 hb13 HB2 HG HBW hlen hlo
    go_wp2_with fail
    have hN : 2 ^ (ownI ps n).length ≤ 1024 := Nat.pow_le_pow_right (by decide) hlo2
    have hpow : wrap64 ((2 : Int) ^ (ownI ps n).length) = ((2 ^ (ownI ps n).length : Nat) : Int) := by
      have h2 : ((2 : Int) ^ (ownI ps n).length) = ((2 ^ (ownI ps n).length : Nat) : Int) := by simp
      rw [h2]
      generalize 2 ^ (ownI ps n).length = N at hN
      exact IntWalk.wrap64_in _ (by omega)
    simp only [hpow]
    clear hpow
    obtain ⟨N, HN⟩ : ∃ N, Hid (2 ^ (ownI ps n).length = N) := ⟨_, Lib.hid rfl⟩
    rw [HN.out] at hN ⊢
    obtain ⟨i0, hi0, hz0, hz1, hz2⟩ := info_parts infoInt
    have HW : Hid (wrL e0 e1 ps ts n (q : Nat) = (wrongS (wrP e0 e1 ps n q) (ownI ps n) N).getD []) := Lib.hid (by unfold wrL; rw [if_pos H0.out, Int.toNat_natCast, HN.out])
    obtain ⟨own, HOWN⟩ : ∃ own, Hid (ownI ps n = own) := ⟨_, Lib.hid rfl⟩
    rw [HOWN.out] at hlo2 HW HR3 HN ⊢
    have HOL : Hid (∀ i ∈ own, i < 1000) := Lib.hid (fun i hi => by
      rw [← HOWN.out] at hi
      have h1 := (List.mem_filter.1 hi).1
      have h2 := HG3.out.ok.lp
      simp at h1; omega)
    go_loopw [11, 12, 13, 14, 15, 16, 17, 36] (fun s11 s12 _ _ _ _ _ i wr => ∃ (k : Nat) (o : Option (List Nat)), k ≤ N ∧ i = .int .i64 (k : Nat) ∧ s12 = .bool o.isSome ∧ Hid (wrongS (wrP e0 e1 ps n q) own k = o) ∧ Hid (wr.ownsRow w3.heap.size 3 1 s11 (o.getD []).length (nums (o.getD []))) ∧ Hid (Below w3.heap.size w3 wr)) (fun _ _ _ _ _ _ _ i _ => N - (intOf i).toNat)
    case atStart => exact ⟨0, none, Nat.zero_le _, rfl, rfl, Lib.hid rfl, Lib.hid nil_own, Lib.hid (Below.refl _ _)⟩
    case round =>
      obtain ⟨k, o, hk, rfl, rfl, HK, HO, HBR⟩ := hrel
      obtain ⟨Ao, co, rfl, hco, _⟩ := own_slice HO.out
      have hol : (o.getD []).length ≤ 10 := by have := wrongS_len (wrP e0 e1 ps n q) own k; rw [HK.out] at this; omega
      have hwr := HBR.out.size
      by_cases hlt : k < N
      · have k1 : (k : Int) < (N : Int) := by omega
        obtain ⟨wo, hwo⟩ : ∃ x, x = wr := ⟨_, rfl⟩
        subst hwo
        have hba := below_new wo (.map #[] 0)
        have hM9 := MI.new boolE Tryz.prog 3 wo
        have hz9 : wo.heap.size < (wo.alloc (.map #[] 0)).heap.size := by simp
        have HB9 := Lib.hid (HBR.out.trans (hba.mono hwr))
        obtain ⟨W9, hW9⟩ : ∃ W9, wo.alloc (.map #[] 0) = W9 := ⟨_, rfl⟩
        obtain ⟨mb, hmb⟩ : ∃ mb, wo.heap.size = mb := ⟨_, rfl⟩
        rw [hW9, hmb] at hM9 hz9
        rw [hW9] at hba HB9
        have HR9 := Lib.hid (HR3.out.next HB9.out)
        have HG9 := Lib.hid (HG3.out.below HB9.out)
        have HO9 := Lib.hid (own_block HO.out fun k hk => hba.block k (own_lt HO.out k hk).2)
        have HBO := Lib.hid hba
        have HM9 := Lib.hid hM9
        have hmo : wo.heap.size ≤ mb := Nat.le_of_eq hmb
        clear hba hM9
        go_wp2_with fail
        clear hW9 hmb
        go_loopw [15, 16, 17, 42] (fun s15 _ _ j wi => ∃ (m : Nat) (f : Int → Option Bool), m ≤ own.length ∧ j = .int .i64 (m : Nat) ∧ Hid (MI boolE Tryz.prog 3 wi mb m f) ∧ Hid (∀ i : Nat, i < 1000 → (f (i : Nat)).getD false = decide (i ∈ bitsub (own.take m) k)) ∧ Hid (wi.ownsRow W9.heap.size 3 1 s15 (bitsub (own.take m) k).length (nums (bitsub (own.take m) k))) ∧ Hid (W9.grownBy wi (some mb))) (fun _ _ _ j _ => own.length - (intOf j).toNat)
        case atStart => exact ⟨0, _, Nat.zero_le _, rfl, HM9, Lib.hid (fun i _ => by simp [bitsub]), Lib.hid nil_own, Lib.hid (grownBy_self _ _)⟩
        case round =>
          obtain ⟨m, f, hm, rfl, HM, HF, HL, HGR⟩ := hrel
          obtain ⟨Al, cl, rfl, hcl, _⟩ := own_slice HL.out
          have hwi := HGR.out.size
          by_cases hlm : m < own.length
          · obtain ⟨b, off, rfl, hbb, x0⟩ := (HM9.out.rd HGR.out HR9.out).nat hlm
            have m0 : (0 : Int) ≤ (m : Int) := by omega
            have m1 : (m : Int) < (own.length : Int) := by omega
            have HT := Lib.hid (List.take_succ_eq_append_getElem hlm)
            have hx0 := HOL.out _ (List.getElem_mem hlm)
            generalize own[m] = x at *
            have HBS : Hid (bitsub (own.take (m + 1)) k = bitsub (own.take m) k ++ (if k / 2 ^ m % 2 = 1 then [x] else [])) := Lib.hid (by rw [HT.out, bitsub_snoc, List.length_take, Nat.min_eq_left hm])
            go_upto_if 51 with (fail)
            have hbit := bit_eq (k := k) (m := m) (by omega)
            simp only [hbit]
            clear hbit
            by_cases hb : k / 2 ^ m % 2 = 1
            · have HBS2 : Hid (bitsub (own.take (m + 1)) k = bitsub (own.take m) k ++ [x]) := Lib.hid (by rw [HBS.out, if_pos hb])
              rw [decide_eq_true hb]
              have hx : i64ok ((x : Nat) : Int) := by unfold i64ok; omega
              obtain ⟨W8, hrun, hM8, hg8, hz8⟩ := HM.out.update keyI mapIB (by omega) hx true
              change (Instr.mapUpdate _ _ _ (.bool true)).run _ _ = .ok () W8 at hrun
              have HM8 := Lib.hid hM8
              have HGR8 := Lib.hid (grownBy_trans HGR.out hg8)
              have HL8 := Lib.hid (own_block HL.out (w' := W8) fun j hj => hg8.block j (own_lt HL.out j hj).2 (by intro e; injection e with e; have := (own_lt HL.out j hj).1; omega))
              have hz8' : wr.heap.size ≤ W8.heap.size := by omega
              have hbl : (bitsub (own.take m) k).length ≤ 10 := by have := bitsub_len (own.take m) k; rw [List.length_take] at this; omega
              have HF8 : Hid (∀ i : Nat, i < 1000 → ((fun y : Int => if y = (x : Nat) then some true else f y) (i : Nat)).getD false = decide (i ∈ bitsub (own.take m) k ++ [x])) := Lib.hid (fun i hi => by
                by_cases e : i = x
                · subst e; simp
                · have e' : ¬ ((i : Nat) : Int) = (x : Nat) := by omega
                  simp only [if_neg e']
                  rw [HF.out i hi]
                  simp [e])
              clear hb hM8 hg8 hx hz8
              go_wp2_with (at_builtin; refine Go.wpList_append_own_at _ rfl _ _ 41 rfl W9.heap.size 3 i0 (.int .i64 0) 1 8 Tryz.underlying41 hi0 hz0 hz1 hz2 rfl (by decide) _ _ _ rfl (HL8.out.alloc _) ⟨W8.heap.size, 0, none⟩ 1 1 [.int .i64 (x : Nat)] rfl rfl (cell_one_new _ _ _) (by simp [Value.oneCell']) (by unfold maxLen; omega) (by omega) (by simp; omega) ?_; intro v' W10 hown' hgrow hnil hat; obtain ⟨A10, c10, rfl, hc10, _⟩ := own_slice hown')
              have hbg := Below.grown hgrow (show W9.heap.size ≤ W8.heap.size by omega) fun k hk => (own_lt HL8.out k hk).1
              have HBG := Lib.hid hbg
              clear hbg
              go_roundw
              case rel =>
                refine ⟨m + 1, _, hlm, by go_num, Lib.hid (HM8.out.block ?_), by rw [HBS2.out]; exact HF8, ?_, Lib.hid ?_⟩
                · exact HBG.out.block mb (by omega)
                · rw [HBS2.out]
                  refine Lib.hid ?_
                  rw [nums_snoc, List.length_append]
                  exact hown'
                · exact ⟨HBG.out.os.trans HGR8.out.os, HBG.out.tape.trans HGR8.out.tape, HBG.out.output.trans HGR8.out.output, by have := HBG.out.size; omega, fun j hj hne => (HBG.out.block j hj).trans (HGR8.out.block j hj hne)⟩
              case measure => simp [intOf]; omega
            · have HBS2 : Hid (bitsub (own.take (m + 1)) k = bitsub (own.take m) k) := Lib.hid (by rw [HBS.out, if_neg hb, List.append_nil])
              rw [decide_eq_false hb]
              clear hb
              go_wp2_with fail
              go_roundw
              case rel => exact ⟨m + 1, f, hlm, by go_num, Lib.hid (HM.out.mono (by omega)), by rw [HBS2.out]; exact HF, by rw [HBS2.out]; exact HL, HGR⟩
              case measure => simp [intOf]; omega
          · have HTK : Hid (own.take m = own) := Lib.hid (List.take_of_length_le (by omega))
            rw [HTK.out] at HF HL ⊢
            have hLl := bitsub_len own k
            obtain ⟨L, HLL⟩ : ∃ L, Hid (bitsub own k = L) := ⟨_, Lib.hid rfl⟩
            have hst : wrongS (wrP e0 e1 ps n q) own (k + 1) = wstep (wrP e0 e1 ps n q) o (bitsub own k) := wrongS_succ HK.out
            rw [HLL.out] at HF HL hLl hst ⊢
            have HGr := Lib.hid (HM9.out.gd HGR.out HG9.out)
            have hB9z := HB9.out.size
            have hmw : w3.heap.size ≤ mb := by omega
            have HBr : Hid (Below w3.heap.size w3 wr) := Lib.hid ⟨HGR.out.os.trans HB9.out.os, HGR.out.tape.trans HB9.out.tape, HGR.out.output.trans HB9.out.output, by omega, fun j hj => (HGR.out.block j (by omega) (by intro e; injection e with e; omega)).trans (HB9.out.block j hj)⟩
            have HOr := Lib.hid (own_block HO9.out (w' := wr) fun j hj => HGR.out.block j (own_lt HO9.out j hj).2 (by intro e; injection e with e; have := (own_lt HO.out j hj).2; omega))
            have HST0 := Lib.hid hst
            clear hst
            cases o with
            | none =>
              have HST : Hid (wrongS (wrP e0 e1 ps n q) own (k + 1) = if wrP e0 e1 ps n q L then some L else none) := Lib.hid HST0.out
              clear HST0
              go_wp2_with fail
              refine (but_any g e0 e1 A c ps B d ts n mb _ _ (fun i => decide (i ∈ L)) HF.out wr HGr.out HM.out).mono ?_
              rintro e W6 ⟨A6, c6, rfl, hr6, hb6⟩
              have HG6 := Lib.hid (HGr.out.below hb6)
              have HP6 := Lib.hid (possible_any g e0 e1 A c ps B d ts A6 c6 (butL ps n (fun i => decide (i ∈ L))) q W6 HG6.out hr6 (fun i hi => ordL_mem_lt i (List.mem_filter.1 hi).1) (by have := List.length_filter_le (fun i => !(fun i => decide (i ∈ L)) i) (ordL ps n); have h2 := HLEN.out; rw [HOWN.out] at h2; unfold butL; omega) hq)
              have HL6 := Lib.hid (own_block HL.out fun k hk => hb6.block k (own_lt HL.out k hk).2)
              have HO6 := Lib.hid (own_block HOr.out fun k hk => hb6.block k (own_lt HOr.out k hk).2)
              have HB6 := Lib.hid (HBr.out.trans (hb6.mono HBr.out.size))
              clear hr6 hb6
              go_wp2_with fail
              refine HP6.out.mono ?_
              rintro e W7 ⟨rfl, hb7⟩
              have HL7 := Lib.hid (own_block HL6.out fun k hk => hb7.block k (own_lt HL6.out k hk).2)
              have HO7 := Lib.hid (own_block HO6.out fun k hk => hb7.block k (own_lt HO6.out k hk).2)
              have HB7 := Lib.hid (HB6.out.trans (hb7.mono HB6.out.size))
              clear HP6 hb7 HL6 HO6 HB6
              obtain ⟨b2, HB2⟩ : ∃ b2, Hid (possB (spI e0 e1 ps) (butL ps n (fun i => decide (i ∈ L))) q = b2) := ⟨_, Lib.hid rfl⟩
              have HFE : Hid (wrP e0 e1 ps n q L = b2) := Lib.hid HB2.out
              rw [HB2.out]
              rw [HFE.out] at HST
              cases b2
              · have HST3 : Hid (wrongS (wrP e0 e1 ps n q) own (k + 1) = none) := Lib.hid HST.out
                go_wp2_with fail
                go_roundw
                case rel => exact ⟨k + 1, none, hlt, by go_num, rfl, HST3, HO7, HB7⟩
                case measure => simp [intOf]; omega
              · have HST3 : Hid (wrongS (wrP e0 e1 ps n q) own (k + 1) = some L) := Lib.hid HST.out
                go_wp2_with fail
                go_roundw
                case rel => exact ⟨k + 1, some L, hlt, by go_num, rfl, HST3, Lib.hid (HL7.out.base_ (by omega)), HB7⟩
                case measure => simp [intOf]; omega
            | some out =>
              have HSTS : Hid (wrongS (wrP e0 e1 ps n q) own (k + 1) = if out.length < L.length ∨ (L.length = out.length ∧ lexLt L out = false) then some out else if wrP e0 e1 ps n q L then some L else some out) := Lib.hid HST0.out
              clear HST0
              simp only [Option.getD_some] at hol HO HO9 HOr ⊢
              rcases Nat.lt_trichotomy out.length L.length with hcmp | hcmp | hcmp
              · have HST3 : Hid (wrongS (wrP e0 e1 ps n q) own (k + 1) = some out) := Lib.hid (by rw [HSTS.out, if_pos (.inl hcmp)])
                have hc1 : (out.length : Int) < (L.length : Int) := by omega
                clear HSTS
                go_wp2_with fail
                go_roundw
                case rel => exact ⟨k + 1, some out, hlt, by go_num, rfl, HST3, HOr, HBr⟩
                case measure => simp [intOf]; omega
              · have hc1 : ¬ (out.length : Int) < (L.length : Int) := by omega
                have hc2 : ((L.length : Int) == (out.length : Int)) = true := by simp; omega
                obtain ⟨AL, cL, hAL, hcL, hrL⟩ := own_slice HL.out
                injection hAL with hA1 _ hA3
                subst hA1 hA3
                obtain ⟨AO, cO, hAO, hcO, hrO⟩ := own_slice HOr.out
                injection hAO with hB1 _ hB3
                subst hB1 hB3
                have HCM := Lib.hid (compare_any Al Ao cl co L out wr hrL hrO (by omega) (by omega))
                have HCP := Lib.hid hcmp
                clear hrL hrO hcmp
                go_wp2_with fail
                refine HCM.out.mono ?_
                rintro e w8 ⟨⟨r, rfl, hr⟩, rfl⟩
                cases hlx : lexLt L out
                · have hr0 : 0 ≤ r := hr.2 hlx
                  have HST3 : Hid (wrongS (wrP e0 e1 ps n q) own (k + 1) = some out) := Lib.hid (by rw [HSTS.out, if_pos (.inr ⟨HCP.out.symm, hlx⟩)])
                  clear hr hlx HSTS
                  go_wp2_with fail
                  go_roundw
                  case rel => exact ⟨k + 1, some out, hlt, by go_num, rfl, HST3, HOr, HBr⟩
                  case measure => simp [intOf]; omega
                · have hr0 : ¬ 0 ≤ r := fun h => by have := hr.1 h; rw [hlx] at this; cases this
                  have HST : Hid (wrongS (wrP e0 e1 ps n q) own (k + 1) = if wrP e0 e1 ps n q L then some L else some out) := Lib.hid (by rw [HSTS.out, if_neg (by rw [hlx]; have := HCP.out; simp; omega)])
                  clear hr hlx HSTS
                  go_wp2_with fail
                  refine (but_any g e0 e1 A c ps B d ts n mb _ _ (fun i => decide (i ∈ L)) HF.out _ HGr.out HM.out).mono ?_
                  rintro e W6 ⟨A6, c6, rfl, hr6, hb6⟩
                  have HG6 := Lib.hid (HGr.out.below hb6)
                  have HP6 := Lib.hid (possible_any g e0 e1 A c ps B d ts A6 c6 (butL ps n (fun i => decide (i ∈ L))) q W6 HG6.out hr6 (fun i hi => ordL_mem_lt i (List.mem_filter.1 hi).1) (by have := List.length_filter_le (fun i => !(fun i => decide (i ∈ L)) i) (ordL ps n); have h2 := HLEN.out; rw [HOWN.out] at h2; unfold butL; omega) hq)
                  have HL6 := Lib.hid (own_block HL.out fun k hk => hb6.block k (own_lt HL.out k hk).2)
                  have HO6 := Lib.hid (own_block HOr.out fun k hk => hb6.block k (own_lt HOr.out k hk).2)
                  have HB6 := Lib.hid (HBr.out.trans (hb6.mono HBr.out.size))
                  clear hr6 hb6
                  go_wp2_with fail
                  refine HP6.out.mono ?_
                  rintro e W7 ⟨rfl, hb7⟩
                  have HL7 := Lib.hid (own_block HL6.out fun k hk => hb7.block k (own_lt HL6.out k hk).2)
                  have HO7 := Lib.hid (own_block HO6.out fun k hk => hb7.block k (own_lt HO6.out k hk).2)
                  have HB7 := Lib.hid (HB6.out.trans (hb7.mono HB6.out.size))
                  clear HP6 hb7 HL6 HO6 HB6
                  obtain ⟨b2, HB2⟩ : ∃ b2, Hid (possB (spI e0 e1 ps) (butL ps n (fun i => decide (i ∈ L))) q = b2) := ⟨_, Lib.hid rfl⟩
                  have HFE : Hid (wrP e0 e1 ps n q L = b2) := Lib.hid HB2.out
                  rw [HB2.out]
                  rw [HFE.out] at HST
                  cases b2
                  · have HST3 : Hid (wrongS (wrP e0 e1 ps n q) own (k + 1) = some out) := Lib.hid HST.out
                    go_wp2_with fail
                    go_roundw
                    case rel => exact ⟨k + 1, some out, hlt, by go_num, rfl, HST3, HO7, HB7⟩
                    case measure => simp [intOf]; omega
                  · have HST3 : Hid (wrongS (wrP e0 e1 ps n q) own (k + 1) = some L) := Lib.hid HST.out
                    go_wp2_with fail
                    go_roundw
                    case rel => exact ⟨k + 1, some L, hlt, by go_num, rfl, HST3, Lib.hid (HL7.out.base_ (by omega)), HB7⟩
                    case measure => simp [intOf]; omega
              · have HST : Hid (wrongS (wrP e0 e1 ps n q) own (k + 1) = if wrP e0 e1 ps n q L then some L else some out) := Lib.hid (by rw [HSTS.out, if_neg (by simp; omega)])
                have hc1 : ¬ (out.length : Int) < (L.length : Int) := by omega
                have hc2 : ((L.length : Int) == (out.length : Int)) = false := by simp; omega
                clear HSTS
                go_wp2_with fail
                refine (but_any g e0 e1 A c ps B d ts n mb _ _ (fun i => decide (i ∈ L)) HF.out wr HGr.out HM.out).mono ?_
                rintro e W6 ⟨A6, c6, rfl, hr6, hb6⟩
                have HG6 := Lib.hid (HGr.out.below hb6)
                have HP6 := Lib.hid (possible_any g e0 e1 A c ps B d ts A6 c6 (butL ps n (fun i => decide (i ∈ L))) q W6 HG6.out hr6 (fun i hi => ordL_mem_lt i (List.mem_filter.1 hi).1) (by have := List.length_filter_le (fun i => !(fun i => decide (i ∈ L)) i) (ordL ps n); have h2 := HLEN.out; rw [HOWN.out] at h2; unfold butL; omega) hq)
                have HL6 := Lib.hid (own_block HL.out fun k hk => hb6.block k (own_lt HL.out k hk).2)
                have HO6 := Lib.hid (own_block HOr.out fun k hk => hb6.block k (own_lt HOr.out k hk).2)
                have HB6 := Lib.hid (HBr.out.trans (hb6.mono HBr.out.size))
                clear hr6 hb6
                go_wp2_with fail
                refine HP6.out.mono ?_
                rintro e W7 ⟨rfl, hb7⟩
                have HL7 := Lib.hid (own_block HL6.out fun k hk => hb7.block k (own_lt HL6.out k hk).2)
                have HO7 := Lib.hid (own_block HO6.out fun k hk => hb7.block k (own_lt HO6.out k hk).2)
                have HB7 := Lib.hid (HB6.out.trans (hb7.mono HB6.out.size))
                clear HP6 hb7 HL6 HO6 HB6
                obtain ⟨b2, HB2⟩ : ∃ b2, Hid (possB (spI e0 e1 ps) (butL ps n (fun i => decide (i ∈ L))) q = b2) := ⟨_, Lib.hid rfl⟩
                have HFE : Hid (wrP e0 e1 ps n q L = b2) := Lib.hid HB2.out
                rw [HB2.out]
                rw [HFE.out] at HST
                cases b2
                · have HST3 : Hid (wrongS (wrP e0 e1 ps n q) own (k + 1) = some out) := Lib.hid HST.out
                  go_wp2_with fail
                  go_roundw
                  case rel => exact ⟨k + 1, some out, hlt, by go_num, rfl, HST3, HO7, HB7⟩
                  case measure => simp [intOf]; omega
                · have HST3 : Hid (wrongS (wrP e0 e1 ps n q) own (k + 1) = some L) := Lib.hid HST.out
                  go_wp2_with fail
                  go_roundw
                  case rel => exact ⟨k + 1, some L, hlt, by go_num, rfl, HST3, Lib.hid (HL7.out.base_ (by omega)), HB7⟩
                  case measure => simp [intOf]; omega
      · have hkN : k = N := by omega
        have HE : Hid (wrL e0 e1 ps ts n (q : Nat) = o.getD []) := Lib.hid (by rw [HW.out, ← hkN, HK.out])
        have hw3 := HBW3.out.size
        clear hkN
        go_wp2_with fail
        go_ret2
        exact LstE.mk' HE.out.symm H0.out.symm (HO.out.base_ hw3) (HBW3.out.trans (HBR.out.mono hw3))
  · have H0 := Lib.hid h0
    have h0' : (askCode (ckBook e0 e1 ps ts) n ch == 0) = false := by simpa using h0
    have h0'' : (askCode (ckBook e0 e1 ps ts) n ch != 0) = true := by simpa using h0
    have HBW := Lib.hid (b0.trans (hb1.mono b0.size))
    clear HC h0 hb1 b0
    go_wp2_with fail
    go_ret2
    exact LstE.mk' (l := []) (by unfold wrL; rw [if_neg H0.out]) rfl nil_own HBW.out
end Go.Proofs.YtcdjoegihmfanaaGreat
namespace Go.Proofs.YtcdjoegihmfanaaGreat
open Go.RowKit Go.Sort
set_option linter.unusedVariables false
theorem reverse_any (g cap : Nat) (base : Nat) (l : List Nat) (w : World) (hl : l.length ≤ 100) (ho : w.ownsRow base 3 1 (.slice (some ⟨g, 0, none⟩) l.length cap) l.length (nums l)) :
    Calls Tryz.prog 138 #[.slice (some ⟨g, 0, none⟩) l.length cap] w fun e w' => e = .returned (.tuple #[]) ∧ Rd w' w'.heap.size (some ⟨g, 0, none⟩) (nums l.reverse) ∧ w.grownBy w' (some g) := by
  have hgl : g < w.heap.size := (own_lt ho g rfl).2
  have hH : Holds (Value.int .i64) w g 0 (l.map fun i : Nat => (i : Int)).toArray := by
    intro j hj
    have hj' : j < l.length := by simpa using hj
    have hc := own_cells ho j (.int .i64 (l[j] : Int)) (by simp [nums, ints, hj'])
    refine ⟨?_, ho.frozenAt _⟩
    rw [Nat.zero_add, hc]
    simp [hj']
  have h := AnyE.slices_Reverse Tryz.laysRev (Value.int .i64) (fun _ => rfl) g 0 cap (l.map fun i : Nat => (i : Int)) w hH (by simp; omega)
  rw [List.length_map] at h
  refine h.mono ?_
  rintro e w' ⟨rfl, m, rfl⟩
  have hgr : w.grownBy (putRow (Value.int .i64) (Sort.ahead w m) g 0 (l.map fun i : Nat => (i : Int)).reverse.toArray) (some g) := by
    refine ⟨rfl, rfl, rfl, by simp [putRow, mapBlock, Sort.ahead], fun k hk hne => ?_⟩
    have : g ≠ k := fun e => hne (by rw [e])
    simp [putRow, mapBlock, Sort.ahead, Array.getElem?_modify, this]
  have hK := holds_putRow (Value.int .i64) (Sort.ahead w m) g 0 _ (l.map fun i : Nat => (i : Int)).reverse.toArray (holds_ahead (Value.int .i64) w m g 0 _ hH) (by simp)
  refine ⟨rfl, fun _ => ⟨g, 0, rfl, Nat.lt_of_lt_of_le hgl hgr.size, fun j u hu => ?_⟩, hgr⟩
  have hj : j < l.length := by have := (List.getElem?_eq_some_iff.1 hu).1; simpa [nums, ints] using this
  have hc := (hK j (by simpa using hj)).1
  rw [hc, ← hu]
  simp [nums, ints, hj]
end Go.Proofs.YtcdjoegihmfanaaGreat
namespace Go.Proofs.YtcdjoegihmfanaaGreat
set_option linter.unusedVariables false
/-- Where groups are begun behind one. -/
def stF (sp : Nat → Int × Int) : Gr → Nat → List Nat → List Nat
  | _, _, [] => []
  | g, pos, i :: t => if meetsG sp g i then stF sp (addG sp g i) (pos + 1) t else pos :: stF sp (newG sp i) (pos + 1) t
theorem stF_ge (sp : Nat → Int × Int) : ∀ (t : List Nat) (g : Gr) (pos : Nat), ∀ x ∈ stF sp g pos t, pos ≤ x ∧ x < pos + t.length
  | [], _, _, x, h => by simp [stF] at h
  | i :: t, g, pos, x, h => by
    simp only [stF] at h
    simp only [List.length_cons]
    split at h
    · have := stF_ge sp t _ _ x h; omega
    · rcases List.mem_cons.1 h with rfl | h
      · omega
      · have := stF_ge sp t _ _ x h; omega
theorem stF_inc (sp : Nat → Int × Int) : ∀ (t : List Nat) (g : Gr) (pos : Nat), (stF sp g pos t).Pairwise (· < ·)
  | [], _, _ => by simp [stF]
  | i :: t, g, pos => by
    simp only [stF]
    split
    · exact stF_inc sp t _ _
    · rw [List.pairwise_cons]
      exact ⟨fun x hx => by have := stF_ge sp t _ _ x hx; omega, stF_inc sp t _ _⟩
theorem stF_count (sp : Nat → Int × Int) : ∀ (t : List Nat) (g : Gr) (pos j : Nat), (fromG sp g (t.take j)).length = 1 + (stF sp g pos t).countP fun x => decide (x < pos + j)
  | [], _, _, _ => by simp [stF, fromG]
  | i :: t, g, pos, 0 => by
    simp only [List.take_zero, fromG, List.length_singleton, Nat.add_zero]
    have : (stF sp g pos (i :: t)).countP (fun x => decide (x < pos)) = 0 := by
      rw [List.countP_eq_zero]
      intro x hx
      have := stF_ge sp _ _ _ x hx
      simp; omega
    rw [this]
  | i :: t, g, pos, j + 1 => by
    simp only [List.take_succ_cons, fromG, stF]
    split
    · rw [stF_count sp t _ (pos + 1) j, show pos + 1 + j = pos + (j + 1) from by omega]
    · rw [List.length_cons, stF_count sp t _ (pos + 1) j, List.countP_cons, show pos + 1 + j = pos + (j + 1) from by omega]
      simp; omega
theorem stF_head (sp : Nat → Int × Int) : ∀ (t : List Nat) (g : Gr) (pos k x : Nat), (stF sp g pos t)[k]? = some x → ∃ h f r, (fromG sp g t)[k + 1]? = some h ∧ h.ps = f :: r ∧ t[x - pos]? = some f
  | [], _, _, _, _, h => by simp [stF] at h
  | i :: t, g, pos, k, x, h => by
    have hge := stF_ge sp (i :: t) g pos x (List.mem_of_getElem? h)
    simp only [stF] at h
    simp only [fromG]
    split at h
    · rename_i hm
      rw [if_pos hm]
      have hge' := stF_ge sp t _ (pos + 1) x (List.mem_of_getElem? h)
      obtain ⟨hh, f, r, h1, h2, h3⟩ := stF_head sp t _ (pos + 1) k x h
      exact ⟨hh, f, r, h1, h2, by rw [show x - pos = (x - (pos + 1)) + 1 from by omega]; exact h3⟩
    · rename_i hm
      rw [if_neg hm]
      match k, h with
      | 0, h =>
        simp at h; subst h
        obtain ⟨hh, s, e, r, hr⟩ := fromG_head sp t (newG sp i)
        exact ⟨hh, i, r, by simp [e], by rw [hr]; rfl, by simp⟩
      | k + 1, h =>
        have h' : (stF sp (newG sp i) (pos + 1) t)[k]? = some x := by simpa using h
        have hge' := stF_ge sp t _ (pos + 1) x (List.mem_of_getElem? h')
        obtain ⟨hh, f, r, h1, h2, h3⟩ := stF_head sp t _ (pos + 1) k x h'
        exact ⟨hh, f, r, by simpa using h1, h2, by rw [show x - pos = (x - (pos + 1)) + 1 from by omega]; exact h3⟩
theorem inc_count : ∀ (s : List Nat) (k x y : Nat), s.Pairwise (· < ·) → s[k]? = some y → (s.countP (fun z => decide (z < x)) ≤ k ↔ x ≤ y)
  | [], _, _, _, _, h => by simp at h
  | a :: s, k, x, y, hp, h => by
    rw [List.pairwise_cons] at hp
    rw [List.countP_cons]
    match k, h with
    | 0, h =>
      simp at h; subst h
      by_cases hx : a < x
      · simp [hx]
      · have : s.countP (fun z => decide (z < x)) = 0 := by
          rw [List.countP_eq_zero]
          intro z hz
          have := hp.1 z hz
          simp; omega
        simp [hx, this]; omega
    | k + 1, h =>
      have h' : s[k]? = some y := by simpa using h
      have ih := inc_count s k x y hp.2 h'
      have hay := hp.1 y (List.mem_of_getElem? h')
      by_cases hx : a < x
      · simp [hx]; exact ih
      · have : s.countP (fun z => decide (z < x)) = 0 := by
          rw [List.countP_eq_zero]
          intro z hz
          have := hp.1 z hz
          simp; omega
        simp [hx, this]; omega
/-- The place at which the group k + 1 begins. -/
theorem group_start (sp : Nat → Int × Int) (L : List Nat) (k : Nat) (hk : k + 1 < (groupsG sp L).length) :
    ∃ x h f r, (groupsG sp L)[k + 1]? = some h ∧ h.ps = f :: r ∧ L[x]? = some f ∧ 0 < x ∧ x < L.length ∧ ∀ j, (groupsG sp (L.take j)).length ≤ k + 1 ↔ j ≤ x := by
  match L, hk with
  | [], hk => simp [groupsG] at hk
  | i :: t, hk =>
    rw [groupsG_cons] at hk ⊢
    have hc := stF_count sp t (newG sp i) 1 t.length
    rw [List.take_length] at hc
    have hall : (stF sp (newG sp i) 1 t).countP (fun x => decide (x < 1 + t.length)) = (stF sp (newG sp i) 1 t).length := by
      rw [List.countP_eq_length]
      intro x hx
      have := stF_ge sp _ _ _ x hx
      simp; omega
    have hk' : k < (stF sp (newG sp i) 1 t).length := by omega
    have he := List.getElem?_eq_getElem hk'
    obtain ⟨h, f, r, h1, h2, h3⟩ := stF_head sp t (newG sp i) 1 k _ he
    have hb := stF_ge sp _ _ _ _ (List.getElem_mem hk')
    refine ⟨(stF sp (newG sp i) 1 t)[k], h, f, r, h1, h2, ?_, by omega, by simp; omega, fun j => ?_⟩
    · rw [show (stF sp (newG sp i) 1 t)[k] = ((stF sp (newG sp i) 1 t)[k] - 1) + 1 from by omega]
      exact h3
    · match j with
      | 0 => simp [groupsG]
      | j + 1 =>
        rw [List.take_succ_cons, groupsG_cons, stF_count sp t (newG sp i) 1 j]
        have := inc_count _ k (1 + j) _ (stF_inc sp t (newG sp i) 1) he
        omega
end Go.Proofs.YtcdjoegihmfanaaGreat
namespace Go.Proofs.YtcdjoegihmfanaaGreat
set_option linter.unusedVariables false
theorem stF_rest (sp : Nat → Int × Int) : ∀ (t : List Nat) (g : Gr) (pos k x : Nat), (stF sp g pos t)[k]? = some x → (fromG sp g t).length = k + 1 + (groupsG sp (t.drop (x - pos))).length
  | [], _, _, _, _, h => by simp [stF] at h
  | i :: t, g, pos, k, x, h => by
    simp only [stF] at h
    simp only [fromG]
    split at h
    · rename_i hm
      rw [if_pos hm]
      have hge' := stF_ge sp t _ (pos + 1) x (List.mem_of_getElem? h)
      rw [stF_rest sp t _ (pos + 1) k x h, show x - pos = (x - (pos + 1)) + 1 from by omega, List.drop_succ_cons]
    · rename_i hm
      rw [if_neg hm]
      match k, h with
      | 0, h =>
        simp at h; subst h
        rw [List.length_cons, Nat.sub_self, List.drop_zero, groupsG_cons]; omega
      | k + 1, h =>
        have h' : (stF sp (newG sp i) (pos + 1) t)[k]? = some x := by simpa using h
        have hge' := stF_ge sp t _ (pos + 1) x (List.mem_of_getElem? h')
        rw [List.length_cons, stF_rest sp t _ (pos + 1) k x h', show x - pos = (x - (pos + 1)) + 1 from by omega, List.drop_succ_cons]
        omega
theorem group_rest (sp : Nat → Int × Int) (L : List Nat) (k x : Nat) (hk : k + 1 < (groupsG sp L).length) (hx0 : 0 < x) (hx : ∀ j, (groupsG sp (L.take j)).length ≤ k + 1 ↔ j ≤ x) : (groupsG sp L).length = k + 1 + (groupsG sp (L.drop x)).length := by
  match L, hk, hx with
  | [], hk, _ => simp [groupsG] at hk
  | i :: t, hk, hx =>
    rw [groupsG_cons] at hk ⊢
    have hc := stF_count sp t (newG sp i) 1 t.length
    rw [List.take_length] at hc
    have hall : (stF sp (newG sp i) 1 t).countP (fun x => decide (x < 1 + t.length)) = (stF sp (newG sp i) 1 t).length := by
      rw [List.countP_eq_length]
      intro x hx
      have := stF_ge sp _ _ _ x hx
      simp; omega
    have hk' : k < (stF sp (newG sp i) 1 t).length := by omega
    have he := List.getElem?_eq_getElem hk'
    have hb := stF_ge sp _ _ _ _ (List.getElem_mem hk')
    have hxx : x = (stF sp (newG sp i) 1 t)[k] := by
      have key : ∀ j, (groupsG sp ((i :: t).take (j + 1))).length ≤ k + 1 ↔ j + 1 ≤ (stF sp (newG sp i) 1 t)[k] := by
        intro j
        rw [List.take_succ_cons, groupsG_cons, stF_count sp t (newG sp i) 1 j]
        have := inc_count _ k (1 + j) _ (stF_inc sp t (newG sp i) 1) he
        omega
      have a := (key (x - 1)).1 (by rw [show x - 1 + 1 = x from by omega]; exact (hx x).2 (Nat.le_refl _))
      have b := (hx ((stF sp (newG sp i) 1 t)[k] - 1 + 1)).1 ((key _).2 (by omega))
      omega
    rw [stF_rest sp t (newG sp i) 1 k _ he, ← hxx, show x = (x - 1) + 1 from by omega, List.drop_succ_cons]
    simp
theorem groups_reverse {e0 e1 : Int} {ps : List Pr} {l : List Nat} (h : ∀ i ∈ l, (spI e0 e1 ps i).1 ≤ (spI e0 e1 ps i).2) : (groupsG (spI e0 e1 ps) l.reverse).length = (groupsG (spI e0 e1 ps) l).length := by
  have h1 := few_groups h
  have h2 := few_groups (l := l.reverse) (fun i hi => h i (by simpa using hi))
  have h3 : ∀ c, (sumsR (l.map (evI e0 e1 ps)) c).isSome = true ↔ (sumsR (l.reverse.map (evI e0 e1 ps)) c).isSome = true := by
    intro c
    rw [sums_isSome, sums_isSome, List.map_reverse]
    constructor
    · rintro ⟨xs, hx⟩; exact ⟨_, hx.reverse⟩
    · rintro ⟨xs, hx⟩; have := hx.reverse; rw [List.reverse_reverse] at this; exact ⟨_, this⟩
  have h4 : ∀ c, (groupsG (spI e0 e1 ps) l).length ≤ c + 1 ↔ (groupsG (spI e0 e1 ps) l.reverse).length ≤ c + 1 := fun c => (h1 c).symm.trans ((h3 c).trans (h2 c))
  match l, h4 with
  | [], _ => rfl
  | i :: t, h4 =>
    have p1 : 1 ≤ (groupsG (spI e0 e1 ps) (i :: t)).length := by rw [groupsG_cons, fromG_length]; omega
    have p2 : 1 ≤ (groupsG (spI e0 e1 ps) (i :: t).reverse).length := by
      cases hr : (i :: t).reverse with
      | nil => simp at hr
      | cons j s => rw [groupsG_cons, fromG_length]; omega
    have a := (h4 ((groupsG (spI e0 e1 ps) (i :: t)).length - 1)).1 (by omega)
    have b := (h4 ((groupsG (spI e0 e1 ps) (i :: t).reverse).length - 1)).2 (by omega)
    omega
/-- The reference's look at the places, one after the other. -/
def whenS (ms : Nat → Int) (cond : Nat → Bool) : Nat → Int × Int × Bool
  | 0 => (0, 0, false)
  | k + 1 => if cond (k + 1) then (if (whenS ms cond k).2.2 then (whenS ms cond k).1 else ms k + 1, ms (k + 1), true) else whenS ms cond k
theorem whenS_eq {ms : Nat → Int} {cond : Nat → Bool} {i0 i1 N : Nat} (h0 : 1 ≤ i0) (h1 : i0 ≤ i1) (hc : ∀ i, 1 ≤ i → i < N → (cond i = true ↔ i0 ≤ i ∧ i ≤ i1)) : ∀ k, k < N → whenS ms cond k = if k < i0 then (0, 0, false) else (ms (i0 - 1) + 1, ms (min k i1), true)
  | 0, _ => by simp [whenS]; omega
  | k + 1, hk => by
    have ih := whenS_eq (ms := ms) h0 h1 hc k (by omega)
    have hck := hc (k + 1) (by omega) hk
    simp only [whenS]
    rw [ih]
    by_cases h : k + 1 < i0
    · have : cond (k + 1) = false := by rw [Bool.eq_false_iff]; intro e; have := hck.1 e; omega
      rw [this, if_pos h, if_pos (show k < i0 by omega)]; simp
    · rw [if_neg h]
      by_cases h' : k < i0
      · have e : i0 = k + 1 := by omega
        have : cond (k + 1) = true := hck.2 (by omega)
        rw [if_pos h', this]; simp [e]; congr 1; omega
      · rw [if_neg h']
        by_cases h2 : k + 1 ≤ i1
        · have : cond (k + 1) = true := hck.2 (by omega)
          rw [this]; simp; congr 1; omega
        · have : cond (k + 1) = false := by rw [Bool.eq_false_iff]; intro e; have := hck.1 e; omega
          rw [this]; simp; congr 1; omega
/-- The ends of the places at which a change can be, by groups both ways. -/
theorem when_ends {e0 e1 : Int} {ps : List Pr} {L : List Nat} (h : ∀ i ∈ L, (spI e0 e1 ps i).1 ≤ (spI e0 e1 ps i).2) (ch : Nat) (hch : ch + 1 < (groupsG (spI e0 e1 ps) L).length) :
    ∃ x0 x1 a b r s f t, (groupsG (spI e0 e1 ps) L)[ch + 1]? = some a ∧ a.ps = f :: r ∧ (groupsG (spI e0 e1 ps) L.reverse)[(groupsG (spI e0 e1 ps) L).length - 1 - ch]? = some b ∧ b.ps = t :: s ∧ L[x1]? = some f ∧ L[x0 - 1]? = some t ∧ 1 ≤ x0 ∧ x0 ≤ x1 ∧ x1 < L.length ∧
      (∀ j, j ≤ L.length → ((groupsG (spI e0 e1 ps) (L.take j)).length ≤ ch + 1 ↔ j ≤ x1)) ∧ (∀ j, j ≤ L.length → ((groupsG (spI e0 e1 ps) (L.drop j)).length ≤ (groupsG (spI e0 e1 ps) L).length - 1 - ch ↔ x0 ≤ j)) := by
  generalize hg : (groupsG (spI e0 e1 ps) L).length = g at hch
  obtain ⟨x, a, f, r, ha, hf, hLx, hx0, hxL, hx⟩ := group_start (spI e0 e1 ps) L ch (by omega)
  have hrev := groups_reverse h
  obtain ⟨y, b, t, s, hb, ht, hLy, hy0, hyL, hy⟩ := group_start (spI e0 e1 ps) L.reverse (g - 2 - ch) (by omega)
  rw [List.length_reverse] at hyL
  have hLy' : L[L.length - 1 - y]? = some t := by
    rw [List.getElem?_reverse (by omega)] at hLy; exact hLy
  have hrest := group_rest (spI e0 e1 ps) L ch x (by omega) hx0 hx
  have hdrop : ∀ i, i ≤ L.length → ((groupsG (spI e0 e1 ps) (L.drop i)).length ≤ g - 1 - ch ↔ L.length - y ≤ i) := by
    intro i hi
    have e1' := groups_reverse (e0 := e0) (e1 := e1) (ps := ps) (l := L.drop i) (fun z hz => h z (List.mem_of_mem_drop hz))
    rw [← e1', List.reverse_drop]
    have := hy (L.length - i)
    rw [show g - 2 - ch + 1 = g - 1 - ch from by omega] at this
    rw [this]; omega
  have hxy : L.length - y ≤ x := (hdrop x (by omega)).1 (by omega)
  refine ⟨L.length - y, x, a, b, r, s, f, t, ha, hf, by rw [show g - 1 - ch = g - 2 - ch + 1 from by omega]; exact hb, ht, hLx, by rw [show L.length - y - 1 = L.length - 1 - y from by omega]; exact hLy', by omega, hxy, hxL, fun j _ => hx j, hdrop⟩
/-- When a change can be: the ends, by groups both ways. -/
theorem when_eq {e0 e1 : Int} {ps : List Pr} {L : List Nat} (h : ∀ i ∈ L, (spI e0 e1 ps i).1 ≤ (spI e0 e1 ps i).2) (ch : Nat) (hch : ch + 1 < (groupsG (spI e0 e1 ps) L).length) :
    ∃ a b r s f t, (groupsG (spI e0 e1 ps) L)[ch + 1]? = some a ∧ a.ps = f :: r ∧ (groupsG (spI e0 e1 ps) L.reverse)[(groupsG (spI e0 e1 ps) L).length - 1 - ch]? = some b ∧ b.ps = t :: s ∧ f ∈ L ∧ t ∈ L ∧
      whenS (fun i => (pAt ps (L.getD i 0)).m) (fun i => (sumsR ((L.take i).map (evI e0 e1 ps)) ch).isSome && (sumsR ((L.drop i).map (evI e0 e1 ps)) ((groupsG (spI e0 e1 ps) L).length - 2 - ch)).isSome) (L.length - 1) = ((pAt ps t).m + 1, (pAt ps f).m, true) := by
  obtain ⟨x0, x1, a, b, r, s, f, t, ha, hf, hb, ht, hLx, hLy, h1, h2, h3, h4, h5⟩ := when_ends h ch hch
  refine ⟨a, b, r, s, f, t, ha, hf, hb, ht, List.mem_of_getElem? hLx, List.mem_of_getElem? hLy, ?_⟩
  rw [whenS_eq (i0 := x0) (i1 := x1) (N := L.length) h1 h2 ?_ (L.length - 1) (by omega)]
  · rw [if_neg (by omega)]
    have e1' : L.getD (x0 - 1) 0 = t := by rw [List.getD_eq_getElem?_getD, hLy]; rfl
    have e2' : L.getD (min (L.length - 1) x1) 0 = f := by rw [List.getD_eq_getElem?_getD, show min (L.length - 1) x1 = x1 from by omega, hLx]; rfl
    simp only [e1', e2']
  · intro i hi hiN
    rw [Bool.and_eq_true, few_groups (fun z hz => h z (List.mem_of_mem_take hz)), few_groups (fun z hz => h z (List.mem_of_mem_drop hz)), h4 i (by omega)]
    have := h5 i (by omega)
    rw [show (groupsG (spI e0 e1 ps) L).length - 2 - ch + 1 = (groupsG (spI e0 e1 ps) L).length - 1 - ch from by omega, this]
    omega
end Go.Proofs.YtcdjoegihmfanaaGreat
namespace Go.Proofs.YtcdjoegihmfanaaGreat
open Go.RowKit
set_option linter.unusedVariables false
/-- The minute of a group's first proof. -/
def hdP (ps : List Pr) (g : Gr) : Int := (pAt ps (g.ps.headD 0)).m
def g0G : Gr := ⟨0, 0, []⟩
def whenCode (e0 e1 : Int) (ps : List Pr) (ts : List Tr) (n ch : Int) : Int :=
  if grCode e0 e1 ps ts n ≠ 0 then grCode e0 e1 ps ts n else if inB ch 0 (((groupsG (spI e0 e1 ps) (ordL ps n)).length : Int) - 2) = false then 1 else 0
def whenE (e0 e1 : Int) (ps : List Pr) (ts : List Tr) (n ch : Int) : Int × Int :=
  if whenCode e0 e1 ps ts n ch = 0 then (hdP ps ((groupsG (spI e0 e1 ps) (ordL ps n).reverse).getD ((groupsG (spI e0 e1 ps) (ordL ps n)).length - 1 - ch.toNat) g0G) + 1, hdP ps ((groupsG (spI e0 e1 ps) (ordL ps n)).getD (ch.toNat + 1) g0G)) else (0, 0)
theorem own_slice' {w : World} {base : Nat} {E : TypeId} {size n : Nat} {v : Value} {xs : List Value} (h : w.ownsRow base E size v n xs) (hn : 0 < n) : ∃ g cap, v = .slice (some ⟨g, 0, none⟩) n cap ∧ base ≤ g ∧ g < w.heap.size := h.form hn
/-- A group of a row, in memory. -/
theorem GrV.grp {w : World} {base : Nat} {g cap : Nat} {gs : List Gr} {vs : List Value} (h : GrV w base (.slice (some ⟨g, 0, none⟩) gs.length cap) gs vs) {k : Nat} (hk : k < gs.length) (hne : gs[k].ps ≠ []) :
    ∃ b o c, w.cell? ⟨g, k * 3 + 2, none⟩ = some (.slice (some ⟨b, o, none⟩) gs[k].ps.length c) ∧ b < w.heap.size ∧ w.cell? ⟨b, o, none⟩ = some (.int .i64 (gs[k].ps.headD 0 : Nat)) ∧ 0 < gs[k].ps.length := by
  have hlv : k < vs.length := by rw [h.len]; exact hk
  have hc := own_cells h.row _ _ (grC_get h.len k hk).2.2
  have hu := h.each k gs[k] vs[k] (List.getElem?_eq_getElem hk) (List.getElem?_eq_getElem hlv)
  generalize vs[k] = u at hc hu
  generalize gs[k] = gl at hc hu hne
  obtain ⟨A5, c5, rfl, _, hr5⟩ := own_slice hu
  have hp0 : 0 < gl.ps.length := List.length_pos_iff.2 hne
  obtain ⟨b5, o5, rfl, hb5, q5⟩ := hr5.nat hp0
  rw [Nat.add_zero] at q5
  refine ⟨b5, o5, c5, hc, hb5, ?_, hp0⟩
  rw [q5]
  match gl.ps, hp0 with
  | x :: t, _ => rfl
theorem headD_mem {l : List Nat} (h : 0 < l.length) : l.headD 0 ∈ l := by
  match l, h with
  | x :: t, _ => simp
theorem getD_at {l : List Gr} {k : Nat} (h : k < l.length) : l.getD k g0G = l[k] := by simp [List.getD_eq_getElem?_getD, h]
set_option maxRecDepth 100000 in
set_option maxHeartbeats 4000000 in
theorem When_any (e0 e1 : Int) (A B : Option Addr) (c d : Nat) (ps : List Pr) (ts : List Tr) (n ch : Int) (w : World) (hA : BA w A B c d ps ts) :
    Calls Tryz.prog 65 #[bkV e0 e1 (.slice A ps.length c) (.slice B ts.length d), .int .i64 n, .int .i64 ch] w fun e w' => e = spE (whenE e0 e1 ps ts n ch) (whenCode e0 e1 ps ts n ch) ∧ Below w.heap.size w w' := by
  have HC := fun w1 (hb : Below w.heap.size w w1) => Lib.hid (grouped_any e0 e1 A B c d ps ts n w1 (hA.next hb))
  have HA := Lib.hid hA
  clear hA
  unfold bkV at HC ⊢
  go_enter Tryz.func65, Tryz.ntmps65
  go_wp2_with fail
  refine (HC _ (by go_grown)).out.mono ?_
  rintro e w1 (⟨h0, hok, g, v, vs, base, rfl, hg, hgb, hG, hv, hb1⟩ | ⟨h0, hok, rfl, hb1⟩ | ⟨h0, rfl, hb1⟩)
  all_goals
    have B0 := ((Blk.new w [.int .i64 e0, .int .i64 e1, .slice A ps.length c, .slice B ts.length d] 26).alloc (.cells #[.int .i64 0, .int .i64 0] 36)).below hb1
    have B1 := (Blk.new (w.alloc (.cells #[.int .i64 e0, .int .i64 e1, .slice A ps.length c, .slice B ts.length d] 26)) [.int .i64 0, .int .i64 0] 36).below hb1
    rw [World.size_alloc] at B1
    have hbw : Below w.heap.size w w1 := ((below_new w _).trans ((below_new _ _).mono (by simp))).trans (hb1.mono (by simp; omega))
    have hlt := B1.lt
    have c0 := B1.cells 0 _ rfl
    have c1 := B1.cells 1 _ rfl
    have f0 := B1.free 0
    have f1 := B1.free 1
  · have HK := Lib.hid (grCode_ok h0 hok)
    have hrow := hv.row
    obtain ⟨A1, cg, rfl, hc1, _⟩ := own_slice hrow
    have hLn := ordL_length ps n
    have h10 := (ask_ok h0).1.lp
    have hn : (groupsG (spI e0 e1 ps) (ordL ps n)).length ≤ 10 := by
      have h1 := (groupsG_len (sp := spI e0 e1 ps) (l := ordL ps n) _ (Nat.le_refl _)).1
      rw [List.take_length] at h1
      omega
    have HV := Lib.hid hv
    have HG := Lib.hid hG
    have HOK := Lib.hid hok
    have HBW := Lib.hid hbw
    have b2 := B0.cells 2 _ rfl
    have lb := B0.lt
    have hg1 := hG.bk.lt
    have HN := Lib.hid hn
    have HLN := Lib.hid hLn
    have H10 := Lib.hid h10
    clear HC h0 hok hv hrow hG hbw hb1 hn hLn h10
    have hw := IntWalk.wrap64_in (((groupsG (spI e0 e1 ps) (ordL ps n)).length : Int) - 2) (by have := HN.out; omega)
    have HRV := Lib.hid (groups_reverse HOK.out)
    have HSGB := Lib.hid (groupsG_good (sp := spI e0 e1 ps) (l := (ordL ps n).reverse) (fun i hi => HOK.out i (List.mem_reverse.1 hi)))
    have HSG := Lib.hid (groupsG_good (sp := spI e0 e1 ps) (l := ordL ps n) HOK.out)
    have hflat := groupsG_flat (spI e0 e1 ps) (ordL ps n)
    have hmem : ∀ x ∈ groupsG (spI e0 e1 ps) (ordL ps n), ∀ i ∈ x.ps, i < ps.length := fun x hx i hi => ordL_mem_lt i (by rw [← hflat]; exact List.mem_flatMap.2 ⟨x, hx, hi⟩)
    have hflat' := groupsG_flat (spI e0 e1 ps) (ordL ps n).reverse
    have hmem' : ∀ x ∈ groupsG (spI e0 e1 ps) (ordL ps n).reverse, ∀ i ∈ x.ps, i < ps.length := fun x hx i hi => ordL_mem_lt (n := n) i (List.mem_reverse.1 (by rw [← hflat']; exact List.mem_flatMap.2 ⟨x, hx, hi⟩))
    have HMEM := Lib.hid hmem
    have HMEM' := Lib.hid hmem'
    clear hflat hmem hflat' hmem'
    have HWC : Hid (whenCode e0 e1 ps ts n ch = if inB ch 0 (((groupsG (spI e0 e1 ps) (ordL ps n)).length : Int) - 2) = false then 1 else 0) := Lib.hid (by unfold whenCode; rw [if_neg (by rw [HK.out]; simp)])
    go_wp2_with fail
    refine (in_any _ _ _ _).mono ?_
    rintro e w2 ⟨rfl, rfl⟩
    cases h1 : inB ch 0 (((groupsG (spI e0 e1 ps) (ordL ps n)).length : Int) - 2)
    · have H1 : Hid (whenCode e0 e1 ps ts n ch = 1) := Lib.hid (by rw [HWC.out, h1]; rfl)
      clear h1
      go_wp2_with fail
      obtain ⟨r0, r1⟩ := two_set (u := .int .i64 0) (v := .int .i64 0) c0 c1
      refine bodyPost_ret (v := .tuple #[.agg #[.int .i64 0, .int .i64 0], .int .i64 1]) (by simp [results, Tryz.results65, go_sem, r0, r1]) rfl ⟨spE_eq (s := (0, 0)) (by unfold whenE; rw [if_neg (by rw [H1.out]; decide)]) H1.out.symm, (HBW.out.setCell (p := ⟨w.heap.size + 1, 0, none⟩) (by simp) _).setCell (p := ⟨w.heap.size + 1, 1, none⟩) (by simp) _⟩
    · have H1 : Hid (whenCode e0 e1 ps ts n ch = 0) := Lib.hid (by rw [HWC.out, h1]; rfl)
      have hin := inB_iff.1 h1
      obtain ⟨k, rfl⟩ : ∃ k : Nat, ch = (k : Nat) := ⟨ch.toNat, by omega⟩
      have hk : k + 2 ≤ (groupsG (spI e0 e1 ps) (ordL ps n)).length := by omega
      have hlp : 0 < (ordL ps n).length := by
        have h := (groupsG_len (sp := spI e0 e1 ps) (l := ordL ps n) _ (Nat.le_refl _)).1
        rw [List.take_length] at h
        omega
      have HO := Lib.hid (order_any w1 g n A c ps HG.out.bk.lt HG.out.bk.c2 HG.out.rp H10.out (fun p hp => (HG.out.ok.pr p hp).1) HG.out.ok.once)
      clear h1 hin HWC
      go_wp2_with fail
      refine HO.out.mono ?_
      rintro e w2 ⟨v2, rfl, hv2, hb2⟩
      obtain ⟨g2, cap2, rfl, hg2, hg2l⟩ := own_slice' hv2 hlp
      have HREV := Lib.hid (reverse_any g2 cap2 w1.heap.size (ordL ps n) w2 (by have := HLN.out; have := H10.out; omega) hv2)
      have HB2 := Lib.hid hb2
      clear HO hv2 hb2
      go_wp2_with fail
      refine HREV.out.mono ?_
      rintro e w3 ⟨rfl, hr3, hg3⟩
      have hb13 : Below w1.heap.size w1 w3 := HB2.out.trans ⟨hg3.os, hg3.tape, hg3.output, hg3.size, fun j hj => hg3.block j (by have := HB2.out.size; omega) (fun e => by injection e with e; omega)⟩
      have HB3 := Lib.hid hb13
      have hll : (ordL ps n).reverse.length = (ordL ps n).length := List.length_reverse
      have HGR := Lib.hid (groups_any g e0 e1 A c ps B d ts (some ⟨g2, 0, none⟩) cap2 (ordL ps n).reverse w3 (HG.out.below hb13) hr3 (fun i hi => ordL_mem_lt (n := n) i (List.mem_reverse.1 hi)) (by rw [hll]; have := HLN.out; have := H10.out; omega))
      rw [hll] at HGR
      clear HREV hg3 hr3 hb13
      go_wp2_with fail
      refine HGR.out.mono ?_
      rintro e w4 ⟨⟨hok4, v4, vs4, rfl, hv4⟩ | ⟨hok4, rfl⟩, hb4⟩
      · have HB4 := Lib.hid (HB3.out.trans (hb4.mono HB3.out.size))
        obtain ⟨g4, cap4, rfl, hg4, hg4l⟩ := own_slice' hv4.row (by rw [HRV.out]; omega)
        have HV4 := Lib.hid hv4
        clear hok4 hv4 hb4 HGR
        have hrl := HRV.out
        have hkn : k + 1 < (groupsG (spI e0 e1 ps) (ordL ps n)).length := by omega
        obtain ⟨g1, capg, e1', hg1b, hg1l⟩ := own_slice' HV.out.row (by omega)
        injection e1' with e1' _ e3'
        subst e1' e3'
        obtain ⟨bF, oF, cF, qF2, lF, qF0, pF⟩ := HV.out.grp hkn (ps_ne (HSG.out _ (List.getElem_mem hkn)))
        have hjn : (groupsG (spI e0 e1 ps) (ordL ps n)).length - 1 - k < (groupsG (spI e0 e1 ps) (ordL ps n).reverse).length := by rw [hrl]; omega
        obtain ⟨bA, oA, cA, qA2, lA, qA0, pA⟩ := HV4.out.grp hjn (ps_ne (HSGB.out _ (List.getElem_mem hjn)))
        have hfm : (groupsG (spI e0 e1 ps) (ordL ps n))[k + 1].ps.headD 0 < ps.length := HMEM.out _ (List.getElem_mem hkn) _ (headD_mem pF)
        have htm := HMEM'.out _ (List.getElem_mem hjn) _ (headD_mem pA)
        have HWE : Hid (whenE e0 e1 ps ts n (k : Nat) = (hdP ps (groupsG (spI e0 e1 ps) (ordL ps n).reverse)[(groupsG (spI e0 e1 ps) (ordL ps n)).length - 1 - k] + 1, hdP ps (groupsG (spI e0 e1 ps) (ordL ps n))[k + 1])) := Lib.hid (by
          unfold whenE
          rw [if_pos H1.out]
          simp only [Int.toNat_natCast]
          rw [getD_at hjn, getD_at hkn])
        unfold hdP at HWE
        generalize (groupsG (spI e0 e1 ps) (ordL ps n).reverse)[(groupsG (spI e0 e1 ps) (ordL ps n)).length - 1 - k] = gA at *
        generalize (groupsG (spI e0 e1 ps) (ordL ps n))[k + 1] = gF at *
        generalize gA.ps.headD 0 = t at *
        generalize gF.ps.headD 0 = f at *
        rw [pAt_eq htm, pAt_eq hfm] at HWE
        obtain ⟨pb, off, rfl, hGI⟩ := HG.out.gi hfm
        have HR4 := Lib.hid (hGI.rp.next HB4.out)
        have y2 := HB4.out.at_ lb b2
        have yF2 := HB4.out.at_ hg1l qF2
        have yF0 := HB4.out.at_ lF qF0
        have lF4 : bF < w4.heap.size := Nat.lt_of_lt_of_le lF HB4.out.size
        have lb4 : w.heap.size < w4.heap.size := Nat.lt_of_lt_of_le lb HB4.out.size
        have lg4 : g1 < w4.heap.size := Nat.lt_of_lt_of_le hg1l HB4.out.size
        have z0 := HB4.out.at_ hlt c0
        have z1 := HB4.out.at_ hlt c1
        have zf0 := (HB4.out.frozen (p := ⟨w.heap.size + 1, 0, none⟩) hlt).trans f0
        have zf1 := (HB4.out.frozen (p := ⟨w.heap.size + 1, 1, none⟩) hlt).trans f1
        have zl : w.heap.size + 1 < w4.heap.size := Nat.lt_of_lt_of_le hlt HB4.out.size
        have HP := Lib.hid (HG.out.ok.pr _ (List.getElem_mem htm))
        rw [hrl]
        clear hrl hjn qF2 qF0 hGI b2 c0 c1 f0 f1
        obtain ⟨m, HM⟩ : ∃ m, Hid ((groupsG (spI e0 e1 ps) (ordL ps n)).length = m) := ⟨_, Lib.hid rfl⟩
        rw [HM.out] at hk hkn qA2 hw ⊢
        have hm10 : m ≤ 10 := by have := HN.out; rw [HM.out] at this; exact this
        have k0 : (0 : Int) ≤ (k : Int) + 1 := by omega
        have k1 : (k : Int) + 1 < (m : Int) := by omega
        have i0 : (0 : Int) ≤ (m : Int) - 1 - (k : Int) := by omega
        have i1 : (m : Int) - 1 - (k : Int) < (m : Int) := by omega
        have i2 : ((m : Int) - 1 - (k : Int)).toNat = m - 1 - k := by omega
        have hw1 := IntWalk.wrap64_in ((m : Int) - 1) (by omega)
        have hw2 := IntWalk.wrap64_in ((m : Int) - 1 - (k : Int)) (by omega)
        have hw3 := IntWalk.i64_in ((k : Int) + 1) (by omega)
        clear hll hlp hw B0 B1 hg hgb hg1b hg2 hg2l hg4
        go_wp2_with fail
        refine wp_inv 23 (by kernel_rfl) (by kernel_rfl) (by kernel_rfl) (by decide) (FL [PEq (.pointer (some ⟨w.heap.size, 2, none⟩)), PEq (.slice (some ⟨pb, off, none⟩) ps.length c), PEq (.slice (some ⟨bA, oA, none⟩) gA.ps.length cA), PEq (.pointer (some ⟨bA, oA, none⟩)), PEq (.int .i64 (t : Nat)), PEq (.pointer (some ⟨pb, off + t * 4, none⟩)), PEq (.pointer (some ⟨pb, off + t * 4 + 1, none⟩)), PEq (.int .i64 ps[t].m), PEq (.int .i64 (ps[t].m + 1)), PEq (.pointer (some ⟨w.heap.size, 2, none⟩)), PEq (.slice (some ⟨pb, off, none⟩) ps.length c), PEq (.slice (some ⟨g1, 0, none⟩) m cg), PEq (.int .i64 (k : Nat)), PEq (.int .i64 ((k : Int) + 1)), PEq (.pointer (some ⟨g1, (k + 1) * 3, none⟩)), PEq (.pointer (some ⟨g1, (k + 1) * 3 + 2, none⟩)), PEq (.slice (some ⟨bF, oF, none⟩) gF.ps.length cF), PEq (.pointer (some ⟨bF, oF, none⟩)), PEq (.int .i64 (f : Nat)), PEq (.pointer (some ⟨pb, off + f * 4, none⟩)), PEq (.pointer (some ⟨pb, off + f * 4 + 1, none⟩)), PEq (.int .i64 ps[f].m), PEq (.agg #[.int .i64 (ps[t].m + 1), .int .i64 ps[f].m])])
          (fun x => Below w4.heap.size w4 x) (fun x y => Below x.heap.size x y) (FL.keepB (by simp [stbB_eq])) (below_drew w4) ?_ ?_
        · intro iq o hi' ho listed vals a w5 hdep hM hAt K hK
          have HI := Lib.hid hM.inv
          match iq, hi' with
          | 0, _ =>
            injection ho with ho
            subst ho
            obtain ⟨e3, e3'⟩ := hAt.slot 3 (by kernel_rfl) (by rfl)
            go_simp
            exact hK _ w5 (Below.refl _ _) HI.out rfl
          | 1, _ =>
            injection ho with ho
            subst ho
            have l0 := hdep ⟨0, .data⟩ (by simp) rfl
            obtain ⟨x0, x0'⟩ := hAt.dep 0 (d := 55) (by omega) l0 (by rfl) (hM.fact 0 (by omega) l0)
            have q0 := HI.out.at_ lb4 y2
            go_simp
            exact hK _ w5 (Below.refl _ _) HI.out rfl
          | 2, _ =>
            injection ho with ho
            subst ho
            obtain ⟨e14, e14'⟩ := hAt.slot 14 (by kernel_rfl) (by rfl)
            go_simp
            exact hK _ w5 (Below.refl _ _) HI.out rfl
          | 3, _ =>
            injection ho with ho
            subst ho
            have l2 := hdep ⟨2, .data⟩ (by simp) rfl
            obtain ⟨x2, x2'⟩ := hAt.dep 2 (d := 57) (by omega) l2 (by rfl) (hM.fact 2 (by omega) l2)
            have n0 : (0 : Int) < (gA.ps.length : Int) := by omega
            go_simp
            exact hK _ w5 (Below.refl _ _) HI.out rfl
          | 4, _ =>
            injection ho with ho
            subst ho
            have l3 := hdep ⟨3, .data⟩ (by simp) rfl
            obtain ⟨x3, x3'⟩ := hAt.dep 3 (d := 58) (by omega) l3 (by rfl) (hM.fact 3 (by omega) l3)
            have q0 := HI.out.at_ lA qA0
            go_simp
            exact hK _ w5 (Below.refl _ _) HI.out rfl
          | 5, _ =>
            injection ho with ho
            subst ho
            have l1 := hdep ⟨1, .data⟩ (by simp) rfl
            obtain ⟨x1, x1'⟩ := hAt.dep 1 (d := 56) (by omega) l1 (by rfl) (hM.fact 1 (by omega) l1)
            have l4 := hdep ⟨4, .data⟩ (by simp) rfl
            obtain ⟨x4, x4'⟩ := hAt.dep 4 (d := 59) (by omega) l4 (by rfl) (hM.fact 4 (by omega) l4)
            have n0 : (0 : Int) ≤ (t : Int) := by omega
            have n1 : (t : Int) < (ps.length : Int) := by omega
            go_simp
            exact hK _ w5 (Below.refl _ _) HI.out rfl
          | 6, _ =>
            injection ho with ho
            subst ho
            have l5 := hdep ⟨5, .data⟩ (by simp) rfl
            obtain ⟨x5, x5'⟩ := hAt.dep 5 (d := 60) (by omega) l5 (by rfl) (hM.fact 5 (by omega) l5)
            go_simp
            exact hK _ w5 (Below.refl _ _) HI.out rfl
          | 7, _ =>
            injection ho with ho
            subst ho
            have l6 := hdep ⟨6, .data⟩ (by simp) rfl
            obtain ⟨x6, x6'⟩ := hAt.dep 6 (d := 61) (by omega) l6 (by rfl) (hM.fact 6 (by omega) l6)
            obtain ⟨p0, p1, p2, p3⟩ := (HR4.out.next HI.out).proof' htm
            go_simp
            exact hK _ w5 (Below.refl _ _) HI.out rfl
          | 8, _ =>
            injection ho with ho
            subst ho
            have l7 := hdep ⟨7, .data⟩ (by simp) rfl
            obtain ⟨x7, x7'⟩ := hAt.dep 7 (d := 62) (by omega) l7 (by rfl) (hM.fact 7 (by omega) l7)
            have n0 := IntWalk.i64_in (ps[t].m + 1) (by have := HP.out; omega)
            go_simp
            exact hK _ w5 (Below.refl _ _) HI.out rfl
          | 9, _ =>
            injection ho with ho
            subst ho
            obtain ⟨e3, e3'⟩ := hAt.slot 3 (by kernel_rfl) (by rfl)
            go_simp
            exact hK _ w5 (Below.refl _ _) HI.out rfl
          | 10, _ =>
            injection ho with ho
            subst ho
            have l9 := hdep ⟨9, .data⟩ (by simp) rfl
            obtain ⟨x9, x9'⟩ := hAt.dep 9 (d := 64) (by omega) l9 (by rfl) (hM.fact 9 (by omega) l9)
            have q0 := HI.out.at_ lb4 y2
            go_simp
            exact hK _ w5 (Below.refl _ _) HI.out rfl
          | 11, _ =>
            injection ho with ho
            subst ho
            obtain ⟨e9, e9'⟩ := hAt.slot 9 (by kernel_rfl) (by rfl)
            go_simp
            exact hK _ w5 (Below.refl _ _) HI.out rfl
          | 12, _ =>
            injection ho with ho
            subst ho
            obtain ⟨e2, e2'⟩ := hAt.slot 2 (by kernel_rfl) (by rfl)
            go_simp
            exact hK _ w5 (Below.refl _ _) HI.out rfl
          | 13, _ =>
            injection ho with ho
            subst ho
            have l12 := hdep ⟨12, .data⟩ (by simp) rfl
            obtain ⟨x12, x12'⟩ := hAt.dep 12 (d := 67) (by omega) l12 (by rfl) (hM.fact 12 (by omega) l12)
            go_simp
            exact hK _ w5 (Below.refl _ _) HI.out rfl
          | 14, _ =>
            injection ho with ho
            subst ho
            have l11 := hdep ⟨11, .data⟩ (by simp) rfl
            obtain ⟨x11, x11'⟩ := hAt.dep 11 (d := 66) (by omega) l11 (by rfl) (hM.fact 11 (by omega) l11)
            have l13 := hdep ⟨13, .data⟩ (by simp) rfl
            obtain ⟨x13, x13'⟩ := hAt.dep 13 (d := 68) (by omega) l13 (by rfl) (hM.fact 13 (by omega) l13)
            go_simp
            exact hK _ w5 (Below.refl _ _) HI.out rfl
          | 15, _ =>
            injection ho with ho
            subst ho
            have l14 := hdep ⟨14, .data⟩ (by simp) rfl
            obtain ⟨x14, x14'⟩ := hAt.dep 14 (d := 69) (by omega) l14 (by rfl) (hM.fact 14 (by omega) l14)
            go_simp
            exact hK _ w5 (Below.refl _ _) HI.out rfl
          | 16, _ =>
            injection ho with ho
            subst ho
            have l15 := hdep ⟨15, .data⟩ (by simp) rfl
            obtain ⟨x15, x15'⟩ := hAt.dep 15 (d := 70) (by omega) l15 (by rfl) (hM.fact 15 (by omega) l15)
            have q0 := HI.out.at_ lg4 yF2
            go_simp
            exact hK _ w5 (Below.refl _ _) HI.out rfl
          | 17, _ =>
            injection ho with ho
            subst ho
            have l16 := hdep ⟨16, .data⟩ (by simp) rfl
            obtain ⟨x16, x16'⟩ := hAt.dep 16 (d := 71) (by omega) l16 (by rfl) (hM.fact 16 (by omega) l16)
            have n0 : (0 : Int) < (gF.ps.length : Int) := by omega
            go_simp
            exact hK _ w5 (Below.refl _ _) HI.out rfl
          | 18, _ =>
            injection ho with ho
            subst ho
            have l17 := hdep ⟨17, .data⟩ (by simp) rfl
            obtain ⟨x17, x17'⟩ := hAt.dep 17 (d := 72) (by omega) l17 (by rfl) (hM.fact 17 (by omega) l17)
            have q0 := HI.out.at_ lF4 yF0
            go_simp
            exact hK _ w5 (Below.refl _ _) HI.out rfl
          | 19, _ =>
            injection ho with ho
            subst ho
            have l10 := hdep ⟨10, .data⟩ (by simp) rfl
            obtain ⟨x10, x10'⟩ := hAt.dep 10 (d := 65) (by omega) l10 (by rfl) (hM.fact 10 (by omega) l10)
            have l18 := hdep ⟨18, .data⟩ (by simp) rfl
            obtain ⟨x18, x18'⟩ := hAt.dep 18 (d := 73) (by omega) l18 (by rfl) (hM.fact 18 (by omega) l18)
            have n0 : (0 : Int) ≤ (f : Int) := by omega
            have n1 : (f : Int) < (ps.length : Int) := by omega
            go_simp
            exact hK _ w5 (Below.refl _ _) HI.out rfl
          | 20, _ =>
            injection ho with ho
            subst ho
            have l19 := hdep ⟨19, .data⟩ (by simp) rfl
            obtain ⟨x19, x19'⟩ := hAt.dep 19 (d := 74) (by omega) l19 (by rfl) (hM.fact 19 (by omega) l19)
            go_simp
            exact hK _ w5 (Below.refl _ _) HI.out rfl
          | 21, _ =>
            injection ho with ho
            subst ho
            have l20 := hdep ⟨20, .data⟩ (by simp) rfl
            obtain ⟨x20, x20'⟩ := hAt.dep 20 (d := 75) (by omega) l20 (by rfl) (hM.fact 20 (by omega) l20)
            obtain ⟨p0, p1, p2, p3⟩ := (HR4.out.next HI.out).proof' hfm
            go_simp
            exact hK _ w5 (Below.refl _ _) HI.out rfl
          | 22, _ =>
            injection ho with ho
            subst ho
            have l8 := hdep ⟨8, .data⟩ (by simp) rfl
            obtain ⟨x8, x8'⟩ := hAt.dep 8 (d := 63) (by omega) l8 (by rfl) (hM.fact 8 (by omega) l8)
            have l21 := hdep ⟨21, .data⟩ (by simp) rfl
            obtain ⟨x21, x21'⟩ := hAt.dep 21 (d := 76) (by omega) l21 (by rfl) (hM.fact 21 (by omega) l21)
            go_simp
            exact hK _ w5 (Below.refl _ _) HI.out rfl
          | jq + 23, hq => exact absurd hq (by omega)
        · intro vals w5 hM
          have HI := Lib.hid hM.inv
          have f0 : vals 0 = .pointer (some ⟨w.heap.size, 2, none⟩) := hM.all (by decide) 0 (by omega)
          have f1 : vals 1 = .slice (some ⟨pb, off, none⟩) ps.length c := hM.all (by decide) 1 (by omega)
          have f2 : vals 2 = .slice (some ⟨bA, oA, none⟩) gA.ps.length cA := hM.all (by decide) 2 (by omega)
          have f3 : vals 3 = .pointer (some ⟨bA, oA, none⟩) := hM.all (by decide) 3 (by omega)
          have f4 : vals 4 = .int .i64 (t : Nat) := hM.all (by decide) 4 (by omega)
          have f5 : vals 5 = .pointer (some ⟨pb, off + t * 4, none⟩) := hM.all (by decide) 5 (by omega)
          have f6 : vals 6 = .pointer (some ⟨pb, off + t * 4 + 1, none⟩) := hM.all (by decide) 6 (by omega)
          have f7 : vals 7 = .int .i64 ps[t].m := hM.all (by decide) 7 (by omega)
          have f8 : vals 8 = .int .i64 (ps[t].m + 1) := hM.all (by decide) 8 (by omega)
          have f9 : vals 9 = .pointer (some ⟨w.heap.size, 2, none⟩) := hM.all (by decide) 9 (by omega)
          have f10 : vals 10 = .slice (some ⟨pb, off, none⟩) ps.length c := hM.all (by decide) 10 (by omega)
          have f11 : vals 11 = .slice (some ⟨g1, 0, none⟩) m cg := hM.all (by decide) 11 (by omega)
          have f12 : vals 12 = .int .i64 (k : Nat) := hM.all (by decide) 12 (by omega)
          have f13 : vals 13 = .int .i64 ((k : Int) + 1) := hM.all (by decide) 13 (by omega)
          have f14 : vals 14 = .pointer (some ⟨g1, (k + 1) * 3, none⟩) := hM.all (by decide) 14 (by omega)
          have f15 : vals 15 = .pointer (some ⟨g1, (k + 1) * 3 + 2, none⟩) := hM.all (by decide) 15 (by omega)
          have f16 : vals 16 = .slice (some ⟨bF, oF, none⟩) gF.ps.length cF := hM.all (by decide) 16 (by omega)
          have f17 : vals 17 = .pointer (some ⟨bF, oF, none⟩) := hM.all (by decide) 17 (by omega)
          have f18 : vals 18 = .int .i64 (f : Nat) := hM.all (by decide) 18 (by omega)
          have f19 : vals 19 = .pointer (some ⟨pb, off + f * 4, none⟩) := hM.all (by decide) 19 (by omega)
          have f20 : vals 20 = .pointer (some ⟨pb, off + f * 4 + 1, none⟩) := hM.all (by decide) 20 (by omega)
          have f21 : vals 21 = .int .i64 ps[f].m := hM.all (by decide) 21 (by omega)
          have f22 : vals 22 = .agg #[.int .i64 (ps[t].m + 1), .int .i64 ps[f].m] := hM.all (by decide) 22 (by omega)
          clear hM
          simp only [putAll, List.range, List.range.loop, List.foldl_cons, List.foldl_nil, f0, f1, f2, f3, f4, f5, f6, f7, f8, f9, f10, f11, f12, f13, f14, f15, f16, f17, f18, f19, f20, f21, f22]
          clear f0 f1 f2 f3 f4 f5 f6 f7 f8 f9 f10 f11 f12 f13 f14 f15 f16 f17 f18 f19 f20 f21 f22
          change wpAny _ _ _ _ _ _ (Act.put (Act.put (Act.put (Act.put (Act.put (Act.put (Act.put (Act.put (Act.put (Act.put (Act.put (Act.put (Act.put (Act.put (Act.put (Act.put (Act.put (Act.put (Act.put (Act.put (Act.put (Act.put (Act.put _ (some 55) _) (some 56) _) (some 57) _) (some 58) _) (some 59) _) (some 60) _) (some 61) _) (some 62) _) (some 63) _) (some 64) _) (some 65) _) (some 66) _) (some 67) _) (some 68) _) (some 69) _) (some 70) _) (some 71) _) (some 72) _) (some 73) _) (some 74) _) (some 75) _) (some 76) _) (some 77) _) _
          simp only [Act.put, List.setIfInBounds_toArray, List.set_cons_zero, List.set_cons_succ]
          refine tail_step 23 _ (by kernel_rfl) rfl rfl (fun K' hK => ?_)
          have q0 := HI.out.at_ zl z0
          have q1 := HI.out.at_ zl z1
          have q2 := (HI.out.frozen (p := ⟨w.heap.size + 1, 0, none⟩) zl).trans zf0
          have q3 := (HI.out.frozen (p := ⟨w.heap.size + 1, 1, none⟩) zl).trans zf1
          have q4 : w.heap.size + 1 < w5.heap.size := Nat.lt_of_lt_of_le zl HI.out.size
          go_simp
          refine hK _ _ ?_
          clear hK K'
          refine tail_step 24 _ (by kernel_rfl) rfl rfl (fun K' hK => ?_)
          go_simp
          refine hK _ _ ?_
          clear hK K'
          refine wpAny_done (by kernel_rfl) ?_ _
          obtain ⟨r0, r1⟩ := two_set (u := .int .i64 (ps[t].m + 1)) (v := .int .i64 ps[f].m) q0 q1
          have hbz : Below w.heap.size w ((w5.setCell ⟨w.heap.size + 1, 0, none⟩ (.int .i64 (ps[t].m + 1))).setCell ⟨w.heap.size + 1, 1, none⟩ (.int .i64 ps[f].m)) := ((HBW.out.trans ((HB4.out.trans (HI.out.mono HB4.out.size)).mono HBW.out.size)).setCell (p := ⟨w.heap.size + 1, 0, none⟩) (by simp) _).setCell (p := ⟨w.heap.size + 1, 1, none⟩) (by simp) _
          generalize (w5.setCell _ _).setCell _ _ = Z at r0 r1 hbz ⊢
          go_wp2_with fail
          (try simp only [Exit.inBlock, Exit.then])
          refine bodyPost_ret (v := .tuple #[.agg #[.int .i64 (ps[t].m + 1), .int .i64 ps[f].m], .int .i64 0]) (by simp [results, Tryz.results65, go_sem, r0, r1]) rfl ⟨spE_eq (s := (ps[t].m + 1, ps[f].m)) HWE.out.symm H1.out.symm, hbz⟩
      · exact absurd (fun i hi => HOK.out i (List.mem_reverse.1 hi)) hok4
  · have HK := Lib.hid (grCode_bad h0 hok)
    have H1 : Hid (whenCode e0 e1 ps ts n ch = 7) := Lib.hid (by unfold whenCode; rw [HK.out]; rfl)
    clear HC h0 hok hb1
    go_wp2_with fail
    obtain ⟨r0, r1⟩ := two_set (u := .int .i64 0) (v := .int .i64 0) c0 c1
    refine bodyPost_ret (v := .tuple #[.agg #[.int .i64 0, .int .i64 0], .int .i64 7]) (by simp [results, Tryz.results65, go_sem, r0, r1]) rfl ⟨spE_eq (s := (0, 0)) (by unfold whenE; rw [if_neg (by rw [H1.out]; decide)]) H1.out.symm, (hbw.setCell (p := ⟨w.heap.size + 1, 0, none⟩) (by simp) _).setCell (p := ⟨w.heap.size + 1, 1, none⟩) (by simp) _⟩
  · have h0' : (askCode (ckBook e0 e1 ps ts) n 0 == 0) = false := by simpa using h0
    have h0'' : (askCode (ckBook e0 e1 ps ts) n 0 != 0) = true := by simpa using h0
    have H0 := Lib.hid h0
    have HK := grCode_ask h0
    have H1 : Hid (whenCode e0 e1 ps ts n ch = askCode (ckBook e0 e1 ps ts) n 0) := Lib.hid (by unfold whenCode; rw [HK, if_pos h0])
    clear HC h0 hb1
    go_wp2_with fail
    obtain ⟨r0, r1⟩ := two_set (u := .int .i64 0) (v := .int .i64 0) c0 c1
    refine bodyPost_ret (v := .tuple #[.agg #[.int .i64 0, .int .i64 0], .int .i64 (askCode (ckBook e0 e1 ps ts) n 0)]) (by simp [results, Tryz.results65, go_sem, r0, r1]) rfl ⟨spE_eq (s := (0, 0)) (by unfold whenE; rw [if_neg (by rw [H1.out]; exact H0.out)]) H1.out.symm, (hbw.setCell (p := ⟨w.heap.size + 1, 0, none⟩) (by simp) _).setCell (p := ⟨w.heap.size + 1, 1, none⟩) (by simp) _⟩
end Go.Proofs.YtcdjoegihmfanaaGreat
