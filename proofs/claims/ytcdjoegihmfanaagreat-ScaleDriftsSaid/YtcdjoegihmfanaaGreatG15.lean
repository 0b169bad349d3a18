/- Proves's functions: whether an index is one of the bridge's proofs; whether both of a pair are. Proves: whether pairs are apart. The examples of the chapter, in plain numbers. Two lists compared (Alike of numbers, changes, pairs, proofs, trips): true just where they are equal. The calls of the examples. -/
import Derived.Test.YtcdjoegihmfanaaGreatG11
import Derived.Deep.QuietTactic
import Derived.BigQuiet
import Derived.Test.YtcdjoegihmfanaaGreatG8
import Derived.Test.YtcdjoegihmfanaaGreatG13
import Derived.Test.YtcdjoegihmfanaaGreatG14
import Derived.Test.YtcdjoegihmfanaaGreatG4
import Derived.Laws.StructEq
namespace Go.Proofs.YtcdjoegihmfanaaGreat
open Go.RowKit
set_option linter.unusedVariables false
/-- A number that is the index of a proof of the bridge. -/
def isPf (ps : List Pr) (n i : Int) : Bool := inB i 0 ((ps.length : Int) - 1) && decide ((pAt ps i.toNat).b = n)
theorem in_q {n lo hi : Int} {b : Bool} (h : inB n lo hi = b) (w : World) : Calls Tryz.prog 88 #[.int .i64 n, .int .i64 lo, .int .i64 hi] w fun e w' => e = .returned (.bool b) ∧ w' = w := by
  subst h
  exact (in_any n lo hi w).mono fun e w' ⟨h1, h2⟩ => ⟨h1, h2.symm⟩
set_option maxRecDepth 100000 in
set_option maxHeartbeats 1000000 in
theorem isPf_any (b3 b4 : Nat) (A : Option Addr) (c : Nat) (ps : List Pr) (n i : Int) (w : World) (h2 : w.cell? ⟨b3, 2, none⟩ = some (.slice A ps.length c)) (h4 : w.cell? ⟨b4, 0, none⟩ = some (.int .i64 n)) (hr : Rd w w.heap.size A (prs ps)) (hl : ps.length ≤ 1000) (l3 : b3 < w.heap.size) (l4 : b4 < w.heap.size) :
    Calls Tryz.prog 135 #[.int .i64 i, .pointer (some ⟨b3, 0, none⟩), .pointer (some ⟨b4, 0, none⟩)] w fun e w' => e = .returned (.bool (isPf ps n i)) ∧ Below w.heap.size w w' := by
  have hw := IntWalk.wrap64_in ((ps.length : Int) - 1) (by omega)
  cases h1 : inB i 0 ((ps.length : Int) - 1)
  · have HF : Hid (isPf ps n i = false) := Lib.hid (by unfold isPf; rw [h1]; rfl)
    have H1 := Lib.hid h1
    clear h1 hr
    go_enter Tryz.func135, Tryz.ntmps135
    go_wp2_with fail
    go_quiet ((go_at_call 88; exact Calls.quiet_of_same (in_q H1.out _)))
    go_wp2_with fail
    go_ret
    exact ⟨ret_bool HF.out.symm, below_drewN (Below.refl _ _) _⟩
  · have hin := inB_iff.1 h1
    obtain ⟨k, rfl⟩ : ∃ k : Nat, i = (k : Nat) := ⟨i.toNat, by omega⟩
    have hk : k < ps.length := by omega
    obtain ⟨b, off, rfl, hb, p0, _⟩ := hr.proof hk
    have HF : Hid (isPf ps n (k : Nat) = decide (ps[k].b = n)) := Lib.hid (by unfold isPf; rw [h1, Bool.true_and, Int.toNat_natCast, pAt_eq hk])
    have H1 := Lib.hid h1
    have k0 : (0 : Int) ≤ (k : Int) := by omega
    have k1 : (k : Int) < (ps.length : Int) := by omega
    generalize ps[k].b = pb at *
    clear h1 hr hin
    go_enter Tryz.func135, Tryz.ntmps135
    go_wp2_with fail
    go_quiet ((go_at_call 88; exact Calls.quiet_of_same (in_q H1.out _)))
    go_wp2_with fail
    go_ret
    refine ⟨ret_bool ?_, below_drewN (Below.refl _ _) _⟩
    rw [HF.out]
    exact Bool.eq_iff_iff.2 (by simp)
/-- Both of a pair are. -/
def arePf (ps : List Pr) (n : Int) (p : Int × Int) : Bool := isPf ps n p.1 && isPf ps n p.2
set_option maxHeartbeats 1000000 in
theorem predPf (bf b3 b4 : Nat) (A : Option Addr) (c : Nat) (ps : List Pr) (n : Int) (t : List (Int × Int)) (w : World) (hf : w.cell? ⟨bf, 0, none⟩ = some (.func (.func 135) #[] #[.pointer (some ⟨b3, 0, none⟩), .pointer (some ⟨b4, 0, none⟩)])) (lf : bf < w.heap.size)
    (h2 : w.cell? ⟨b3, 2, none⟩ = some (.slice A ps.length c)) (h4 : w.cell? ⟨b4, 0, none⟩ = some (.int .i64 n)) (hr : Rd w w.heap.size A (prs ps)) (hl : ps.length ≤ 1000) (l3 : b3 < w.heap.size) (l4 : b4 < w.heap.size) :
    Decides 137 #[.pointer (some ⟨bf, 0, none⟩)] itV (arePf ps n) t w := by
  intro W x hx hB
  have hcall := fun (i : Int) (W' : World) (h : Below W.heap.size W W') => Lib.hid (isPf_any b3 b4 A c ps n i W' ((hB.trans (h.mono hB.size)).at_ l3 h2) ((hB.trans (h.mono hB.size)).at_ l4 h4) (hr.next (hB.trans (h.mono hB.size))) hl (Nat.lt_of_lt_of_le l3 (hB.trans (h.mono hB.size)).size) (Nat.lt_of_lt_of_le l4 (hB.trans (h.mono hB.size)).size))
  have hf' := hB.at_ lf hf
  have lf' := Nat.lt_of_lt_of_le lf hB.size
  obtain ⟨x0, x1⟩ := x
  have e1 : arePf ps n (x0, x1) = (isPf ps n x0 && isPf ps n x1) := rfl
  rw [e1]
  clear hf h2 h4 hr lf l3 l4 e1
  unfold itV
  show Calls Tryz.prog 137 #[_, .pointer (some ⟨bf, 0, none⟩)] W _
  go_enter Tryz.func137, Tryz.ntmps137
  go_wp2_with fail
  have B1 := Blk.new W [.int .i64 x0, .int .i64 x1] 99
  have bl := below_new W (.cells #[.int .i64 x0, .int .i64 x1] 99)
  refine (hcall x0 _ bl).out.mono ?_
  rintro e w1 ⟨rfl, hb1⟩
  have B2 := B1.below hb1
  have hbw : Below W.heap.size W w1 := bl.trans (hb1.mono bl.size)
  have c0 := B2.cells 0 _ rfl
  have c1 := B2.cells 1 _ rfl
  have lt := B2.lt
  have hf1 := hbw.at_ lf' hf'
  have lf1 := Nat.lt_of_lt_of_le lf' hbw.size
  clear B1 B2 bl hb1
  cases h1 : isPf ps n x0
  · have H1 := Lib.hid h1
    clear h1
    go_wp2_with fail
    go_ret
    exact ⟨ret_bool (by rw [H1.out]; rfl), hbw⟩
  · have H1 := Lib.hid h1
    clear h1
    go_wp2_with fail
    refine (hcall x1 _ hbw).out.mono ?_
    rintro e w2 ⟨rfl, hb2⟩
    have hbw2 := hbw.trans (hb2.mono hbw.size)
    clear hb2
    go_wp2_with fail
    go_ret
    exact ⟨ret_bool (by rw [H1.out]; rfl), hbw2⟩
end Go.Proofs.YtcdjoegihmfanaaGreat
namespace Go.Proofs.YtcdjoegihmfanaaGreat
open Go.RowKit
set_option linter.unusedVariables false
def natQ (qs : List (Int × Int)) : List (Nat × Nat) := qs.map fun q => (q.1.toNat, q.2.toNat)
def provCode (e0 e1 : Int) (ps : List Pr) (ts : List Tr) (n : Int) (qs : List (Int × Int)) : Int :=
  if askCode (ckBook e0 e1 ps ts) n 0 ≠ 0 then askCode (ckBook e0 e1 ps ts) n 0 else if qs.all (arePf ps n) = false then 2 else if 10 < qs.length then 3 else 0
def provE (e0 e1 : Int) (ps : List Pr) (ts : List Tr) (n : Int) (qs : List (Int × Int)) : Bool :=
  if provCode e0 e1 ps ts n qs = 0 then pairsB (spI e0 e1 ps) ps (-1) (natQ qs) else false
theorem retB {a b : Bool} {c d : Int} (h1 : a = b) (h2 : c = d) : Ending.returned (.tuple #[.bool a, .int .i64 c]) = .returned (.tuple #[.bool b, .int .i64 d]) := by rw [h1, h2]
set_option maxRecDepth 100000 in
set_option maxHeartbeats 4000000 in
theorem Proves_any (e0 e1 : Int) (A B : Option Addr) (c d : Nat) (ps : List Pr) (ts : List Tr) (n : Int) (QA : Option Addr) (cq : Nat) (qs : List (Int × Int)) (w : World) (hA : BA w A B c d ps ts) (hQ : Rd w w.heap.size QA (pairs qs)) (hql : qs.length ≤ 1000) :
    Calls Tryz.prog 64 #[bkV e0 e1 (.slice A ps.length c) (.slice B ts.length d), .int .i64 n, .slice QA qs.length cq] w fun e w' => e = .returned (.tuple #[.bool (provE e0 e1 ps ts n qs), .int .i64 (provCode e0 e1 ps ts n qs)]) ∧ Below w.heap.size w w' := by
  have HC := fun w1 (hb : Below w.heap.size w w1) => Lib.hid (asked_any e0 e1 A B c d ps ts n 0 w1 (hA.next hb))
  have HA := Lib.hid hA
  have HQ := Lib.hid hQ
  clear hA hQ
  unfold bkV at HC ⊢
  go_enter Tryz.func64, Tryz.ntmps64
  go_wp2_with fail
  refine (HC _ (by go_grown)).out.mono ?_
  rintro e w1 (⟨h0, g, rfl, hg, hk, hb1⟩ | ⟨h0, rfl, hb1⟩)
  all_goals
    have B0 := ((Blk.new w [.int .i64 e0, .int .i64 e1, .slice A ps.length c, .slice B ts.length d] 26).alloc (.cells #[.int .i64 n] 3)).below hb1
    have B1 := (Blk.new (w.alloc (.cells #[.int .i64 e0, .int .i64 e1, .slice A ps.length c, .slice B ts.length d] 26)) [.int .i64 n] 3).below hb1
    rw [World.size_alloc] at B1
    have hbw : Below w.heap.size w w1 := ((below_new w _).trans ((below_new _ _).mono (by simp))).trans (hb1.mono (by simp; omega))
  · have hG := Gd.mk' (HA.out.next hbw) hk (ask_ok h0).1
    have HG := Lib.hid hG
    have H0 := Lib.hid h0
    have HB0 := Lib.hid B0
    have HB1 := Lib.hid B1
    have HBW := Lib.hid hbw
    have hg1 := hk.lt
    clear HC h0 hk hb1 hG B0 B1 hbw hg
    have hst := run_store Tryz.prog (w1.alloc (.cells #[.nilFunc] 77)) ⟨w1.heap.size, 0, none⟩ (.func (.func 135) #[] #[.pointer (some ⟨w.heap.size, 0, none⟩), .pointer (some ⟨w.heap.size + 1, 0, none⟩)]) .plain rfl
    have BF := Blk.new w1 [.func (.func 135) #[] #[.pointer (some ⟨w.heap.size, 0, none⟩), .pointer (some ⟨w.heap.size + 1, 0, none⟩)]] 77
    have bf := below_new w1 (.cells #[.func (.func 135) #[] #[.pointer (some ⟨w.heap.size, 0, none⟩), .pointer (some ⟨w.heap.size + 1, 0, none⟩)]] 77)
    have hbf := HBW.out.trans (bf.mono HBW.out.size)
    have HEV := Lib.hid (everyPair_any QA cq qs 137 #[.pointer (some ⟨w1.heap.size, 0, none⟩)] (enters_of Tryz.func137 (by kernel_rfl) rfl) (arePf ps n) _ (HQ.out.next hbf) hql (predPf w1.heap.size w.heap.size (w.heap.size + 1) A c ps n qs _ (BF.cells 0 _ rfl) BF.lt (bf.at_ HB0.out.lt (HB0.out.cells 2 _ rfl)) (bf.at_ HB1.out.lt (HB1.out.cells 0 _ rfl)) (HA.out.ra.next hbf) HA.out.la (Nat.lt_of_lt_of_le HB0.out.lt bf.size) (Nat.lt_of_lt_of_le HB1.out.lt bf.size)))
    have HBF := Lib.hid hbf
    have HB1F := Lib.hid bf
    clear BF bf hbf
    go_wp2_with fail
    refine HEV.out.mono ?_
    rintro e w3 ⟨rfl, hb3⟩
    have HB3 := Lib.hid (HB1F.out.trans (hb3.mono HB1F.out.size))
    have HBW3 := Lib.hid (HBF.out.trans (hb3.mono HBF.out.size))
    clear hst hb3 HEV
    cases hall : qs.all (arePf ps n)
    · have H1 : Hid (provCode e0 e1 ps ts n qs = 2) := Lib.hid (by unfold provCode; rw [if_neg (by rw [H0.out]; simp), if_pos hall])
      clear hall
      go_wp2_with fail
      go_ret2
      exact ⟨retB (by unfold provE; rw [if_neg (by rw [H1.out]; decide)]) H1.out.symm, HBW3.out⟩
    have HALL := Lib.hid (List.all_eq_true.1 hall)
    by_cases hlen : 10 < qs.length
    · have H1 : Hid (provCode e0 e1 ps ts n qs = 3) := Lib.hid (by unfold provCode; rw [if_neg (by rw [H0.out]; simp), if_neg (by rw [hall]; simp), if_pos hlen])
      have hlen' : (10 : Int) < (qs.length : Int) := by omega
      clear hall
      go_wp2_with fail
      go_ret2
      exact ⟨retB (by unfold provE; rw [if_neg (by rw [H1.out]; decide)]) H1.out.symm, HBW3.out⟩
    have H1 : Hid (provCode e0 e1 ps ts n qs = 0) := Lib.hid (by unfold provCode; rw [if_neg (by rw [H0.out]; simp), if_neg (by rw [hall]; simp), if_neg hlen])
    have HPE : Hid (provE e0 e1 ps ts n qs = pairsB (spI e0 e1 ps) ps (-1) (natQ qs)) := Lib.hid (by unfold provE; rw [if_pos H1.out])
    have hlen' : ¬ (10 : Int) < (qs.length : Int) := by omega
    clear hall
    go_wp2_with fail
    go_loopw [11, 13, 14, 15, 38] (fun l _ _ _ i wr => ∃ (k : Nat) (m : Int), k ≤ qs.length ∧ i = .int .i64 (k : Nat) ∧ l = .int .i64 m ∧ Hid (pairsB (spI e0 e1 ps) ps (-1) (natQ qs) = pairsB (spI e0 e1 ps) ps m (natQ (qs.drop k))) ∧ Hid (Below w3.heap.size w3 wr)) (fun _ _ _ _ i _ => qs.length - (intOf i).toNat)
    case atStart => exact ⟨0, -1, Nat.zero_le _, rfl, rfl, Lib.hid rfl, Lib.hid (Below.refl _ _)⟩
    case round =>
      obtain ⟨k, m, hk, rfl, rfl, HPB, HBR⟩ := hrel
      have HB1R := Lib.hid (HB3.out.trans (HBR.out.mono HB3.out.size))
      have HBWR := Lib.hid (HBW3.out.trans (HBR.out.mono HBW3.out.size))
      by_cases hlt : k < qs.length
      · obtain ⟨bq, oq, rfl, hbq, x0, x1⟩ := (HQ.out.next HBWR.out).pair hlt
        have hap := HALL.out _ (List.getElem_mem hlt)
        have hd := List.drop_eq_getElem_cons hlt
        generalize qs[k] = q at x0 x1 hap hd
        obtain ⟨q1, q2⟩ := q
        simp only [arePf, isPf, Bool.and_eq_true, inB_iff] at hap
        obtain ⟨ia, rfl⟩ : ∃ ia : Nat, q1 = (ia : Nat) := ⟨q1.toNat, by omega⟩
        obtain ⟨ib, rfl⟩ : ∃ ib : Nat, q2 = (ib : Nat) := ⟨q2.toNat, by omega⟩
        have ha : ia < ps.length := by omega
        have hb : ib < ps.length := by omega
        have HST : Hid (pairsB (spI e0 e1 ps) ps (-1) (natQ qs) = (decide (ps[ia].m < ps[ib].m) && decide (m ≤ ps[ia].m) && exclI (spI e0 e1 ps) ia ib && pairsB (spI e0 e1 ps) ps ps[ib].m (natQ (qs.drop (k + 1))))) := Lib.hid (by
          rw [HPB.out, hd]
          show pairsB (spI e0 e1 ps) ps m ((((ia : Nat) : Int).toNat, ((ib : Nat) : Int).toNat) :: natQ (qs.drop (k + 1))) = _
          rw [Int.toNat_natCast, Int.toNat_natCast, pairsB, pAt_eq ha, pAt_eq hb])
        obtain ⟨pb, off, rfl, hGI⟩ := HG.out.gi ha
        have k0 : (0 : Int) ≤ (k : Int) := by omega
        have k1 : (k : Int) < (qs.length : Int) := by omega
        have BK := Blk.new wr [.int .i64 (ia : Nat), .int .i64 (ib : Nat)] 99
        have bk := below_new wr (.cells #[.int .i64 (ia : Nat), .int .i64 (ib : Nat)] 99)
        have HBK := Lib.hid BK
        have HbK := Lib.hid bk
        have HGI := Lib.hid hGI
        clear hap hd hGI BK bk HPB
        go_wp2_with fail
        obtain ⟨W5, HW5⟩ : ∃ W5, Hid (wr.alloc (.cells #[.int .i64 (ia : Nat), .int .i64 (ib : Nat)] 99) = W5) := ⟨_, Lib.hid rfl⟩
        have BK := HBK.out
        have bk := HbK.out
        change Blk (wr.alloc (.cells #[.int .i64 (ia : Nat), .int .i64 (ib : Nat)] 99)) _ _ at BK
        rw [HW5.out] at BK bk ⊢
        have y2 := bk.at_ (Nat.lt_of_lt_of_le HB0.out.lt HB1R.out.size) (HB1R.out.at_ HB0.out.lt (HB0.out.cells 2 _ rfl))
        have yk0 := BK.cells 0 _ rfl
        have yk1 := BK.cells 1 _ rfl
        have lk5 := BK.lt
        have lb5 : w.heap.size < W5.heap.size := Nat.lt_of_lt_of_le HB0.out.lt (Nat.le_trans HB1R.out.size bk.size)
        have HB15 := Lib.hid (HB1R.out.trans (bk.mono HB1R.out.size))
        have HR5 := Lib.hid (HGI.out.rp.next HB15.out)
        have HB35 := Lib.hid (HBR.out.trans (bk.mono HBR.out.size))
        clear BK bk HBK HbK
        refine wp_invT 16 (by kernel_rfl) (by kernel_rfl) (by kernel_rfl) (by decide) (FL [PEq (.pointer (some ⟨w.heap.size, 2, none⟩)), PEq (.slice (some ⟨pb, off, none⟩) ps.length c), PEq (.pointer (some ⟨wr.heap.size, 0, none⟩)), PEq (.int .i64 (ia : Nat)), PEq (.pointer (some ⟨pb, off + ia * 4, none⟩)), PEq (.pointer (some ⟨pb, off + ia * 4 + 1, none⟩)), PEq (.int .i64 ps[ia].m), PEq (.pointer (some ⟨w.heap.size, 2, none⟩)), PEq (.slice (some ⟨pb, off, none⟩) ps.length c), PEq (.pointer (some ⟨wr.heap.size, 1, none⟩)), PEq (.int .i64 (ib : Nat)), PEq (.pointer (some ⟨pb, off + ib * 4, none⟩)), PEq (.pointer (some ⟨pb, off + ib * 4 + 1, none⟩)), PEq (.int .i64 ps[ib].m), PEq (.int .i64 ps[ia].m), PEq (.int .i64 ps[ib].m)])
          (fun x => Below W5.heap.size W5 x) (fun x y => Below x.heap.size x y) (FL.keepB (by simp [stbB_eq])) (below_drew W5) ?_ ?_
        · intro iq o hi' ho listed vals a w5 hdep hM hAt K hK
          have HI := Lib.hid hM.inv
          match iq, hi' with
          | 0, _ =>
            injection ho with ho
            subst ho
            rw [if_pos (wantedN rfl)]
            obtain ⟨e3, e3'⟩ := hAt.slot 3 (by kernel_rfl) (by rfl)
            go_simp
            exact hK _ w5 (Below.refl _ _) HI.out rfl
          | 1, _ =>
            injection ho with ho
            subst ho
            rw [if_pos (wantedN rfl)]
            have l0 := hdep ⟨0, .data⟩ (by simp) rfl
            obtain ⟨x0, x0'⟩ := hAt.dep 0 (d := 42) (by omega) l0 (by rfl) (hM.fact 0 (by omega) l0)
            have q0 := HI.out.at_ lb5 y2
            go_simp
            exact hK _ w5 (Below.refl _ _) HI.out rfl
          | 2, _ =>
            injection ho with ho
            subst ho
            rw [if_pos (wantedN rfl)]
            obtain ⟨e13, e13'⟩ := hAt.slot 13 (by kernel_rfl) (by rfl)
            go_simp
            exact hK _ w5 (Below.refl _ _) HI.out rfl
          | 3, _ =>
            injection ho with ho
            subst ho
            rw [if_pos (wantedN rfl)]
            have l2 := hdep ⟨2, .data⟩ (by simp) rfl
            obtain ⟨x2, x2'⟩ := hAt.dep 2 (d := 44) (by omega) l2 (by rfl) (hM.fact 2 (by omega) l2)
            have q0 := HI.out.at_ lk5 yk0
            go_simp
            exact hK _ w5 (Below.refl _ _) HI.out rfl
          | 4, _ =>
            injection ho with ho
            subst ho
            rw [if_pos (wantedN rfl)]
            have l1 := hdep ⟨1, .data⟩ (by simp) rfl
            obtain ⟨x1, x1'⟩ := hAt.dep 1 (d := 43) (by omega) l1 (by rfl) (hM.fact 1 (by omega) l1)
            have l3 := hdep ⟨3, .data⟩ (by simp) rfl
            obtain ⟨x3, x3'⟩ := hAt.dep 3 (d := 45) (by omega) l3 (by rfl) (hM.fact 3 (by omega) l3)
            have n0 : (0 : Int) ≤ (ia : Int) := by omega
            have n1 : (ia : Int) < (ps.length : Int) := by omega
            go_simp
            exact hK _ w5 (Below.refl _ _) HI.out rfl
          | 5, _ =>
            injection ho with ho
            subst ho
            rw [if_pos (wantedN rfl)]
            have l4 := hdep ⟨4, .data⟩ (by simp) rfl
            obtain ⟨x4, x4'⟩ := hAt.dep 4 (d := 46) (by omega) l4 (by rfl) (hM.fact 4 (by omega) l4)
            go_simp
            exact hK _ w5 (Below.refl _ _) HI.out rfl
          | 6, _ =>
            injection ho with ho
            subst ho
            rw [if_pos (wantedN rfl)]
            have l5 := hdep ⟨5, .data⟩ (by simp) rfl
            obtain ⟨x5, x5'⟩ := hAt.dep 5 (d := 47) (by omega) l5 (by rfl) (hM.fact 5 (by omega) l5)
            obtain ⟨p0, p1, p2, p3⟩ := (HR5.out.next HI.out).proof' ha
            go_simp
            exact hK _ w5 (Below.refl _ _) HI.out rfl
          | 7, _ =>
            injection ho with ho
            subst ho
            rw [if_pos (wantedN rfl)]
            obtain ⟨e3, e3'⟩ := hAt.slot 3 (by kernel_rfl) (by rfl)
            go_simp
            exact hK _ w5 (Below.refl _ _) HI.out rfl
          | 8, _ =>
            injection ho with ho
            subst ho
            rw [if_pos (wantedN rfl)]
            have l7 := hdep ⟨7, .data⟩ (by simp) rfl
            obtain ⟨x7, x7'⟩ := hAt.dep 7 (d := 49) (by omega) l7 (by rfl) (hM.fact 7 (by omega) l7)
            have q0 := HI.out.at_ lb5 y2
            go_simp
            exact hK _ w5 (Below.refl _ _) HI.out rfl
          | 9, _ =>
            injection ho with ho
            subst ho
            rw [if_pos (wantedN rfl)]
            obtain ⟨e13, e13'⟩ := hAt.slot 13 (by kernel_rfl) (by rfl)
            go_simp
            exact hK _ w5 (Below.refl _ _) HI.out rfl
          | 10, _ =>
            injection ho with ho
            subst ho
            rw [if_pos (wantedN rfl)]
            have l9 := hdep ⟨9, .data⟩ (by simp) rfl
            obtain ⟨x9, x9'⟩ := hAt.dep 9 (d := 51) (by omega) l9 (by rfl) (hM.fact 9 (by omega) l9)
            have q0 := HI.out.at_ lk5 yk1
            go_simp
            exact hK _ w5 (Below.refl _ _) HI.out rfl
          | 11, _ =>
            injection ho with ho
            subst ho
            rw [if_pos (wantedN rfl)]
            have l8 := hdep ⟨8, .data⟩ (by simp) rfl
            obtain ⟨x8, x8'⟩ := hAt.dep 8 (d := 50) (by omega) l8 (by rfl) (hM.fact 8 (by omega) l8)
            have l10 := hdep ⟨10, .data⟩ (by simp) rfl
            obtain ⟨x10, x10'⟩ := hAt.dep 10 (d := 52) (by omega) l10 (by rfl) (hM.fact 10 (by omega) l10)
            have n0 : (0 : Int) ≤ (ib : Int) := by omega
            have n1 : (ib : Int) < (ps.length : Int) := by omega
            go_simp
            exact hK _ w5 (Below.refl _ _) HI.out rfl
          | 12, _ =>
            injection ho with ho
            subst ho
            rw [if_pos (wantedN rfl)]
            have l11 := hdep ⟨11, .data⟩ (by simp) rfl
            obtain ⟨x11, x11'⟩ := hAt.dep 11 (d := 53) (by omega) l11 (by rfl) (hM.fact 11 (by omega) l11)
            go_simp
            exact hK _ w5 (Below.refl _ _) HI.out rfl
          | 13, _ =>
            injection ho with ho
            subst ho
            rw [if_pos (wantedN rfl)]
            have l12 := hdep ⟨12, .data⟩ (by simp) rfl
            obtain ⟨x12, x12'⟩ := hAt.dep 12 (d := 54) (by omega) l12 (by rfl) (hM.fact 12 (by omega) l12)
            obtain ⟨p0, p1, p2, p3⟩ := (HR5.out.next HI.out).proof' hb
            go_simp
            exact hK _ w5 (Below.refl _ _) HI.out rfl
          | 14, _ =>
            injection ho with ho
            subst ho
            rw [if_pos (wantedN rfl)]
            have l6 := hdep ⟨6, .data⟩ (by simp) rfl
            obtain ⟨x6, x6'⟩ := hAt.dep 6 (d := 48) (by omega) l6 (by rfl) (hM.fact 6 (by omega) l6)
            go_simp
            exact hK _ w5 (Below.refl _ _) HI.out rfl
          | 15, _ =>
            injection ho with ho
            subst ho
            rw [if_pos (wantedN rfl)]
            have l13 := hdep ⟨13, .data⟩ (by simp) rfl
            obtain ⟨x13, x13'⟩ := hAt.dep 13 (d := 55) (by omega) l13 (by rfl) (hM.fact 13 (by omega) l13)
            go_simp
            exact hK _ w5 (Below.refl _ _) HI.out rfl
          | jq + 16, hq => exact absurd hq (by omega)
        · intro vals w5 hM
          have HI := Lib.hid hM.inv
          have f0 : vals 0 = .pointer (some ⟨w.heap.size, 2, none⟩) := hM.all (by decide) 0 (by omega)
          have f1 : vals 1 = .slice (some ⟨pb, off, none⟩) ps.length c := hM.all (by decide) 1 (by omega)
          have f2 : vals 2 = .pointer (some ⟨wr.heap.size, 0, none⟩) := hM.all (by decide) 2 (by omega)
          have f3 : vals 3 = .int .i64 (ia : Nat) := hM.all (by decide) 3 (by omega)
          have f4 : vals 4 = .pointer (some ⟨pb, off + ia * 4, none⟩) := hM.all (by decide) 4 (by omega)
          have f5 : vals 5 = .pointer (some ⟨pb, off + ia * 4 + 1, none⟩) := hM.all (by decide) 5 (by omega)
          have f6 : vals 6 = .int .i64 ps[ia].m := hM.all (by decide) 6 (by omega)
          have f7 : vals 7 = .pointer (some ⟨w.heap.size, 2, none⟩) := hM.all (by decide) 7 (by omega)
          have f8 : vals 8 = .slice (some ⟨pb, off, none⟩) ps.length c := hM.all (by decide) 8 (by omega)
          have f9 : vals 9 = .pointer (some ⟨wr.heap.size, 1, none⟩) := hM.all (by decide) 9 (by omega)
          have f10 : vals 10 = .int .i64 (ib : Nat) := hM.all (by decide) 10 (by omega)
          have f11 : vals 11 = .pointer (some ⟨pb, off + ib * 4, none⟩) := hM.all (by decide) 11 (by omega)
          have f12 : vals 12 = .pointer (some ⟨pb, off + ib * 4 + 1, none⟩) := hM.all (by decide) 12 (by omega)
          have f13 : vals 13 = .int .i64 ps[ib].m := hM.all (by decide) 13 (by omega)
          have f14 : vals 14 = .int .i64 ps[ia].m := hM.all (by decide) 14 (by omega)
          have f15 : vals 15 = .int .i64 ps[ib].m := hM.all (by decide) 15 (by omega)
          clear hM
          simp only [putAll, List.range, List.range.loop, List.foldl_cons, List.foldl_nil, f0, f1, f2, f3, f4, f5, f6, f7, f8, f9, f10, f11, f12, f13, f14, f15]
          clear f0 f1 f2 f3 f4 f5 f6 f7 f8 f9 f10 f11 f12 f13 f14 f15
          change wpAny _ _ _ _ _ _ (Act.put (Act.put (Act.put (Act.put (Act.put (Act.put (Act.put (Act.put (Act.put (Act.put (Act.put (Act.put (Act.put (Act.put (Act.put (Act.put _ (some 42) _) (some 43) _) (some 44) _) (some 45) _) (some 46) _) (some 47) _) (some 48) _) (some 49) _) (some 50) _) (some 51) _) (some 52) _) (some 53) _) (some 54) _) (some 55) _) (some 14) _) (some 15) _) _
          simp only [Act.put, List.setIfInBounds_toArray, List.set_cons_zero, List.set_cons_succ]
          refine wpAny_done (by kernel_rfl) ?_ _
          have HB15w := Lib.hid (HB15.out.trans (HI.out.mono HB15.out.size))
          have HB35w := Lib.hid (HB35.out.trans (HI.out.mono HB35.out.size))
          have HBWw := Lib.hid (HBW.out.trans (HB15w.out.mono HBW.out.size))
          have z0 := HI.out.at_ lk5 yk0
          have z1 := HI.out.at_ lk5 yk1
          have HEX := Lib.hid (exclude_any g e0 e1 pb off c ps _ ia ib w5 (HGI.out.below HB15w.out) ha hb)
          have lkw : wr.heap.size < w5.heap.size := Nat.lt_of_lt_of_le lk5 HI.out.size
          generalize ps[ia].m = fa at *
          generalize ps[ib].m = fb at *
          clear HI y2 yk0 yk1 lk5 lb5 HR5 HB15 HB35
          by_cases hc1 : fb ≤ fa
          · have HT : Hid (provE e0 e1 ps ts n qs = false) := Lib.hid (by rw [HPE.out, HST.out, decide_eq_false (by omega)]; rfl)
            go_wp2_with fail
            go_ret2
            exact ⟨retB HT.out.symm H1.out.symm, HBWw.out⟩
          by_cases hc2 : fa < m
          · have HT : Hid (provE e0 e1 ps ts n qs = false) := Lib.hid (by rw [HPE.out, HST.out, decide_eq_false (p := m ≤ fa) (by omega)]; simp)
            go_wp2_with fail
            go_ret2
            exact ⟨retB HT.out.symm H1.out.symm, HBWw.out⟩
          have HST2 : Hid (pairsB (spI e0 e1 ps) ps (-1) (natQ qs) = (exclI (spI e0 e1 ps) ia ib && pairsB (spI e0 e1 ps) ps fb (natQ (qs.drop (k + 1))))) := Lib.hid (by rw [HST.out, decide_eq_true (p := fa < fb) (by omega), decide_eq_true (p := m ≤ fa) (by omega)]; simp)
          clear HST
          go_wp2_with fail
          refine HEX.out.mono ?_
          rintro e w6 ⟨rfl, hb6⟩
          have hex : exclI (spI e0 e1 ps) ia ib = decide (min (spI e0 e1 ps ia).2 (spI e0 e1 ps ib).2 < max (spI e0 e1 ps ia).1 (spI e0 e1 ps ib).1) := rfl
          rw [← hex]
          have HBW6 := Lib.hid (HBWw.out.trans (hb6.mono HBWw.out.size))
          have HB36 := Lib.hid (HB35w.out.trans (hb6.mono HB35w.out.size))
          clear hex HEX hb6
          cases hx : exclI (spI e0 e1 ps) ia ib
          · have HT : Hid (provE e0 e1 ps ts n qs = false) := Lib.hid (by rw [HPE.out, HST2.out, hx]; rfl)
            clear hx
            go_wp2_with fail
            go_ret2
            exact ⟨retB HT.out.symm H1.out.symm, HBW6.out⟩
          · have HT : Hid (pairsB (spI e0 e1 ps) ps (-1) (natQ qs) = pairsB (spI e0 e1 ps) ps fb (natQ (qs.drop (k + 1)))) := Lib.hid (by rw [HST2.out, hx, Bool.true_and])
            clear hx
            go_wp2_with fail
            go_roundw
            case rel => exact ⟨k + 1, fb, hlt, by go_num, rfl, HT, HB36⟩
            case measure => simp [intOf]; omega
      · have hkk : k = qs.length := by omega
        have HT : Hid (provE e0 e1 ps ts n qs = true) := Lib.hid (by rw [HPE.out, HPB.out, List.drop_of_length_le (by omega)]; rfl)
        go_wp2_with fail
        go_ret2
        exact ⟨retB HT.out.symm H1.out.symm, HBWR.out⟩
  · have h0' : (askCode (ckBook e0 e1 ps ts) n 0 == 0) = false := by simpa using h0
    have h0'' : (askCode (ckBook e0 e1 ps ts) n 0 != 0) = true := by simpa using h0
    have H0 := Lib.hid h0
    have H1 : Hid (provCode e0 e1 ps ts n qs = askCode (ckBook e0 e1 ps ts) n 0) := Lib.hid (if_pos h0)
    clear HC h0 hb1 B0 B1
    have hst := run_store Tryz.prog (w1.alloc (.cells #[.nilFunc] 77)) ⟨w1.heap.size, 0, none⟩ (.func (.func 135) #[] #[.pointer (some ⟨w.heap.size, 0, none⟩), .pointer (some ⟨w.heap.size + 1, 0, none⟩)]) .plain rfl
    go_wp2_with fail
    go_ret2
    exact ⟨retB (by unfold provE; rw [if_neg (by rw [H1.out]; exact H0.out)]) H1.out.symm, hbw.alloc hbw.size _⟩
end Go.Proofs.YtcdjoegihmfanaaGreat
namespace Go.Proofs.YtcdjoegihmfanaaGreat
open Go.RowKit
set_option linter.unusedVariables false
/-- The trips of the book whose trip goes out over the other bridge. -/
def twoU : List Tr := [⟨0, 20, 3000, 1, 30, 1200, 10⟩]
theorem exFew : fewE 2 2 twoP twoT 0 = 1 ∧ grCode 2 2 twoP twoT 0 = 0 := by decide +kernel
theorem exWhen : whenE 2 2 twoP twoT 0 0 = (51, 90) ∧ whenCode 2 2 twoP twoT 0 0 = 0 := by decide +kernel
theorem exAt1 : atE 2 2 twoP twoT 0 50 1 = (4, 5) ∧ atCode 2 2 twoP twoT 0 50 1 = 0 := by decide +kernel
theorem exAt2 : atE 2 2 twoP twoT 0 50 2 = (4, 8) ∧ atCode 2 2 twoP twoT 0 50 2 = 0 := by decide +kernel
theorem exProves : provE 2 2 twoP twoT 0 [(0, 2)] = true ∧ provCode 2 2 twoP twoT 0 [(0, 2)] = 0 := by decide +kernel
theorem exWrong : wrL 2 2 twoP twoT 0 0 = [2] ∧ askCode (ckBook 2 2 twoP twoT) 0 0 = 0 := by decide +kernel
theorem exClash : clL 2 2 twoP twoT 0 0 = [1, 2] ∧ clCode 2 2 twoP twoT 0 0 = 0 := by decide +kernel
theorem exNet : netR 2 2 twoP twoT 0 1 = (1786, 1804) ∧ trCode 2 2 twoP twoT 0 1 = 0 := by decide +kernel
theorem exTotal : totR 2 2 twoP twoT 2 = (1785, 1811) ∧ whCode 2 2 twoP twoT 2 = 0 := by decide +kernel
theorem exNetU : netR 2 2 twoP twoU 0 1 = (1731, 1850) ∧ trCode 2 2 twoP twoU 0 1 = 0 := by decide +kernel
theorem exValue : valE 3 [(9, -2)] 9 = -2 ∧ valCode 3 [(9, -2)] 9 = 0 := by decide +kernel
end Go.Proofs.YtcdjoegihmfanaaGreat
namespace Go.Proofs.YtcdjoegihmfanaaGreat
open Go.RowKit
set_option linter.unusedVariables false
theorem take_step {α : Type} (a b : List α) (k : Nat) (h1 : k < a.length) (h2 : k < b.length) (he : a.take k = b.take k) (hk : a[k] = b[k]) : a.take (k + 1) = b.take (k + 1) := by
  rw [List.take_succ_eq_append_getElem h1, List.take_succ_eq_append_getElem h2, he, hk]
theorem ne_of_get {α : Type} (a b : List α) (k : Nat) (h1 : k < a.length) (h2 : k < b.length) (hk : ¬ a[k] = b[k]) : ¬ a = b := by
  intro h; subst h; exact hk rfl
set_option maxHeartbeats 400000 in
theorem alikeInt_any (A B : Option Addr) (c d : Nat) (a b : List (Int)) (w : World) (hr : Rd w w.heap.size A (ints a)) (hs : Rd w w.heap.size B (ints b)) (hl : a.length ≤ 100000) :
    Calls Tryz.prog 24 #[.slice A a.length c, .slice B b.length d] w fun e w' => e = .returned (.bool (decide (a = b))) ∧ Below w.heap.size w w' := by
  by_cases hlen : a.length = b.length
  · have hz : ((a.length : Int) != (b.length : Int)) = false := by rw [bne_eq_false_iff_eq]; omega
    have Hlen := Lib.hid hlen
    have hl2 : b.length ≤ a.length := by omega
    have hl3 : a.length ≤ b.length := by omega
    clear hlen
    go_enter Tryz.func24, Tryz.ntmps24
    go_wp2_with fail
    go_loopw [5, 6, 14] (fun _ _ i wr => ∃ k : Nat, k ≤ a.length ∧ i = .int .i64 k ∧ a.take k = b.take k ∧ Below w.heap.size w wr) (fun _ _ i _ => a.length - (intOf i).toNat)
    case atStart => exact ⟨0, by omega, rfl, by simp, Below.refl _ _⟩
    case round =>
      obtain ⟨k, hk, rfl, heq, hbw⟩ := hrel
      have Heq := Lib.hid heq
      clear heq
      by_cases hlt : k < a.length
      · have hlt2 : k < b.length := by omega
        obtain ⟨b1, o1, rfl, hb1, hc0⟩ := (hr.below hbw).int hlt
        obtain ⟨b2, o2, rfl, hb2, hd0⟩ := (hs.below hbw).int hlt2
        have hk0 : (k : Int) < b.length := by omega
        have hb1' : b1 < wr.heap.size := Nat.lt_of_lt_of_le hb1 hbw.size
        have hb2' : b2 < wr.heap.size := Nat.lt_of_lt_of_le hb2 hbw.size
        by_cases he : a[k] = b[k]
        · have hq : (a[k] != b[k]) = false := by rw [he]; simp
          have HT := Lib.hid (take_step a b k hlt hlt2 Heq.out he)
          clear he
          go_wp2_with fail
          go_roundw
          case rel => exact ⟨k + 1, by omega, by go_num, HT.out, hbw⟩
          case measure => simp [intOf]; omega
        · have hq : (a[k] != b[k]) = true := by simpa using he
          have HT := Lib.hid (ne_of_get a b k hlt hlt2 he)
          clear he
          go_wp2_with fail
          go_ret
          exact ⟨ret_bool (decide_eq_false HT.out).symm, hbw⟩
      · have HT : a = b := by
          have h := Heq.out
          rwa [List.take_of_length_le (by omega), List.take_of_length_le (by omega)] at h
        have HT := Lib.hid HT
        go_wp2_with fail
        go_ret
        exact ⟨ret_bool (decide_eq_true HT.out).symm, hbw⟩
  · have hz : ((a.length : Int) != (b.length : Int)) = true := by rw [bne_iff_ne]; omega
    have HT : ¬ a = b := fun h => hlen (by rw [h])
    have HT := Lib.hid HT
    clear hlen
    go_enter Tryz.func24, Tryz.ntmps24
    go_wp2_with fail
    go_ret
    exact ⟨ret_bool (decide_eq_false HT.out).symm, Below.refl _ _⟩
theorem guardChange : Tryz.prog.eqGuardType Tryz.prog.depth 82 = false := by kernel_rfl
theorem neqChange (w : World) (x0 x1 y0 y1 : Int) (r : Bool) (h : r = !(decide (x0 = y0) && decide (x1 = y1))) : (binOp .neq 82 (.agg #[.int .i64 x0, .int .i64 x1]) (.agg #[.int .i64 y0, .int .i64 y1])).run Tryz.prog w = .ok (.bool r) w := by
  have u3 := Tryz.underlying3
  have a3 := Tryz.isAgg3
  have z3 := Tryz.sizeOf3
  have hS : Tryz.prog.underlying 82 = some (.struct (Tryz.prog.fieldsOf 82)) := by kernel_rfl
  have hp : Tryz.prog.stoodInHeld 82 = false := by kernel_rfl
  rw [run_neq_struct, show (10000 : Nat) = 9999 + 1 from rfl, run_equalIn_agg w 9999 82 _ _ hS hp]
  simp only [Program.fieldsOf, Tryz.underlying82]
  go_simp
  subst h
  by_cases h0 : x0 = y0 <;> by_cases h1 : x1 = y1 <;> simp [h0, h1]
set_option maxHeartbeats 400000 in
theorem alikeChange_any (A B : Option Addr) (c d : Nat) (a b : List (Int × Int)) (w : World) (hr : Rd w w.heap.size A (pairs a)) (hs : Rd w w.heap.size B (pairs b)) (hl : a.length ≤ 100000) :
    Calls Tryz.prog 57 #[.slice A a.length c, .slice B b.length d] w fun e w' => e = .returned (.bool (decide (a = b))) ∧ Below w.heap.size w w' := by
  by_cases hlen : a.length = b.length
  · have hz : ((a.length : Int) != (b.length : Int)) = false := by rw [bne_eq_false_iff_eq]; omega
    have Hlen := Lib.hid hlen
    have hl2 : b.length ≤ a.length := by omega
    have hl3 : a.length ≤ b.length := by omega
    clear hlen
    go_enter Tryz.func57, Tryz.ntmps57
    go_wp2_with fail
    go_loopw [5, 6, 14] (fun _ _ i wr => ∃ k : Nat, k ≤ a.length ∧ i = .int .i64 k ∧ a.take k = b.take k ∧ Below w.heap.size w wr) (fun _ _ i _ => a.length - (intOf i).toNat)
    case atStart => exact ⟨0, by omega, rfl, by simp, Below.refl _ _⟩
    case round =>
      obtain ⟨k, hk, rfl, heq, hbw⟩ := hrel
      have Heq := Lib.hid heq
      clear heq
      by_cases hlt : k < a.length
      · have hlt2 : k < b.length := by omega
        obtain ⟨b1, o1, rfl, hb1, hc0, hc1⟩ := (hr.below hbw).pair hlt
        obtain ⟨b2, o2, rfl, hb2, hd0, hd1⟩ := (hs.below hbw).pair hlt2
        have hk0 : (k : Int) < b.length := by omega
        have hb1' : b1 < wr.heap.size := Nat.lt_of_lt_of_le hb1 hbw.size
        have hb2' : b2 < wr.heap.size := Nat.lt_of_lt_of_le hb2 hbw.size
        by_cases he : a[k] = b[k]
        · have hq := fun w => neqChange w a[k].1 a[k].2 b[k].1 b[k].2 false (by rw [he]; simp)
          have hg := guardChange
          have HT := Lib.hid (take_step a b k hlt hlt2 Heq.out he)
          clear he
          go_wp2_with fail
          go_quiet (fail)
          go_wp2_with fail
          go_roundw
          case rel => exact ⟨k + 1, by omega, by go_num, HT.out, below_drewN (hbw.alloc hbw.size _) _⟩
          case measure => simp [intOf]; omega
        · have hq := fun w => neqChange w a[k].1 a[k].2 b[k].1 b[k].2 true (by
            have h' : ¬ (a[k].1 = b[k].1 ∧ a[k].2 = b[k].2) := fun h => he (Prod.ext h.1 h.2)
            simp only [← Bool.decide_and]
            rw [decide_eq_false h']; rfl)
          have hg := guardChange
          have HT := Lib.hid (ne_of_get a b k hlt hlt2 he)
          clear he
          go_wp2_with fail
          go_quiet (fail)
          go_wp2_with fail
          go_ret
          exact ⟨ret_bool (decide_eq_false HT.out).symm, below_drewN (hbw.alloc hbw.size _) _⟩
      · have HT : a = b := by
          have h := Heq.out
          rwa [List.take_of_length_le (by omega), List.take_of_length_le (by omega)] at h
        have HT := Lib.hid HT
        go_wp2_with fail
        go_ret
        exact ⟨ret_bool (decide_eq_true HT.out).symm, hbw⟩
  · have hz : ((a.length : Int) != (b.length : Int)) = true := by rw [bne_iff_ne]; omega
    have HT : ¬ a = b := fun h => hlen (by rw [h])
    have HT := Lib.hid HT
    clear hlen
    go_enter Tryz.func57, Tryz.ntmps57
    go_wp2_with fail
    go_ret
    exact ⟨ret_bool (decide_eq_false HT.out).symm, Below.refl _ _⟩
theorem guardPair : Tryz.prog.eqGuardType Tryz.prog.depth 99 = false := by kernel_rfl
theorem neqPair (w : World) (x0 x1 y0 y1 : Int) (r : Bool) (h : r = !(decide (x0 = y0) && decide (x1 = y1))) : (binOp .neq 99 (.agg #[.int .i64 x0, .int .i64 x1]) (.agg #[.int .i64 y0, .int .i64 y1])).run Tryz.prog w = .ok (.bool r) w := by
  have u3 := Tryz.underlying3
  have a3 := Tryz.isAgg3
  have z3 := Tryz.sizeOf3
  have hS : Tryz.prog.underlying 99 = some (.struct (Tryz.prog.fieldsOf 99)) := by kernel_rfl
  have hp : Tryz.prog.stoodInHeld 99 = false := by kernel_rfl
  rw [run_neq_struct, show (10000 : Nat) = 9999 + 1 from rfl, run_equalIn_agg w 9999 99 _ _ hS hp]
  simp only [Program.fieldsOf, Tryz.underlying99]
  go_simp
  subst h
  by_cases h0 : x0 = y0 <;> by_cases h1 : x1 = y1 <;> simp [h0, h1]
set_option maxHeartbeats 400000 in
theorem alikePair_any (A B : Option Addr) (c d : Nat) (a b : List (Int × Int)) (w : World) (hr : Rd w w.heap.size A (pairs a)) (hs : Rd w w.heap.size B (pairs b)) (hl : a.length ≤ 100000) :
    Calls Tryz.prog 67 #[.slice A a.length c, .slice B b.length d] w fun e w' => e = .returned (.bool (decide (a = b))) ∧ Below w.heap.size w w' := by
  by_cases hlen : a.length = b.length
  · have hz : ((a.length : Int) != (b.length : Int)) = false := by rw [bne_eq_false_iff_eq]; omega
    have Hlen := Lib.hid hlen
    have hl2 : b.length ≤ a.length := by omega
    have hl3 : a.length ≤ b.length := by omega
    clear hlen
    go_enter Tryz.func67, Tryz.ntmps67
    go_wp2_with fail
    go_loopw [5, 6, 14] (fun _ _ i wr => ∃ k : Nat, k ≤ a.length ∧ i = .int .i64 k ∧ a.take k = b.take k ∧ Below w.heap.size w wr) (fun _ _ i _ => a.length - (intOf i).toNat)
    case atStart => exact ⟨0, by omega, rfl, by simp, Below.refl _ _⟩
    case round =>
      obtain ⟨k, hk, rfl, heq, hbw⟩ := hrel
      have Heq := Lib.hid heq
      clear heq
      by_cases hlt : k < a.length
      · have hlt2 : k < b.length := by omega
        obtain ⟨b1, o1, rfl, hb1, hc0, hc1⟩ := (hr.below hbw).pair hlt
        obtain ⟨b2, o2, rfl, hb2, hd0, hd1⟩ := (hs.below hbw).pair hlt2
        have hk0 : (k : Int) < b.length := by omega
        have hb1' : b1 < wr.heap.size := Nat.lt_of_lt_of_le hb1 hbw.size
        have hb2' : b2 < wr.heap.size := Nat.lt_of_lt_of_le hb2 hbw.size
        by_cases he : a[k] = b[k]
        · have hq := fun w => neqPair w a[k].1 a[k].2 b[k].1 b[k].2 false (by rw [he]; simp)
          have hg := guardPair
          have HT := Lib.hid (take_step a b k hlt hlt2 Heq.out he)
          clear he
          go_wp2_with fail
          go_quiet (fail)
          go_wp2_with fail
          go_roundw
          case rel => exact ⟨k + 1, by omega, by go_num, HT.out, below_drewN (hbw.alloc hbw.size _) _⟩
          case measure => simp [intOf]; omega
        · have hq := fun w => neqPair w a[k].1 a[k].2 b[k].1 b[k].2 true (by
            have h' : ¬ (a[k].1 = b[k].1 ∧ a[k].2 = b[k].2) := fun h => he (Prod.ext h.1 h.2)
            simp only [← Bool.decide_and]
            rw [decide_eq_false h']; rfl)
          have hg := guardPair
          have HT := Lib.hid (ne_of_get a b k hlt hlt2 he)
          clear he
          go_wp2_with fail
          go_quiet (fail)
          go_wp2_with fail
          go_ret
          exact ⟨ret_bool (decide_eq_false HT.out).symm, below_drewN (hbw.alloc hbw.size _) _⟩
      · have HT : a = b := by
          have h := Heq.out
          rwa [List.take_of_length_le (by omega), List.take_of_length_le (by omega)] at h
        have HT := Lib.hid HT
        go_wp2_with fail
        go_ret
        exact ⟨ret_bool (decide_eq_true HT.out).symm, hbw⟩
  · have hz : ((a.length : Int) != (b.length : Int)) = true := by rw [bne_iff_ne]; omega
    have HT : ¬ a = b := fun h => hlen (by rw [h])
    have HT := Lib.hid HT
    clear hlen
    go_enter Tryz.func67, Tryz.ntmps67
    go_wp2_with fail
    go_ret
    exact ⟨ret_bool (decide_eq_false HT.out).symm, Below.refl _ _⟩
theorem alGuardProof : Tryz.prog.eqGuardType Tryz.prog.depth 57 = false := by kernel_rfl
theorem neqProof (w : World) (x0 x1 x2 x3 y0 y1 y2 y3 : Int) (r : Bool) (h : r = !(decide (x0 = y0) && decide (x1 = y1) && decide (x2 = y2) && decide (x3 = y3))) : (binOp .neq 57 (.agg #[.int .i64 x0, .int .i64 x1, .int .i64 x2, .int .i64 x3]) (.agg #[.int .i64 y0, .int .i64 y1, .int .i64 y2, .int .i64 y3])).run Tryz.prog w = .ok (.bool r) w := by
  have u3 := Tryz.underlying3
  have a3 := Tryz.isAgg3
  have z3 := Tryz.sizeOf3
  have hS : Tryz.prog.underlying 57 = some (.struct (Tryz.prog.fieldsOf 57)) := by kernel_rfl
  have hp : Tryz.prog.stoodInHeld 57 = false := by kernel_rfl
  rw [run_neq_struct, show (10000 : Nat) = 9999 + 1 from rfl, run_equalIn_agg w 9999 57 _ _ hS hp]
  simp only [Program.fieldsOf, Tryz.underlying57]
  go_simp
  subst h
  by_cases h0 : x0 = y0 <;> by_cases h1 : x1 = y1 <;> by_cases h2 : x2 = y2 <;> by_cases h3 : x3 = y3 <;> simp [h0, h1, h2, h3]
set_option maxHeartbeats 400000 in
theorem alikeProof_any (A B : Option Addr) (c d : Nat) (a b : List Pr) (w : World) (hr : Rd w w.heap.size A (prs a)) (hs : Rd w w.heap.size B (prs b)) (hl : a.length ≤ 100000) :
    Calls Tryz.prog 103 #[.slice A a.length c, .slice B b.length d] w fun e w' => e = .returned (.bool (decide (a = b))) ∧ Below w.heap.size w w' := by
  by_cases hlen : a.length = b.length
  · have hz : ((a.length : Int) != (b.length : Int)) = false := by rw [bne_eq_false_iff_eq]; omega
    have Hlen := Lib.hid hlen
    have hl2 : b.length ≤ a.length := by omega
    have hl3 : a.length ≤ b.length := by omega
    clear hlen
    go_enter Tryz.func103, Tryz.ntmps103
    go_wp2_with fail
    go_loopw [5, 6, 14] (fun _ _ i wr => ∃ k : Nat, k ≤ a.length ∧ i = .int .i64 k ∧ a.take k = b.take k ∧ Below w.heap.size w wr) (fun _ _ i _ => a.length - (intOf i).toNat)
    case atStart => exact ⟨0, by omega, rfl, by simp, Below.refl _ _⟩
    case round =>
      obtain ⟨k, hk, rfl, heq, hbw⟩ := hrel
      have Heq := Lib.hid heq
      clear heq
      by_cases hlt : k < a.length
      · have hlt2 : k < b.length := by omega
        obtain ⟨b1, o1, rfl, hb1, hc0, hc1, hc2, hc3⟩ := (hr.below hbw).proof hlt
        obtain ⟨b2, o2, rfl, hb2, hd0, hd1, hd2, hd3⟩ := (hs.below hbw).proof hlt2
        have hk0 : (k : Int) < b.length := by omega
        have hb1' : b1 < wr.heap.size := Nat.lt_of_lt_of_le hb1 hbw.size
        have hb2' : b2 < wr.heap.size := Nat.lt_of_lt_of_le hb2 hbw.size
        by_cases he : a[k] = b[k]
        · have hq := fun w => neqProof w a[k].b a[k].m a[k].k a[k].r b[k].b b[k].m b[k].k b[k].r false (by rw [he]; simp)
          have hg := alGuardProof
          have HT := Lib.hid (take_step a b k hlt hlt2 Heq.out he)
          clear he
          go_wp2_with fail
          go_quiet (fail)
          go_wp2_with fail
          go_roundw
          case rel => exact ⟨k + 1, by omega, by go_num, HT.out, below_drewN (hbw.alloc hbw.size _) _⟩
          case measure => simp [intOf]; omega
        · have hq := fun w => neqProof w a[k].b a[k].m a[k].k a[k].r b[k].b b[k].m b[k].k b[k].r true (by
            have h' : ¬ (a[k].b = b[k].b ∧ a[k].m = b[k].m ∧ a[k].k = b[k].k ∧ a[k].r = b[k].r) := fun h => he (by
              obtain ⟨g0, g1, g2, g3⟩ := h
              revert g0 g1 g2 g3
              generalize a[k] = A9; generalize b[k] = B9
              cases A9; cases B9
              rintro rfl rfl rfl rfl; rfl)
            simp only [← Bool.decide_and, and_assoc]
            rw [decide_eq_false h']; rfl)
          have hg := alGuardProof
          have HT := Lib.hid (ne_of_get a b k hlt hlt2 he)
          clear he
          go_wp2_with fail
          go_quiet (fail)
          go_wp2_with fail
          go_ret
          exact ⟨ret_bool (decide_eq_false HT.out).symm, below_drewN (hbw.alloc hbw.size _) _⟩
      · have HT : a = b := by
          have h := Heq.out
          rwa [List.take_of_length_le (by omega), List.take_of_length_le (by omega)] at h
        have HT := Lib.hid HT
        go_wp2_with fail
        go_ret
        exact ⟨ret_bool (decide_eq_true HT.out).symm, hbw⟩
  · have hz : ((a.length : Int) != (b.length : Int)) = true := by rw [bne_iff_ne]; omega
    have HT : ¬ a = b := fun h => hlen (by rw [h])
    have HT := Lib.hid HT
    clear hlen
    go_enter Tryz.func103, Tryz.ntmps103
    go_wp2_with fail
    go_ret
    exact ⟨ret_bool (decide_eq_false HT.out).symm, Below.refl _ _⟩
end Go.Proofs.YtcdjoegihmfanaaGreat
namespace Go.Proofs.YtcdjoegihmfanaaGreat
open Go.RowKit
set_option linter.unusedVariables false
/-- The book of the examples, in memory. -/
abbrev twoV (A B : Nat) : Value := bkV 2 2 (.slice (some ⟨A, 0, none⟩) 3 3) (.slice (some ⟨B, 0, none⟩) 1 1)
abbrev TwoA (w : World) (A B : Nat) (ts : List Tr) : Prop := BA w (some ⟨A, 0, none⟩) (some ⟨B, 0, none⟩) 3 1 twoP ts
theorem fewX {A B : Nat} {w : World} (h : TwoA w A B twoT) : Hid (Calls Tryz.prog 36 #[twoV A B, .int .i64 0] w fun e w' => e = .returned (.tuple #[.int .i64 1, .int .i64 0]) ∧ Below w.heap.size w w') := by
  have C := Fewest_any 2 2 _ _ 3 1 twoP twoT 0 w h
  rw [exFew.1, exFew.2] at C
  exact C
theorem whenX {A B : Nat} {w : World} (h : TwoA w A B twoT) : Hid (Calls Tryz.prog 65 #[twoV A B, .int .i64 0, .int .i64 0] w fun e w' => e = .returned (.tuple #[.agg #[.int .i64 51, .int .i64 90], .int .i64 0]) ∧ Below w.heap.size w w') := by
  have C := When_any 2 2 _ _ 3 1 twoP twoT 0 0 w h
  rw [exWhen.1, exWhen.2] at C
  exact C
theorem at1X {A B : Nat} {w : World} (h : TwoA w A B twoT) : Hid (Calls Tryz.prog 20 #[twoV A B, .int .i64 0, .int .i64 50, .int .i64 1] w fun e w' => e = .returned (.tuple #[.agg #[.int .i64 4, .int .i64 5], .int .i64 0]) ∧ Below w.heap.size w w') := by
  have C := At_any 2 2 _ _ 3 1 twoP twoT 0 50 1 w h
  rw [exAt1.1, exAt1.2] at C
  exact C
theorem at2X {A B : Nat} {w : World} (h : TwoA w A B twoT) : Hid (Calls Tryz.prog 20 #[twoV A B, .int .i64 0, .int .i64 50, .int .i64 2] w fun e w' => e = .returned (.tuple #[.agg #[.int .i64 4, .int .i64 8], .int .i64 0]) ∧ Below w.heap.size w w') := by
  have C := At_any 2 2 _ _ 3 1 twoP twoT 0 50 2 w h
  rw [exAt2.1, exAt2.2] at C
  exact C
theorem provX {A B q : Nat} {w : World} (h : TwoA w A B twoT) (hq : Rd w w.heap.size (some ⟨q, 0, none⟩) (pairs [(0, 2)])) : Hid (Calls Tryz.prog 64 #[twoV A B, .int .i64 0, .slice (some ⟨q, 0, none⟩) 1 1] w fun e w' => e = .returned (.tuple #[.bool true, .int .i64 0]) ∧ Below w.heap.size w w') := by
  have C := Proves_any 2 2 _ _ 3 1 twoP twoT 0 _ 1 [(0, 2)] w h hq (by decide)
  rw [exProves.1, exProves.2] at C
  exact C
theorem wrongX {A B : Nat} {w : World} (h : TwoA w A B twoT) : Hid (Calls Tryz.prog 25 #[twoV A B, .int .i64 0, .int .i64 0] w fun e w' => ∃ A' c', e = .returned (.tuple #[.slice A' 1 c', .int .i64 0]) ∧ Rd w' w'.heap.size A' (ints [2]) ∧ Below w.heap.size w w') := by
  have C := Wrong_any 2 2 _ _ 3 1 twoP twoT 0 0 w h
  rw [exWrong.1, exWrong.2] at C
  refine Lib.hid (C.mono ?_)
  rintro e w' ⟨v, rfl, hv, hb⟩
  obtain ⟨A', c', rfl, _, hr⟩ := own_slice hv
  exact ⟨A', c', rfl, hr, hb⟩
theorem clashX {A B : Nat} {w : World} (h : TwoA w A B twoT) : Hid (Calls Tryz.prog 22 #[twoV A B, .int .i64 0, .int .i64 0] w fun e w' => ∃ A' c', e = .returned (.tuple #[.slice A' 2 c', .int .i64 0]) ∧ Rd w' w'.heap.size A' (ints [1, 2]) ∧ Below w.heap.size w w') := by
  have C := Clash_any 2 2 _ _ 3 1 twoP twoT 0 0 w h
  rw [exClash.1, exClash.2] at C
  refine Lib.hid (C.mono ?_)
  rintro e w' ⟨v, rfl, hv, hb⟩
  obtain ⟨A', c', rfl, _, hr⟩ := own_slice hv
  exact ⟨A', c', rfl, hr, hb⟩
theorem netX {A B : Nat} {w : World} (h : TwoA w A B twoT) : Hid (Calls Tryz.prog 37 #[twoV A B, .int .i64 0, .int .i64 1] w fun e w' => e = .returned (.tuple #[.agg #[.int .i64 1786, .int .i64 1804], .int .i64 0]) ∧ Below w.heap.size w w') := by
  have C := Net_any 2 2 _ _ 3 1 twoP twoT 0 1 w h
  rw [exNet.1, exNet.2] at C
  exact C
theorem netU {A B : Nat} {w : World} (h : TwoA w A B twoU) : Hid (Calls Tryz.prog 37 #[twoV A B, .int .i64 0, .int .i64 1] w fun e w' => e = .returned (.tuple #[.agg #[.int .i64 1731, .int .i64 1850], .int .i64 0]) ∧ Below w.heap.size w w') := by
  have C := Net_any 2 2 _ _ 3 1 twoP twoU 0 1 w h
  rw [exNetU.1, exNetU.2] at C
  exact C
theorem totalX {A B : Nat} {w : World} (h : TwoA w A B twoT) : Hid (Calls Tryz.prog 72 #[twoV A B, .int .i64 2] w fun e w' => e = .returned (.tuple #[.agg #[.int .i64 1785, .int .i64 1811], .int .i64 0]) ∧ Below w.heap.size w w') := by
  have C := Total_any 2 2 _ _ 3 1 twoP twoT 2 w h
  rw [exTotal.1, exTotal.2] at C
  exact C
theorem valueX {q : Nat} {w : World} (hq : Rd w w.heap.size (some ⟨q, 0, none⟩) (pairs [(9, -2)])) : Hid (Calls Tryz.prog 53 #[.agg #[.int .i64 3, .slice (some ⟨q, 0, none⟩) 1 1], .int .i64 9] w fun e w' => e = .returned (.tuple #[.int .i64 (-2), .int .i64 0]) ∧ Below w.heap.size w w') := by
  have C := Value_any 3 _ 1 [(9, -2)] 9 w hq (by decide)
  rw [exValue.1, exValue.2] at C
  exact C
theorem alikeX {A B : Option Addr} {c d n : Nat} {l : List Int} {w : World} (hn : l.length = n) (hr : Rd w w.heap.size A (ints l)) (hs : Rd w w.heap.size B (ints l)) (hl : l.length ≤ 100) : Hid (Calls Tryz.prog 24 #[.slice A n c, .slice B n d] w fun e w' => e = .returned (.bool true) ∧ Below w.heap.size w w') := by
  subst hn
  have C := alikeInt_any A B c d l l w hr hs (by omega)
  rw [decide_eq_true rfl] at C
  exact C
end Go.Proofs.YtcdjoegihmfanaaGreat
