/- ScaleDrifts returns true, whatever the numbers; what is passed in reads as it did. No condition. -/
import Derived.Test.YtcdjoegihmfanaaGreatG21
import Derived.Test.YtcdjoegihmfanaaGreatDrW
import Derived.Test.YtcdjoegihmfanaaGreatG8
import Derived.Test.YtcdjoegihmfanaaGreatG16
import Derived.Deep.DeepCutAuto
namespace Go.Proofs.YtcdjoegihmfanaaGreat
open Go.RowKit
set_option linter.unusedVariables false
/-- A change between the minutes of two proofs. -/
def betwB (a b : Int) (c : Int × Int) : Bool := decide (a < c.1) && decide (c.1 ≤ b)
set_option maxRecDepth 100000 in
theorem predBetw (bb b35 xa ya : Nat) (pb off cp : Nat) (ps : List Pr) (t : List (Int × Int)) (w : World) (hk : w.cell? ⟨bb, 2, none⟩ = some (.slice (some ⟨pb, off, none⟩) ps.length cp)) (hbb : bb < w.heap.size) (hr : Rd w w.heap.size (some ⟨pb, off, none⟩) (prs ps)) (h35 : Blk w b35 [.int .i64 (xa : Nat), .int .i64 (ya : Nat)]) (hx : xa < ps.length) (hy : ya < ps.length) (hl : ps.length ≤ 1000) :
    Decides 82 #[.pointer (some ⟨bb, 0, none⟩), .pointer (some ⟨b35, 0, none⟩)] itV (betwB (pAt ps xa).m (pAt ps ya).m) t w := by
  intro W x hx' hB
  obtain ⟨y1, y2⟩ := x
  have q2 := hB.at_ hbb hk
  have B35 := h35.below hB
  have z0 := B35.cells 0 _ rfl
  have z1 := B35.cells 1 _ rfl
  have zl := B35.lt
  have hbW : bb < W.heap.size := Nat.lt_of_lt_of_le hbb hB.size
  obtain ⟨_, px, _, _⟩ := (hr.next hB).proof' hx
  obtain ⟨_, py, _, _⟩ := (hr.next hB).proof' hy
  rw [pAt_eq hx, pAt_eq hy]
  have r0 : (0 : Int) ≤ (xa : Int) := by omega
  have r1 : (xa : Int) < (ps.length : Int) := by omega
  have s0 : (0 : Int) ≤ (ya : Int) := by omega
  have s1 : (ya : Int) < (ps.length : Int) := by omega
  unfold itV
  show Calls Tryz.prog 82 #[.agg #[.int .i64 y1, .int .i64 y2], .pointer (some ⟨bb, 0, none⟩), .pointer (some ⟨b35, 0, none⟩)] W _
  have hbn := below_new W (.cells #[.int .i64 y1, .int .i64 y2] 82)
  have u2 := hbn.at_ hbW q2
  have v0 := hbn.at_ zl z0
  have v1 := hbn.at_ zl z1
  have B3 := Blk.new W [.int .i64 y1, .int .i64 y2] 82
  obtain ⟨b', off', e, hb', _, p1, _⟩ := ((hr.next hB).next hbn).proof hx
  injection e with e
  injection e with e1 e2
  subst e1 e2
  obtain ⟨_, p2, _, _⟩ := ((hr.next hB).next hbn).proof' hy
  change Blk (World.alloc W (.cells #[.int .i64 y1, .int .i64 y2] 82)) _ _ at B3
  have zl3 := Nat.lt_of_lt_of_le zl hbn.size
  have hbW3 := Nat.lt_of_lt_of_le hbW hbn.size
  have HBN := Lib.hid hbn
  clear q2 z0 z1 px py B35 hr hk h35 hB hbn
  generalize ps[xa].m = mx at *
  generalize ps[ya].m = my at *
  by_cases h1 : mx < y1
  · have hd : decide (mx < y1) = true := decide_eq_true h1
    go_enter Tryz.func82, Tryz.ntmps82
    go_wp2_with fail
    generalize World.alloc W _ = W3 at u2 v0 v1 B3 p1 p2 HBN zl3 hbW3 hb' ⊢
    have t0 := B3.cells 0 _ rfl
    have t1 := B3.cells 1 _ rfl
    have tl := B3.lt
    clear B3
    go_quiet (fail)
    go_wp2_with fail
    go_ret
    exact ⟨ret_bool (by unfold betwB; rw [hd]; simp), below_drewN HBN.out _⟩
  · have hd : decide (mx < y1) = false := decide_eq_false h1
    go_enter Tryz.func82, Tryz.ntmps82
    go_wp2_with fail
    generalize World.alloc W _ = W3 at u2 v0 v1 B3 p1 p2 HBN zl3 hbW3 hb' ⊢
    have t0 := B3.cells 0 _ rfl
    have t1 := B3.cells 1 _ rfl
    have tl := B3.lt
    clear B3
    go_quiet (fail)
    go_wp2_with fail
    go_ret
    exact ⟨ret_bool (by unfold betwB; rw [hd]; rfl), below_drewN HBN.out _⟩
theorem ckD_inc {f : Int} {cs : List (Int × Int)} (h : ckD f cs = 0) : incD cs = true := by
  unfold ckD at h
  split at h
  · cases h
  · split at h
    · cases h
    · split at h
      · cases h
      · rename_i h3; simpa using h3
theorem natPs_get {Q : List (Nat × Nat)} {k : Nat} (h : k < Q.length) (h' : k < (natPs Q).length) : (natPs Q)[k] = ((Q[k].1 : Int), (Q[k].2 : Int)) := by simp [natPs]
def FindG (F : Int × List (Int × Int)) (kf : Nat) (W : World) (e : Ending) (w' : World) : Prop :=
  ∃ v, e = .returned (.tuple #[.agg #[.int .i64 F.1, v], .int .i64 0]) ∧ w'.ownsRow W.heap.size 82 2 v kf (pairs F.2) ∧ Below W.heap.size W w'
theorem find_good {e0 e1 : Int} {A B : Option Addr} {c d : Nat} {ps : List Pr} {ts : List Tr} {n : Int} {w : World} {F : Int × List (Int × Int)} {kf : Nat} (hA : BA w A B c d ps ts) (hg : grCode e0 e1 ps ts n = 0) (hF : fdD e0 e1 ps n = F) (hl : F.2.length = kf) :
    Calls Tryz.prog 60 #[.agg #[.int .i64 e0, .int .i64 e1, .slice A ps.length c, .slice B ts.length d], .int .i64 n] w (FindG F kf w) :=
  (Find_any e0 e1 A B c d ps ts n w hA).mono fun e w' h => by
    rcases h with ⟨_, v, rfl, ho, hb⟩ | ⟨hx, _⟩
    · refine ⟨v, ?_, ?_, hb⟩
      · rw [← hF]; rfl
      · rw [← hl, ← hF]; exact ho
    · exact absurd hg hx
def ApartG (Q : List (Nat × Nat)) (kf : Nat) (W : World) (e : Ending) (w' : World) : Prop :=
  ∃ v, e = .returned (.tuple #[v, .int .i64 0]) ∧ w'.ownsRow W.heap.size 99 2 v kf (pairs (natPs Q)) ∧ Below W.heap.size W w'
theorem apart_good {e0 e1 : Int} {A B : Option Addr} {c d : Nat} {ps : List Pr} {ts : List Tr} {n : Int} {w : World} {Q : List (Nat × Nat)} {kf : Nat} (hA : BA w A B c d ps ts) (hg : grCode e0 e1 ps ts n = 0) (hQ : apD e0 e1 ps n = Q) (hl : Q.length = kf) :
    Calls Tryz.prog 61 #[.agg #[.int .i64 e0, .int .i64 e1, .slice A ps.length c, .slice B ts.length d], .int .i64 n] w (ApartG Q kf w) :=
  (Apart_any e0 e1 A B c d ps ts n w hA).mono fun e w' h => by
    rcases h with ⟨_, v, rfl, ho, hb⟩ | ⟨hx, _⟩
    · refine ⟨v, rfl, ?_, hb⟩
      rw [← hl, ← hQ]; exact ho
    · exact absurd hg hx
theorem fits_good {e0 e1 : Int} {A B : Option Addr} {c d : Nat} {ps : List Pr} {ts : List Tr} {n f : Int} {cs : List (Int × Int)} {QA : Option Addr} {cq kf : Nat} {w : World} {fb : Bool} (hA : BA w A B c d ps ts) (hQ : Rd w w.heap.size QA (pairs cs)) (hl : cs.length = kf) (hk : kf ≤ 1000) (hc : fitCode e0 e1 ps ts n f cs = 0) (hf : fitE e0 e1 ps ts n f cs = fb) :
    Calls Tryz.prog 39 #[.agg #[.int .i64 e0, .int .i64 e1, .slice A ps.length c, .slice B ts.length d], .int .i64 n, .agg #[.int .i64 f, .slice QA kf cq]] w fun e w' => e = .returned (.tuple #[.bool fb, .int .i64 0]) ∧ Below w.heap.size w w' := by
  subst hl
  have h := Fits_any e0 e1 A B c d ps ts n f QA cq cs w hA hQ hk
  rw [hc, hf] at h
  exact h
theorem proves_good {e0 e1 : Int} {A B : Option Addr} {c d : Nat} {ps : List Pr} {ts : List Tr} {n : Int} {qs : List (Int × Int)} {QA : Option Addr} {cq kf : Nat} {w : World} (hA : BA w A B c d ps ts) (hQ : Rd w w.heap.size QA (pairs qs)) (hl : qs.length = kf) (hk : kf ≤ 1000) (hc : provCode e0 e1 ps ts n qs = 0) (hf : provE e0 e1 ps ts n qs = true) :
    Calls Tryz.prog 64 #[.agg #[.int .i64 e0, .int .i64 e1, .slice A ps.length c, .slice B ts.length d], .int .i64 n, .slice QA kf cq] w fun e w' => e = .returned (.tuple #[.bool true, .int .i64 0]) ∧ Below w.heap.size w w' := by
  subst hl
  have h := Proves_any e0 e1 A B c d ps ts n QA cq qs w hA hQ hk
  rw [hc, hf] at h
  exact h
theorem when_good {e0 e1 : Int} {A B : Option Addr} {c d : Nat} {ps : List Pr} {ts : List Tr} {n ch : Int} {w : World} {s : Int × Int} {code : Int} (hA : BA w A B c d ps ts) (hs : whenE e0 e1 ps ts n ch = s) (hc : whenCode e0 e1 ps ts n ch = code) :
    Calls Tryz.prog 65 #[.agg #[.int .i64 e0, .int .i64 e1, .slice A ps.length c, .slice B ts.length d], .int .i64 n, .int .i64 ch] w fun e w' => e = .returned (.tuple #[.agg #[.int .i64 s.1, .int .i64 s.2], .int .i64 code]) ∧ Below w.heap.size w w' := by
  have h := When_any e0 e1 A B c d ps ts n ch w hA
  rw [hs, hc] at h
  exact h
set_option maxRecDepth 100000 in
set_option maxHeartbeats 16000000 in
theorem scaleDrifts_walk (A1 : Option Addr) (c1 : Nat) (zs1 : List Int) (A2 : Option Addr) (c2 : Nat) (zs2 : List Int) (w : World) (h1 : Bytes w A1 zs1) (h2 : Bytes w A2 zs2) :
    Calls Tryz.prog 13 #[.slice A1 zs1.length c1, .slice A2 zs2.length c2] w fun e w' => e = .returned (.bool true) ∧ Below w.heap.size w w' := by
  obtain ⟨i0, hi, hz0, hz1, hz2⟩ := info_parts infoDrift
  go_enter Tryz.func13, Tryz.ntmps13
  go_wp2_with fail
  refine (fill_any A1 c1 zs1 w h1).mono ?_
  rintro e w1 ⟨g1, rfl, hg1, hC1, hb1⟩
  go_wp2_with fail
  refine (made_any g1 A1 c1 zs1 8 0 3 w1 ⟨_, _, hC1⟩ (by omega) (by omega) (by omega)).mono ?_
  rintro e w2 ⟨e0, e1, D0, D1, db, ps, vp, ts, vt, ns, vn, rfl, hMP, hMT, hd0, hd1, hpl, htl, hM⟩
  have hps : ps.length ≤ 1000 := by omega
  have hts : ts.length ≤ 1000 := by omega
  obtain ⟨AP, cp, AT, ct, rfl, rfl, hbk⟩ := made_book hM hps hts
  have HBK := fun y g2 h1 h2 h3 h4 => Lib.hid (hbk e0 e1 26 w y g2 h1 h2 h3 h4)
  have hb2 : Below w.heap.size w w2 := hb1.grown hM.gr hb1.size (fun k hk => by injection hk; omega)
  have HOK : Hid (BkOk e0 e1 ps ts) := Lib.hid (hMP.ok (valB_bd hd0 hd1) (by omega) (by omega) hMT.ok)
  have HFT : Hid (fitsD e0 e1 ps 0 D0.f D0.cs ∧ fitsD e0 e1 ps 1 D1.f D1.cs) := Lib.hid (hMP.fits hd0 hd1)
  have HD0 := Lib.hid hd0
  have HD1 := Lib.hid hd1
  have HB2 := Lib.hid hb2
  have h22 := h2.next hb2
  clear hbk hM hMP hMT hd0 hd1 hb2 hC1 hg1 hb1 h1 h2 hpl htl hps hts
  unfold bkV
  go_wp2_with fail
  have hbn := below_new w2 (.cells #[.int .i64 e0, .int .i64 e1, .slice AP ps.length cp, .slice AT ts.length ct] 26)
  refine (fill_any A2 c2 zs2 _ (h22.next hbn)).mono ?_
  rintro e w3 ⟨g2, rfl, hg2, hC2, hb3⟩
  have hsz : (w2.alloc (.cells #[.int .i64 e0, .int .i64 e1, .slice AP ps.length cp, .slice AT ts.length ct] 26)).heap.size = w2.heap.size + 1 := by simp
  have HI : Hid (LwI w w3 g2 w2.heap.size e0 e1 AP cp ps AT ct ts w1.heap.size db D0 D1) := (HBK w3 g2 HB2.out (by rw [hsz] at hb3; exact hb3) (by rw [hsz] at hg2; exact hg2) (Nat.le_of_lt hC2.lt))
  have HC : Hid (ChE w3 g2 A2 c2 zs2) := Lib.hid ⟨_, _, hC2⟩
  clear HBK HB2 h22 hbn hsz hg2 hC2 hb3
  generalize w2.heap.size = bb at HI ⊢
  generalize w1.heap.size = lw at HI ⊢
  go_wp2_with fail
  go_loopw [49] (fun iv wr => ∃ n : Nat, n ≤ 2 ∧ iv = .int .i64 (n : Nat) ∧ Hid (LwI w wr g2 bb e0 e1 AP cp ps AT ct ts lw db D0 D1) ∧ Hid (ChE wr g2 A2 c2 zs2)) (fun i _ => 2 - (intOf i).toNat)
  case atStart => exact ⟨0, by omega, rfl, HI, HC⟩
  case round =>
    clear HI HC
    obtain ⟨n, hn2, rfl, HI, HC⟩ := hrel
    by_cases hn : n < 2
    · have hni : (n : Int) < 2 := by omega
      have hni0 : (0 : Int) ≤ (n : Int) := by omega
      have hnn : (n : Int) = 0 ∨ (n : Int) = 1 := by omega
      obtain ⟨D, HDK⟩ : ∃ D, Hid (pickD D0 D1 n = D) := ⟨_, Lib.hid rfl⟩
      have HFD : Hid (fitsD e0 e1 ps (n : Nat) D.f D.cs) := Lib.hid (by
        rw [← HDK.out]
        unfold pickD
        by_cases c : n = 0
        · subst c; exact HFT.out.1
        · have : n = 1 := by omega
          subst this; exact HFT.out.2)
      have HDM : Hid (MdD 3 D.f D.cs) := Lib.hid (by rw [← HDK.out]; unfold pickD; split; exact HD0.out; exact HD1.out)
      obtain ⟨x0, x1, x2⟩ := HI.out.dr.pick hn HDK.out
      have ldb := Nat.lt_of_lt_of_le HI.out.dr.dH HI.out.dr.hH
      obtain ⟨hgr, few0, hfew1, _⟩ := gr_few HOK.out hnn HFD.out
      obtain ⟨kf, HFW⟩ : ∃ kf : Nat, Hid (fewE e0 e1 ps ts (n : Nat) = (kf : Nat)) := ⟨(fewE e0 e1 ps ts (n : Nat)).toNat, Lib.hid (by omega)⟩
      rw [HFW.out] at hfew1
      have HGR := Lib.hid hgr
      have hfew2 : kf ≤ D.cs.length := by omega
      have hDl : D.cs.length ≤ 3 := by have := HDM.out.len; omega
      obtain ⟨F, HFO⟩ : ∃ F, Hid (fdD e0 e1 ps (n : Nat) = F) := ⟨_, Lib.hid rfl⟩
      obtain ⟨Q, HQO⟩ : ∃ Q, Hid (apD e0 e1 ps (n : Nat) = Q) := ⟨_, Lib.hid rfl⟩
      have HFK : Hid (ckD F.1 F.2 = 0 ∧ F.2.length = kf ∧ fitE e0 e1 ps ts (n : Nat) F.1 F.2 = true ∧ fitCode e0 e1 ps ts (n : Nat) F.1 F.2 = 0) := Lib.hid (by
        have h := found_ok HOK.out hnn HGR.out
        rw [HFO.out, HFW.out] at h
        exact ⟨h.1, by omega, h.2.2⟩)
      have HQK : Hid (Q.length = kf ∧ provE e0 e1 ps ts (n : Nat) (natPs Q) = true ∧ provCode e0 e1 ps ts (n : Nat) (natPs Q) = 0) := Lib.hid (by
        have h := pairs_ok HOK.out hnn HGR.out
        rw [HQO.out, HFW.out] at h
        exact ⟨by omega, h.2.1, h.2.2.1⟩)
      have HFL := Lib.hid HFK.out.2.1
      have HQL : Hid ((natPs Q).length = kf) := Lib.hid (by unfold natPs; rw [List.length_map]; exact HQK.out.1)
      have HB10 := Lib.hid (Blk.new wr [.int .i64 D.f, .slice D.A D.cs.length D.q] 61)
      have HI1 := Lib.hid (HI.out.alloc (.cells #[.int .i64 D.f, .slice D.A D.cs.length D.q] 61))
      have HC1 := Lib.hid (HC.out.below (below_new wr (.cells #[.int .i64 D.f, .slice D.A D.cs.length D.q] 61)))
      have k0 := HI.out.k.cells 0 _ rfl
      have k1 := HI.out.k.cells 1 _ rfl
      have k2 := HI.out.k.cells 2 _ rfl
      have k3 := HI.out.k.cells 3 _ rfl
      have kl := HI.out.bl
      have hfw := Fewest_any e0 e1 AP AT cp ct ps ts (n : Nat) _ HI1.out.ba
      rw [HFW.out, HGR.out] at hfw
      unfold bkV at hfw
      have HFC := Lib.hid hfw
      clear hgr hfew1 hfw x2 HI HC few0
      go_wp2_with fail
      refine HFC.out.mono ?_
      rintro e w5 ⟨rfl, hb5⟩
      have HI := Lib.hid (HI1.out.below hb5)
      have HC := Lib.hid (HC1.out.below hb5)
      have HB10 := Lib.hid (HB10.out.below hb5)
      clear HI1 HC1 HFC hb5 k0 k1 k2 k3 kl x0 x1 ldb
      generalize wr.heap.size = b10 at HB10 ⊢
      have k0 := HI.out.k.cells 0 _ rfl
      have k1 := HI.out.k.cells 1 _ rfl
      have k2 := HI.out.k.cells 2 _ rfl
      have k3 := HI.out.k.cells 3 _ rfl
      have kl := HI.out.bl
      have HFC := Lib.hid (find_good HI.out.ba HGR.out HFO.out HFL.out)
      go_wp2_with fail
      refine HFC.out.mono ?_
      rintro e w6 ⟨vF, rfl, hoF, hb6⟩
      obtain ⟨AF, cF, rfl, _, rF⟩ := own_sliceI hoF
      have hg25 := HC.out.lt
      have HRF := Lib.hid (rF.low (l' := g2 + 1) (by omega))
      have HI6 := Lib.hid (HI.out.below hb6)
      have HC6 := Lib.hid (HC.out.below hb6)
      have HB106 := Lib.hid (HB10.out.below hb6)
      clear HI HC HB10 HFC hb6 k0 k1 k2 k3 kl hoF rF hg25
      have HI := Lib.hid (HI6.out.alloc (.cells #[.int .i64 F.1, .slice AF kf cF] 61))
      have HC := Lib.hid (HC6.out.below (below_new w6 (.cells #[.int .i64 F.1, .slice AF kf cF] 61)))
      have HB10 := Lib.hid (HB106.out.alloc (.cells #[.int .i64 F.1, .slice AF kf cF] 61))
      have HB13 := Lib.hid (Blk.new w6 [.int .i64 F.1, .slice AF kf cF] 61)
      have HRF6 : Hid (RdI (w6.alloc (.cells #[.int .i64 F.1, .slice AF kf cF] 61)) (g2 + 1) (w6.alloc (.cells #[.int .i64 F.1, .slice AF kf cF] 61)).heap.size AF (pairs F.2)) := Lib.hid ((HRF.out.keep fun b _ h => (below_new w6 (.cells #[.int .i64 F.1, .slice AF kf cF] 61)).block b h).more (below_new w6 (.cells #[.int .i64 F.1, .slice AF kf cF] 61)).size)
      change Hid (Blk (World.alloc w6 (.cells #[.int .i64 F.1, .slice AF kf cF] 61)) _ _) at HB13
      clear HI6 HC6 HB106 HRF
      have HRF := HRF6
      clear HRF6
      have k0 := HI.out.k.cells 0 _ rfl
      have k1 := HI.out.k.cells 1 _ rfl
      have k2 := HI.out.k.cells 2 _ rfl
      have k3 := HI.out.k.cells 3 _ rfl
      have kl := HI.out.bl
      have HAC := fun (x : World) (h : LwI w x g2 bb e0 e1 AP cp ps AT ct ts lw db D0 D1) => Lib.hid (apart_good h.ba HGR.out HQO.out HQK.out.1)
      go_wp2_with fail
      generalize World.alloc w6 _ = W6 at HI HC HB10 HB13 HRF k0 k1 k2 k3 kl ⊢
      generalize w6.heap.size = b13 at HB13 ⊢
      refine (HAC W6 HI.out).out.mono ?_
      rintro e w7 ⟨vQ, rfl, hoQ, hb7⟩
      obtain ⟨AQ, cQ, rfl, _, rQ⟩ := own_sliceI hoQ
      have hg25 := HC.out.lt
      have HRQ := Lib.hid (rQ.low (l' := g2 + 1) (by omega))
      have HI7 := Lib.hid (HI.out.below hb7)
      have HC7 := Lib.hid (HC.out.below hb7)
      have HB107 := Lib.hid (HB10.out.below hb7)
      have HB137 := Lib.hid (HB13.out.below hb7)
      have HRF7 : Hid (RdI w7 (g2 + 1) w7.heap.size AF (pairs F.2)) := Lib.hid ((HRF.out.keep fun b _ h => hb7.block b h).more hb7.size)
      clear HI HC HB10 HB13 HRF HAC hb7 k0 k1 k2 k3 kl hoQ rQ hg25
      -- Fits
      have HI := HI7
      have HC := HC7
      have k0 := HI.out.k.cells 0 _ rfl
      have k1 := HI.out.k.cells 1 _ rfl
      have k2 := HI.out.k.cells 2 _ rfl
      have k3 := HI.out.k.cells 3 _ rfl
      have kl := HI.out.bl
      have d0 := HB107.out.cells 0 _ rfl
      have d1 := HB107.out.cells 1 _ rfl
      have dl := HB107.out.lt
      have HFC := Lib.hid (fits_good (cq := D.q) (kf := D.cs.length) HI.out.ba ((HI.out.pickR HDK.out).rd HI.out.gs) rfl (by omega) (fit_mk HOK.out hnn HDM.out.ck) ((fitE_iff HOK.out hnn HDM.out.ck).2 HFD.out))
      go_wp2_with fail
      refine HFC.out.mono ?_
      rintro e w8 ⟨rfl, hb8⟩
      have HI8 := Lib.hid (HI.out.below hb8)
      have HC8 := Lib.hid (HC.out.below hb8)
      have HB10 := Lib.hid (HB107.out.below hb8)
      have HB13 := Lib.hid (HB137.out.below hb8)
      have HRF : Hid (RdI w8 (g2 + 1) w8.heap.size AF (pairs F.2)) := Lib.hid ((HRF7.out.keep fun b _ h => hb8.block b h).more hb8.size)
      have HRQ8 : Hid (RdI w8 (g2 + 1) w8.heap.size AQ (pairs (natPs Q))) := Lib.hid ((HRQ.out.keep fun b _ h => hb8.block b h).more hb8.size)
      clear HI HC HI7 HC7 HB107 HB137 HRF7 HRQ HFC hb8 k0 k1 k2 k3 kl d0 d1 dl
      have HI := HI8
      have HC := HC8
      have k0 := HI.out.k.cells 0 _ rfl
      have k1 := HI.out.k.cells 1 _ rfl
      have k2 := HI.out.k.cells 2 _ rfl
      have k3 := HI.out.k.cells 3 _ rfl
      have kl := HI.out.bl
      have d0 := HB13.out.cells 0 _ rfl
      have d1 := HB13.out.cells 1 _ rfl
      have dl := HB13.out.lt
      have HFC := Lib.hid (fits_good (cq := cF) HI.out.ba (HRF.out.rd (Nat.le_refl _)) HFL.out (by omega) HFK.out.2.2.2 HFK.out.2.2.1)
      go_wp2_with fail
      refine HFC.out.mono ?_
      rintro e w9 ⟨rfl, hb9⟩
      have HI9 := Lib.hid (HI.out.below hb9)
      have HC9 := Lib.hid (HC.out.below hb9)
      have HB109 := Lib.hid (HB10.out.below hb9)
      have HB139 := Lib.hid (HB13.out.below hb9)
      have HRF9 : Hid (RdI w9 (g2 + 1) w9.heap.size AF (pairs F.2)) := Lib.hid ((HRF.out.keep fun b _ h => hb9.block b h).more hb9.size)
      have HRQ9 : Hid (RdI w9 (g2 + 1) w9.heap.size AQ (pairs (natPs Q))) := Lib.hid ((HRQ8.out.keep fun b _ h => hb9.block b h).more hb9.size)
      clear HI HC HI8 HC8 HB10 HB13 HRF HRQ8 HFC hb9 k0 k1 k2 k3 kl d0 d1 dl
      have HI := HI9
      have HC := HC9
      have k0 := HI.out.k.cells 0 _ rfl
      have k1 := HI.out.k.cells 1 _ rfl
      have k2 := HI.out.k.cells 2 _ rfl
      have k3 := HI.out.k.cells 3 _ rfl
      have kl := HI.out.bl
      have HFC := Lib.hid (proves_good (cq := cQ) HI.out.ba (HRQ9.out.rd (Nat.le_refl _)) HQL.out (by omega) HQK.out.2.2 HQK.out.2.1)
      go_wp2_with fail
      refine HFC.out.mono ?_
      rintro e w10 ⟨rfl, hb10⟩
      have HI10 := Lib.hid (HI.out.below hb10)
      have HC10 := Lib.hid (HC.out.below hb10)
      have HB10 := Lib.hid (HB109.out.below hb10)
      have HB13 := Lib.hid (HB139.out.below hb10)
      have HRF : Hid (RdI w10 (g2 + 1) w10.heap.size AF (pairs F.2)) := Lib.hid ((HRF9.out.keep fun b _ h => hb10.block b h).more hb10.size)
      have HRQ : Hid (RdI w10 (g2 + 1) w10.heap.size AQ (pairs (natPs Q))) := Lib.hid ((HRQ9.out.keep fun b _ h => hb10.block b h).more hb10.size)
      clear HI HC HI9 HC9 HB109 HB139 HRF9 HRQ9 HFC hb10 k0 k1 k2 k3 kl
      have d0 := HB10.out.cells 0 _ rfl
      have d1 := HB10.out.cells 1 _ rfl
      have dl := HB10.out.lt
      have f0 := HB13.out.cells 0 _ rfl
      have f1 := HB13.out.cells 1 _ rfl
      have fl := HB13.out.lt
      have c1' : decide (D.cs.length < kf) = false := decide_eq_false (by omega)
      have c2' : decide ((D.cs.length : Int) < (kf : Int)) = false := decide_eq_false (by omega)
      go_wp2_with fail
      have HDL : Hid (DlI (w10.alloc (.cells #[.int .i64 D.f, .slice D.A D.cs.length D.q, .int .i64 F.1, .slice AF kf cF] 61)) g2 [D, ⟨F.1, AF, cF, F.2⟩] (.slice (some ⟨w10.heap.size, 0, none⟩) 2 2)) := Lib.hid (by
        have h := DlI.two (D := D) (E := ⟨F.1, AF, cF, F.2⟩) HC10.out.lt (HI10.out.pickR HDK.out) HRF.out (by omega) HDM.out.ck HFK.out.1
        rw [show (⟨F.1, AF, cF, F.2⟩ : DrM).cs.length = kf from HFL.out] at h
        exact h)
      have HXQ : Hid (RdX (w10.alloc (.cells #[.int .i64 D.f, .slice D.A D.cs.length D.q, .int .i64 F.1, .slice AF kf cF] 61)) g2 (Value.slice (some ⟨w10.heap.size, 0, none⟩) 2 2).ownBlock AQ (pairs (natPs Q))) := Lib.hid (HRQ.out.of2x (by omega) _)
      have HI6 := Lib.hid (HI10.out.alloc (.cells #[.int .i64 D.f, .slice D.A D.cs.length D.q, .int .i64 F.1, .slice AF kf cF] 61))
      have HC6 := Lib.hid (HC10.out.below (below_new w10 (.cells #[.int .i64 D.f, .slice D.A D.cs.length D.q, .int .i64 F.1, .slice AF kf cF] 61)))
      clear HI10 HC10 HB10 HB13 HRF HRQ d0 d1 dl f0 f1 fl c1' c2'
      generalize World.alloc w10 _ = W10 at HDL HXQ HI6 HC6 ⊢
      go_loopw [23, 150] (fun lv jv wx => ∃ (j : Nat) (ds : List DrM) (v : Value), j ≤ 5 ∧ jv = .int .i64 (j : Nat) ∧ lv = v ∧ ds.length = j + 2 ∧ Hid (LwI w wx g2 bb e0 e1 AP cp ps AT ct ts lw db D0 D1) ∧ Hid (ChE wx g2 A2 c2 zs2) ∧ Hid (DlI wx g2 ds v) ∧ Hid (RdX wx g2 v.ownBlock AQ (pairs (natPs Q)))) (fun _ j _ => 5 - (intOf j).toNat)
      case atStart => exact ⟨0, _, _, by omega, rfl, rfl, rfl, HI6, HC6, HDL, HXQ⟩
      case round =>
        clear HDL HI6 HC6 HXQ W10
        obtain ⟨j, ds, lv, hj4, rfl, hlv, hdl, HI, HC, HDL, HXQ⟩ := hrel
        obtain ⟨AL, cL, rfl, _, _⟩ := own_slice HDL.out.own
        subst hlv
        by_cases hj : j < 5
        · have hji : (j : Int) < 5 := by omega
          have HDSL := Lib.hid hdl
          clear hdl
          go_wp2_with fail
          refine (madeDrift_any g2 A2 c2 zs2 3 _ HC.out (by omega)).mono ?_
          rintro e w7 ⟨f, cs, v, rfl, hdm, how, hC7, hg7⟩
          obtain ⟨AD, qd, rfl, _, rI⟩ := own_sliceI how
          have HI7 := Lib.hid (HI.out.pull hg7)
          have HD7 := Lib.hid (HDL.out.pull hg7)
          have HX7 : Hid (RdX w7 g2 (Value.slice AL ds.length cL).ownBlock AD (pairs cs)) := Lib.hid (RdX.new rI HC.out.lt fun b e => (HDL.out.own.lt b e).2)
          have HQ7 : Hid (RdX w7 g2 (Value.slice AL ds.length cL).ownBlock AQ (pairs (natPs Q))) := Lib.hid (HXQ.out.grown hg7 (.inl rfl))
          have HC7 := Lib.hid hC7
          have HDM7 := Lib.hid hdm.ck
          have hds := HDSL.out
          clear how rI hg7 hC7 hdm HI HDL HC HXQ
          have HA7 := Lib.hid (HD7.out.alloc (.cells #[.int .i64 f, .slice AD cs.length qd] 61))
          have HXA := Lib.hid (HX7.out.below (below_new w7 (.cells #[.int .i64 f, .slice AD cs.length qd] 61)))
          have HQA := Lib.hid (HQ7.out.below (below_new w7 (.cells #[.int .i64 f, .slice AD cs.length qd] 61)))
          have HCA := Lib.hid (HC7.out.below (below_new w7 (.cells #[.int .i64 f, .slice AD cs.length qd] 61)))
          have hgl := HC7.out.lt
          have HIA := Lib.hid (HI7.out.alloc (.cells #[.int .i64 f, .slice AD cs.length qd] 61))
          unfold drV
          have hdl4 : ds.length ≤ 7 := by omega
          clear hds
          go_wp2_with (at_builtin; refine wpList_append_own_at _ rfl _ _ 49 rfl (g2 + 1) 61 i0 _ 2 32 Tryz.underlying49 hi hz0 hz1 hz2 rfl (by decide) _ _ _ rfl HA7.out.own ⟨w7.heap.size, 0, none⟩ 1 1 [.int .i64 f, .slice AD cs.length qd] rfl rfl (news_new _ _ _ rfl) (by simp [Value.oneCell']) (by simp only [maxLen]; omega) (by omega) (by simp; omega) ?_; intro v1 w8 hown1 hgrow1 _ hat1; have M := Lib.hid (HA7.out.app (D := ⟨f, AD, qd, cs⟩) hown1 hgrow1 hat1 HXA.out HDM7.out); have MQ := Lib.hid (HQA.out.app hgrow1 hat1); have MI := Lib.hid (HIA.out.row hgrow1 fun r e => by have := (HA7.out.own.lt r e).1; omega); have MC := Lib.hid (HCA.out.keep hgrow1.size fun k hk => hgrow1.block k (by have := HCA.out.lt; omega) (by intro e; have := (HA7.out.own.lt k e.symm).1; omega)); obtain ⟨B1, cc1, rfl, _, _⟩ := own_slice hown1; clear hown1 hgrow1 hat1)
          go_roundw
          case rel => exact ⟨j + 1, ds ++ [⟨f, AD, qd, cs⟩], _, by omega, by go_num, rfl, by rw [List.length_append, HDSL.out]; show j + 2 + 1 = j + 1 + 2; omega, MI, MC, M, MQ⟩
          case measure => simp [intOf]; omega
        · have hji : ¬ (j : Int) < 5 := by omega
          have hj5 : ds.length = 7 := by omega
          have HDS5 := Lib.hid hj5
          obtain ⟨lb0, lc0, hlf, _, _⟩ := HDL.out.own.form (by omega)
          injection hlf with hlf1 hlf2 hlf3
          subst hlf1 hlf3
          rw [HDS5.out] at HDL ⊢
          clear hj5 hdl hlf2
          go_wp2_with fail
          obtain ⟨WL, hWL⟩ : ∃ WL, WL = wr := ⟨_, rfl⟩
          rw [← hWL] at HI HC HDL HXQ ⊢
          clear hWL
          go_loopw [160] (fun iv wx => ∃ i : Nat, i ≤ 7 ∧ iv = .int .i64 (i : Nat) ∧ Hid (Below WL.heap.size WL wx)) (fun iv _ => 7 - (intOf iv).toNat)
          case atStart => exact ⟨0, by omega, rfl, Lib.hid (Below.refl _ _)⟩
          case round =>
            obtain ⟨i, hi7, rfl, HBX⟩ := hrel
            have HIx := Lib.hid (HI.out.below HBX.out)
            by_cases hi : i < 7
            · have hii : (i : Int) < 7 := by omega
              have hii0 : (0 : Int) ≤ (i : Int) := by omega
              obtain ⟨q0, q1, qr, qk, ql⟩ := HDL.out.at_ (k := i) (by rw [HDS5.out]; exact hi)
              generalize ds[i]'(by rw [HDS5.out]; exact hi) = E at *
              obtain ⟨Ef, EA, Eq, Ecs⟩ := E
              simp only at q0 q1 qr qk
              have z0 := HBX.out.at_ ql q0
              have z1 := HBX.out.at_ ql q1
              have lbs : lb0 < wr.heap.size := Nat.lt_of_lt_of_le ql HBX.out.size
              have HEK := Lib.hid qk
              have hel := ckD_len qk
              have HRx : Hid (Rd wr wr.heap.size EA (pairs Ecs)) := Lib.hid (qr.next HBX.out)
              have HQx : Hid (Rd wr wr.heap.size AQ (pairs (natPs Q))) := Lib.hid (HXQ.out.rd.next HBX.out)
              have hbn := below_new wr (.cells #[.int .i64 Ef, .slice EA Ecs.length Eq] 61)
              have HBN : Hid (Below WL.heap.size WL (wr.alloc (.cells #[.int .i64 Ef, .slice EA Ecs.length Eq] 61))) := Lib.hid (HBX.out.trans (hbn.mono HBX.out.size))
              have HRn := Lib.hid (HRx.out.next hbn)
              have HQn := Lib.hid (HQx.out.next hbn)
              have HIn := Lib.hid (HIx.out.below hbn)
              have HB25 := Lib.hid (Blk.new wr [.int .i64 Ef, .slice EA Ecs.length Eq] 61)
              change Hid (Blk (World.alloc wr (.cells #[.int .i64 Ef, .slice EA Ecs.length Eq] 61)) _ _) at HB25
              obtain ⟨fb, HFB⟩ : ∃ fb, Hid (fitE e0 e1 ps ts (n : Nat) Ef Ecs = fb) := ⟨_, Lib.hid rfl⟩
              have HFC := fun (x : World) (h : LwI w x g2 bb e0 e1 AP cp ps AT ct ts lw db D0 D1) (hr : Rd x x.heap.size EA (pairs Ecs)) => Lib.hid (fits_good (cq := Eq) (kf := Ecs.length) h.ba hr rfl hel (fit_mk HOK.out hnn HEK.out) HFB.out)
              have HIt := HIx
              have k0 := HIn.out.k.cells 0 _ rfl
              have k1 := HIn.out.k.cells 1 _ rfl
              have k2 := HIn.out.k.cells 2 _ rfl
              have k3 := HIn.out.k.cells 3 _ rfl
              have kl := HIn.out.bl
              clear q0 q1 qr qk hbn HRx HQx HIx HIt ql
              go_wp2_with fail
              generalize World.alloc wr _ = W9 at HBN HRn HQn HIn HB25 k0 k1 k2 k3 kl ⊢
              generalize wr.heap.size = b25 at HB25 ⊢
              refine (HFC W9 HIn.out HRn.out).out.mono ?_
              rintro e w10 ⟨rfl, hb10⟩
              have HI10 := Lib.hid (HIn.out.below hb10)
              have HR10 := Lib.hid (HRn.out.next hb10)
              have HQ10 := Lib.hid (HQn.out.next hb10)
              have HB10 := Lib.hid (HB25.out.below hb10)
              have HBW : Hid (Below WL.heap.size WL w10) := Lib.hid (HBN.out.trans (hb10.mono HBN.out.size))
              clear HFC HBN HRn HQn HIn HB25 hb10 k0 k1 k2 k3 kl z0 z1 lbs
              cases fb
              · go_wp2_with fail
                go_roundw
                case rel => exact ⟨i + 1, by omega, by go_num, HBW⟩
                case measure => simp [intOf]; omega
              · have hge : kf ≤ Ecs.length := by
                  have h := (gr_few HOK.out hnn ((fitE_iff HOK.out hnn HEK.out).1 HFB.out)).2.2.1
                  rw [HFW.out] at h
                  omega
                have c1' : decide (Ecs.length < kf) = false := decide_eq_false (by omega)
                have c2' : decide ((Ecs.length : Int) < (kf : Int)) = false := decide_eq_false (by omega)
                have b0 := HB10.out.cells 0 _ rfl
                have b1 := HB10.out.cells 1 _ rfl
                have b2 := HB10.out.lt
                by_cases heq : Ecs.length = kf
                · have HEQ := Lib.hid heq
                  rw [heq] at b1 ⊢
                  rw [heq] at HB10
                  clear c1' c2' heq hge hel
                  go_wp2_with fail
                  go_loopw [195] (fun kv wx => ∃ k : Nat, k ≤ kf ∧ kv = .int .i64 (k : Nat) ∧ Hid (Below w10.heap.size w10 wx)) (fun kv _ => kf - (intOf kv).toNat)
                  case atStart => exact ⟨0, Nat.zero_le _, rfl, Lib.hid (Below.refl _ _)⟩
                  case round =>
                    clear b0 b1 b2
                    obtain ⟨k, hkf, rfl, HBY⟩ := hrel
                    have HIy := Lib.hid (HI10.out.below HBY.out)
                    by_cases hk : k < kf
                    · have hki : (k : Int) < (kf : Int) := by omega
                      have hki0 : (0 : Int) ≤ (k : Int) := by omega
                      have hke : k < Ecs.length := by rw [HEQ.out]; exact hk
                      have hkq : k < Q.length := by rw [HQK.out.1]; exact hk
                      have hkq' : k < (natPs Q).length := by rw [HQL.out]; exact hk
                      obtain ⟨be, oe, rfl, hbe, q0, q1⟩ := (HR10.out.next HBY.out).pair hke
                      have hp := (HQ10.out.next HBY.out).pair hkq'
                      rw [natPs_get hkq hkq'] at hp
                      obtain ⟨bq, oq, rfl, hbq, p0, p1⟩ := hp
                      obtain ⟨hx, hy, _⟩ := pair_in HOK.out hnn HGR.out HEK.out HFB.out (p := Q[k]) (by rw [HQO.out]; exact List.getElem_mem hkq)
                      obtain ⟨hwc, hwi⟩ := when_in HOK.out hnn HGR.out HEK.out (ckD_inc HEK.out) HFB.out (by rw [HEQ.out, HFW.out]) hke
                      generalize Q[k].1 = xa at *
                      generalize Q[k].2 = ya at *
                      generalize Ecs[k] = cc at *
                      obtain ⟨cc1, cc2⟩ := cc
                      obtain ⟨S, hS⟩ : ∃ S, whenE e0 e1 ps ts (n : Nat) (k : Nat) = S := ⟨_, rfl⟩
                      rw [hS] at hwi
                      obtain ⟨s0, s1⟩ := S
                      simp only at q0 q1 p0 p1 hwi
                      have hbn := below_new wr (.cells #[.int .i64 cc1, .int .i64 cc2] 82)
                      have HBN : Hid (Below w10.heap.size w10 (wr.alloc (.cells #[.int .i64 cc1, .int .i64 cc2] 82))) := Lib.hid (HBY.out.trans (hbn.mono HBY.out.size))
                      have HI5 := Lib.hid (HIy.out.below hbn)
                      have HB29 := Lib.hid (Blk.new wr [.int .i64 cc1, .int .i64 cc2] 82)
                      change Hid (Blk (World.alloc wr (.cells #[.int .i64 cc1, .int .i64 cc2] 82)) _ _) at HB29
                      have HP0 := Lib.hid (hbn.at_ hbq p0)
                      have HP1 := Lib.hid (hbn.at_ hbq p1)
                      have hbq5 := Nat.lt_of_lt_of_le hbq hbn.size
                      have HWH := fun (x : World) (h : LwI w x g2 bb e0 e1 AP cp ps AT ct ts lw db D0 D1) => Lib.hid (when_good h.ba hS hwc)
                      have HWI := fun (x : World) => (within_any cc1 s0 s1 x)
                      rw [hwi] at HWI
                      unfold spV at HWI
                      have HWI := fun (x : World) => Lib.hid (HWI x)
                      have k0 := HI5.out.k.cells 0 _ rfl
                      have k1 := HI5.out.k.cells 1 _ rfl
                      have k2 := HI5.out.k.cells 2 _ rfl
                      have k3 := HI5.out.k.cells 3 _ rfl
                      have kl := HI5.out.bl
                      clear hbn hwc hwi hS p0 p1 hbq HIy
                      go_wp2_with fail
                      generalize World.alloc wr _ = W5 at HBN HI5 HB29 HP0 HP1 hbq5 k0 k1 k2 k3 kl ⊢
                      generalize wr.heap.size = b29 at HB29 ⊢
                      refine (HWH W5 HI5.out).out.mono ?_
                      rintro e w11 ⟨rfl, hb11⟩
                      have hbn := below_new w11 (.cells #[.int .i64 s0, .int .i64 s1] 36)
                      have hb6 : Below W5.heap.size W5 (w11.alloc (.cells #[.int .i64 s0, .int .i64 s1] 36)) := hb11.trans (hbn.mono hb11.size)
                      have HI6 := Lib.hid (HI5.out.below hb6)
                      have HB6 := Lib.hid (HB29.out.below hb6)
                      have HB30 := Lib.hid (Blk.new w11 [.int .i64 s0, .int .i64 s1] 36)
                      change Hid (Blk (World.alloc w11 (.cells #[.int .i64 s0, .int .i64 s1] 36)) _ _) at HB30
                      have HBW6 : Hid (Below w10.heap.size w10 (w11.alloc (.cells #[.int .i64 s0, .int .i64 s1] 36))) := Lib.hid (HBN.out.trans (hb6.mono HBN.out.size))
                      have p0 := hb6.at_ hbq5 HP0.out
                      have p1 := hb6.at_ hbq5 HP1.out
                      have hbq6 := Nat.lt_of_lt_of_le hbq5 hb6.size
                      clear HI5 HB29 HBN HP0 HP1 hb11 hbn hb6 k0 k1 k2 k3 kl HWH hbq5
                      go_wp2_with fail
                      generalize World.alloc w11 _ = W6 at HI6 HB6 HB30 HBW6 p0 p1 hbq6 ⊢
                      generalize w11.heap.size = b30 at HB30 ⊢
                      go_quiet (fail)
                      generalize hW7 : World.drewN W6 _ = W7
                      have HI7 : Hid (LwI w W7 g2 bb e0 e1 AP cp ps AT ct ts lw db D0 D1) := Lib.hid (by rw [← hW7]; exact HI6.out.drewN _)
                      have HB7 : Hid (Blk W7 b29 [.int .i64 cc1, .int .i64 cc2]) := Lib.hid (by rw [← hW7]; exact HB6.out.drewN _)
                      have HB37 : Hid (Blk W7 b30 [.int .i64 s0, .int .i64 s1]) := Lib.hid (by rw [← hW7]; exact HB30.out.drewN _)
                      have HBW7 : Hid (Below w10.heap.size w10 W7) := Lib.hid (by rw [← hW7]; exact below_drewN HBW6.out _)
                      clear hW7 HI6 HB6 HB30 HBW6 p0 p1 hbq6
                      have u0 := HB7.out.cells 0 _ rfl
                      have u1 := HB37.out.cells 0 _ rfl
                      have u2 := HB37.out.cells 1 _ rfl
                      have ul := HB7.out.lt
                      have ul2 := HB37.out.lt
                      go_wp2_with fail
                      refine (HWI W7).out.mono ?_
                      rintro e w12 ⟨rfl, hb12⟩
                      have HI8 := Lib.hid (HI7.out.below hb12)
                      have HBW8 : Hid (Below w10.heap.size w10 w12) := Lib.hid (HBW7.out.trans (hb12.mono HBW7.out.size))
                      have k2 := HI8.out.k.cells 2 _ rfl
                      have kl := HI8.out.bl
                      clear HWI HI7 HB7 HB37 HBW7 hb12 u0 u1 u2 ul ul2
                      have e1' : decide ((xa : Int) < 0) = false := decide_eq_false (by omega)
                      have e2' : decide ((ya : Int) < 0) = false := decide_eq_false (by omega)
                      have e3' : decide ((ps.length : Int) ≤ (xa : Int)) = false := decide_eq_false (by omega)
                      have e4' : decide ((ps.length : Int) ≤ (ya : Int)) = false := decide_eq_false (by omega)
                      have e5' : decide (ps.length ≤ xa) = false := decide_eq_false (by omega)
                      have e6' : decide (ps.length ≤ ya) = false := decide_eq_false (by omega)
                      go_wp2_with fail
                      go_roundw
                      case rel => exact ⟨k + 1, by omega, by go_num, HBW8⟩
                      case measure => simp [intOf]; omega
                    · have hki : ¬ (k : Int) < (kf : Int) := by omega
                      have HB11 := Lib.hid (HB10.out.below HBY.out)
                      have HR11 := Lib.hid (HR10.out.next HBY.out)
                      have HQ11 := Lib.hid (HQ10.out.next HBY.out)
                      have HBW11 : Hid (Below WL.heap.size WL wr) := Lib.hid (HBW.out.trans (HBY.out.mono HBW.out.size))
                      clear HB10 HR10 HQ10 HBW HI10
                      go_wp2_with fail
                      obtain ⟨W5, hW5⟩ : ∃ W5, W5 = wr := ⟨_, rfl⟩
                      rw [← hW5] at HIy HB11 HR11 HQ11 HBW11 ⊢
                      clear hW5
                      go_loopw [251] (fun kv wx => ∃ k : Nat, k ≤ kf ∧ kv = .int .i64 (k : Nat) ∧ Hid (Below W5.heap.size W5 wx)) (fun kv _ => kf - (intOf kv).toNat)
                      case atStart => exact ⟨0, Nat.zero_le _, rfl, Lib.hid (Below.refl _ _)⟩
                      case round =>
                        obtain ⟨k, hkf, rfl, HBZ⟩ := hrel
                        by_cases hk : k < kf
                        · have hki : (k : Int) < (kf : Int) := by omega
                          have hki0 : (0 : Int) ≤ (k : Int) := by omega
                          have hkq : k < Q.length := by rw [HQK.out.1]; exact hk
                          have hkq' : k < (natPs Q).length := by rw [HQL.out]; exact hk
                          have hp := (HQ11.out.next HBZ.out).pair hkq'
                          rw [natPs_get hkq hkq'] at hp
                          obtain ⟨bq, oq, rfl, hbq, p0, p1⟩ := hp
                          obtain ⟨hx, hy, hany⟩ := pair_in HOK.out hnn HGR.out HEK.out HFB.out (p := Q[k]) (by rw [HQO.out]; exact List.getElem_mem hkq)
                          generalize Q[k].1 = xa at *
                          generalize Q[k].2 = ya at *
                          simp only at p0 p1
                          have hbn := below_new wr (.cells #[.int .i64 (xa : Nat), .int .i64 (ya : Nat)] 99)
                          have hB6 : Below W5.heap.size W5 (wr.alloc (.cells #[.int .i64 (xa : Nat), .int .i64 (ya : Nat)] 99)) := HBZ.out.trans (hbn.mono HBZ.out.size)
                          have HI6 := Lib.hid (HIy.out.below hB6)
                          have HB6 := Lib.hid hB6
                          have HB25 := Lib.hid (HB11.out.below hB6)
                          have HR6 := Lib.hid (HR11.out.next hB6)
                          have h35 := Blk.new wr [.int .i64 (xa : Nat), .int .i64 (ya : Nat)] 99
                          change Blk (World.alloc wr (.cells #[.int .i64 (xa : Nat), .int .i64 (ya : Nat)] 99)) _ _ at h35
                          obtain ⟨pb, po, hAP, _⟩ := HI6.out.ba.ra.proof hx
                          have hkk := HI6.out.k.cells 2 _ rfl
                          have hra := HI6.out.ba.ra
                          rw [hAP] at hkk hra
                          have hel : Ecs.length ≤ 1000 := by rw [HEQ.out]; omega
                          have hcn := containsChange_any EA Eq Ecs 82 #[.pointer (some ⟨bb, 0, none⟩), .pointer (some ⟨wr.heap.size, 0, none⟩)] (enters_of Tryz.func82 (by kernel_rfl) rfl) (betwB (pAt ps xa).m (pAt ps ya).m) (wr.alloc (.cells #[.int .i64 (xa : Nat), .int .i64 (ya : Nat)] 99)) HR6.out hel (predBetw bb wr.heap.size xa ya pb po cp ps Ecs _ hkk HI6.out.bl hra h35 hx hy HI6.out.lp)
                          rw [show Ecs.any (betwB (pAt ps xa).m (pAt ps ya).m) = true from hany, HEQ.out] at hcn
                          have HCN := Lib.hid hcn
                          have d1 := HB25.out.cells 1 _ rfl
                          have dl := HB25.out.lt
                          clear hbn hB6 hcn hkk hra hAP h35 hany hel
                          go_wp2_with fail
                          refine HCN.out.mono ?_
                          rintro e w12 ⟨rfl, hb12⟩
                          have HBW8 : Hid (Below W5.heap.size W5 w12) := Lib.hid (HB6.out.trans (hb12.mono HB6.out.size))
                          clear HCN HB6 HB25 HR6 HI6 hb12 d1 dl p0 p1
                          go_wp2_with fail
                          go_roundw
                          case rel => exact ⟨k + 1, by omega, by go_num, HBW8⟩
                          case measure => simp [intOf]; omega
                        · have hki : ¬ (k : Int) < (kf : Int) := by omega
                          have HBW12 : Hid (Below WL.heap.size WL wr) := Lib.hid (HBW11.out.trans (HBZ.out.mono HBW11.out.size))
                          go_wp2_with fail
                          go_roundw
                          case rel => exact ⟨i + 1, by omega, by go_num, HBW12⟩
                          case measure => simp [intOf]; omega
                · have n1 : ((Ecs.length : Int) == (kf : Int)) = false := by rw [beq_eq_false_iff_ne]; omega
                  have n2 : ((Ecs.length : Int) != (kf : Int)) = true := by rw [bne_iff_ne]; omega
                  have n3 : (Ecs.length == kf) = false := by rw [beq_eq_false_iff_ne]; omega
                  have n4 : (Ecs.length != kf) = true := by rw [bne_iff_ne]; omega
                  go_wp2_with fail
                  go_roundw
                  case rel => exact ⟨i + 1, by omega, by go_num, HBW⟩
                  case measure => simp [intOf]; omega
            · have hii : ¬ (i : Int) < 7 := by omega
              have HWN := Lib.hid (when_none HOK.out hnn HGR.out)
              have HFC := Lib.hid (when_good (s := whenE e0 e1 ps ts (n : Nat) (kf : Nat)) (ch := (kf : Nat)) (code := 1) HIx.out.ba rfl (by have h := HWN.out; rw [HFW.out] at h; exact h))
              obtain ⟨S, hS⟩ : ∃ S, whenE e0 e1 ps ts (n : Nat) (kf : Nat) = S := ⟨_, rfl⟩
              rw [hS] at HFC
              have HCx : Hid (ChE wr g2 A2 c2 zs2) := Lib.hid (HC.out.below HBX.out)
              have k0 := HIx.out.k.cells 0 _ rfl
              have k1 := HIx.out.k.cells 1 _ rfl
              have k2 := HIx.out.k.cells 2 _ rfl
              have k3 := HIx.out.k.cells 3 _ rfl
              have kl := HIx.out.bl
              clear hS HWN
              go_wp2_with fail
              refine HFC.out.mono ?_
              rintro e w10 ⟨rfl, hb10⟩
              have HI10 := Lib.hid (HIx.out.below hb10)
              have HC10 := Lib.hid (HCx.out.below hb10)
              clear HFC hb10 k0 k1 k2 k3 kl HIx HCx
              go_wp2_with fail
              go_roundw
              case rel => exact ⟨n + 1, by omega, by go_num, Lib.hid (HI10.out.alloc _), Lib.hid (HC10.out.below (below_new _ _))⟩
              case measure => simp [intOf]; omega
    · have hna : ¬ (n : Int) < 2 := by omega
      go_wp2_with fail
      refine (awake_any wr).mono ?_
      rintro e w5 ⟨rfl, hb5⟩
      go_wp2_with fail
      go_ret
      exact ⟨rfl, HI.out.bel.trans (hb5.mono HI.out.bel.size)⟩
end Go.Proofs.YtcdjoegihmfanaaGreat
