/- Fits: whether a drift fits all proofs of a bridge. The chute: numbers out of bytes; each lies between its ends. (fee's Chute, and the head of its Made, for this seat.) What is made out of numbers: drifts, proofs, trips; what is true of them. at (the statement's), and whether a proof is of a bridge at a minute. -/
import Derived.Test.YtcdjoegihmfanaaGreatG15
import Derived.Test.YtcdjoegihmfanaaGreatG11
import Derived.Test.YtcdjoegihmfanaaGreatG9
import Derived.Test.YtcdjoegihmfanaaGreatG8
import Derived.Test.YtcdjoegihmfanaaGreatG1
import Derived.StillTailTactics
import Derived.Deep.QuietTactic
import Derived.BigQuiet
import Derived.Deep.DeepCutAuto
import Derived.Test.YtcdjoegihmfanaaGreatG13
import Derived.Test.YtcdjoegihmfanaaGreatG3
import Derived.Test.YtcdjoegihmfanaaGreatG12
namespace Go.Proofs.YtcdjoegihmfanaaGreat
open Go.RowKit
set_option linter.unusedVariables false
attribute [local go_sem] Oper.semAt_some
/-- Whether a drift fits a proof. -/
def fitB (e0 e1 : Int) (ps : List Pr) (f : Int) (cs : List (Int × Int)) (i : Nat) : Bool := inB (valueD f cs (pAt ps i).m) (spI e0 e1 ps i).1 (spI e0 e1 ps i).2
def fitCode (e0 e1 : Int) (ps : List Pr) (ts : List Tr) (n f : Int) (cs : List (Int × Int)) : Int := if askCode (ckBook e0 e1 ps ts) n 0 ≠ 0 then askCode (ckBook e0 e1 ps ts) n 0 else ckD f cs
def fitE (e0 e1 : Int) (ps : List Pr) (ts : List Tr) (n f : Int) (cs : List (Int × Int)) : Bool := if fitCode e0 e1 ps ts n f cs = 0 then (ordL ps n).all (fitB e0 e1 ps f cs) else false
/-- The boxes of the results, and what was looked at. -/
def FtU (e0 e1 : Int) (ps : List Pr) (f : Int) (cs : List (Int × Int)) (B b6 b7 : Nat) (S : Nat) (pre : List Nat) (W : World) : Prop := b6 < B ∧ b7 < B ∧ Blk W b6 [.bool false] ∧ Blk W b7 [.int .i64 0] ∧ pre.all (fitB e0 e1 ps f cs) = true
def FtX (e0 e1 : Int) (ps : List Pr) (n f : Int) (cs : List (Int × Int)) (B b6 b7 : Nat) (pre : List Nat) (W : World) : Prop := b6 < B ∧ b7 < B ∧ Blk W b6 [.bool false] ∧ Blk W b7 [.int .i64 0] ∧ (ordL ps n).all (fitB e0 e1 ps f cs) = false
set_option maxRecDepth 100000 in
set_option maxHeartbeats 2000000 in
theorem Fits_any (e0 e1 : Int) (A B : Option Addr) (c d : Nat) (ps : List Pr) (ts : List Tr) (n : Int) (f : Int) (QA : Option Addr) (cq : Nat) (cs : List (Int × Int)) (w : World) (hA : BA w A B c d ps ts) (hQ : Rd w w.heap.size QA (pairs cs)) (hql : cs.length ≤ 1000) :
    Calls Tryz.prog 39 #[bkV e0 e1 (.slice A ps.length c) (.slice B ts.length d), .int .i64 n, drV f (.slice QA cs.length cq)] w fun e w' => e = .returned (.tuple #[.bool (fitE e0 e1 ps ts n f cs), .int .i64 (fitCode e0 e1 ps ts n f cs)]) ∧ Below w.heap.size w w' := by
  have HC := fun w1 (hb : Below w.heap.size w w1) => Lib.hid (asked_any e0 e1 A B c d ps ts n 0 w1 (hA.next hb))
  have HCD := fun w1 (hb : Below w.heap.size w w1) => Lib.hid (checked_any f QA cq cs w1 (hQ.next hb) hql)
  have HAT0 := fun (m : Int) w1 (hb : Below w.heap.size w w1) => Lib.hid (at_any f QA cq cs m w1 (hQ.next hb) hql)
  have HP := fun g W => Lib.hid (proofs_any g n W)
  have HA := Lib.hid hA
  clear hA hQ
  unfold bkV drV at *
  refine callsIn_wide.1 (callsIn_of_wp_marks (F := Fence.wide) (n := 4) Tryz.func39 rfl trivial ?_)
  refine wpIn_wide.2 ?_
  simp only [Tryz.ntmps39, List.size_toArray, List.length_cons, List.length_nil, Nat.reduceAdd, Nat.reduceSub, Array.replicate_succ, Array.replicate_zero, List.push_toArray, List.append_toArray, List.nil_append, List.cons_append]
  go_wp2_with fail
  have b1 := below_new w (.cells #[.int .i64 e0, .int .i64 e1, .slice A ps.length c, .slice B ts.length d] 26)
  have q0 := Blk.new w [.int .i64 e0, .int .i64 e1, .slice A ps.length c, .slice B ts.length d] 26
  have z1 : (w.alloc (.cells #[.int .i64 e0, .int .i64 e1, .slice A ps.length c, .slice B ts.length d] 26)).heap.size = w.heap.size + 1 := by simp
  change Blk (w.alloc (.cells #[.int .i64 e0, .int .i64 e1, .slice A ps.length c, .slice B ts.length d] 26)) _ _ at q0
  generalize w.alloc (.cells #[.int .i64 e0, .int .i64 e1, .slice A ps.length c, .slice B ts.length d] 26) = W1 at *
  have b2 := below_new W1 (.cells #[.int .i64 f, .slice QA cs.length cq] 61)
  have D2 := Blk.new W1 [.int .i64 f, .slice QA cs.length cq] 61
  have q0 := q0.below b2
  have z2 : (W1.alloc (.cells #[.int .i64 f, .slice QA cs.length cq] 61)).heap.size = w.heap.size + 1 + 1 := by simp [z1]
  change Blk (W1.alloc (.cells #[.int .i64 f, .slice QA cs.length cq] 61)) _ _ at D2
  rw [z1] at D2
  generalize W1.alloc (.cells #[.int .i64 f, .slice QA cs.length cq] 61) = W2 at *
  have b3 := below_new W2 (.cells #[.bool false] 4)
  have R3 := Blk.new W2 [.bool false] 4
  have q0 := q0.below b3
  have D3 := D2.below b3
  have z3 : (W2.alloc (.cells #[.bool false] 4)).heap.size = w.heap.size + 1 + 1 + 1 := by simp [z2]
  change Blk (W2.alloc (.cells #[.bool false] 4)) _ _ at R3
  rw [z2] at R3
  generalize W2.alloc (.cells #[.bool false] 4) = W3 at *
  have b4 := below_new W3 (.cells #[.int .i64 0] 37)
  have E4 := Blk.new W3 [.int .i64 0] 37
  have q0 := q0.below b4
  have D4 := D3.below b4
  have R4 := R3.below b4
  change Blk (W3.alloc (.cells #[.int .i64 0] 37)) _ _ at E4
  rw [z3] at E4
  have hbw := ((b1.trans (b2.mono b1.size)).trans (b3.mono (by omega))).trans (b4.mono (by omega))
  clear b1 b2 b3 b4 z1 z2 z3 D2 D3 R3
  generalize W3.alloc (.cells #[.int .i64 0] 37) = W4 at *
  refine (HC W4 hbw).out.mono ?_
  rintro e w1 (⟨h0, g, rfl, hg, hk, hb1⟩ | ⟨h0, rfl, hb1⟩)
  · have hG := Gd.mk' (HA.out.next (hbw.trans (hb1.mono hbw.size))) hk (ask_ok h0).1
    have HG := Lib.hid hG
    have H0 := Lib.hid h0
    have hbw := hbw.trans (hb1.mono hbw.size)
    have D1 := D4.below hb1
    have R1 := R4.below hb1
    have E1 := E4.below hb1
    have d0 := D1.cells 0 _ rfl
    have d1 := D1.cells 1 _ rfl
    have dl := D1.lt
    have hgw : w.heap.size + 1 + 1 + 1 < g := Nat.lt_of_lt_of_le E4.lt hg
    clear HC h0 hk hb1 hg hG D4 R4 E4 q0
    go_wp2_with fail
    have b5 := below_new w1 (.cells #[.pointer (some ⟨g, 0, none⟩)] 146)
    have K5 := Blk.new w1 [.pointer (some ⟨g, 0, none⟩)] 146
    change Blk (w1.alloc (.cells #[.pointer (some ⟨g, 0, none⟩)] 146)) _ _ at K5
    have D5 := D1.below b5
    have R5 := R1.below b5
    have E5 := E1.below b5
    have HG5 := Lib.hid (HG.out.below b5)
    have hbw := hbw.trans (b5.mono hbw.size)
    obtain ⟨W5, hW5⟩ : ∃ W5, w1.alloc (.cells #[.pointer (some ⟨g, 0, none⟩)] 146) = W5 := ⟨_, rfl⟩
    obtain ⟨kb, hkb⟩ : ∃ kb, w1.heap.size = kb := ⟨_, rfl⟩
    rw [hW5, hkb] at K5
    rw [hW5] at D5 R5 E5 HG5 hbw b5
    rw [hW5, hkb]
    have hkw : w.heap.size + 1 + 1 + 1 < kb := by rw [← hkb]; exact E1.lt
    have HK5 := Lib.hid K5
    have HD5 := Lib.hid D5
    have HR5 := Lib.hid R5
    have HE5 := Lib.hid E5
    clear b5 D1 R1 E1 D5 R5 E5 K5 hW5 hkb HG
    refine (HCD W5 hbw).out.mono ?_
    rintro e w6 ⟨rfl, hb6⟩
    have HBW6 := Lib.hid (hbw.trans (hb6.mono hbw.size))
    have HK6 := Lib.hid (HK5.out.below hb6)
    have HD6 := Lib.hid (HD5.out.below hb6)
    have HR6 := Lib.hid (HR5.out.below hb6)
    have HE6 := Lib.hid (HE5.out.below hb6)
    have HG6 := Lib.hid (HG5.out.below hb6)
    clear HCD hb6 HK5 HD5 HR5 HE5 HG5 d0 d1 dl hbw
    have r6 := HR6.out.cells 0 _ rfl
    have rf := HR6.out.free 0
    have rl := HR6.out.lt
    have e6 := HE6.out.cells 0 _ rfl
    have ef := HE6.out.free 0
    have el := HE6.out.lt
    have k6 := HK6.out.cells 0 _ rfl
    have kl := HK6.out.lt
    by_cases h1 : ckD f cs = 0
    · have H1 : Hid (fitCode e0 e1 ps ts n f cs = 0) := Lib.hid (by unfold fitCode; rw [if_neg (by rw [H0.out]; simp), h1])
      have H2 : Hid (fitE e0 e1 ps ts n f cs = (ordL ps n).all (fitB e0 e1 ps f cs)) := Lib.hid (if_pos H1.out)
      have h1' : (ckD f cs == 0) = true := by simpa using h1
      have h1'' : (ckD f cs != 0) = false := by simpa using h1
      clear h1
      go_wp2_with fail
      refine (HP g w6).out.mono ?_
      rintro e w7 ⟨v, base, rfl, hbase, hit, hb7⟩
      obtain ⟨hv, hlt, hcx, hcn⟩ := hit
      subst hv
      have HG7 := Lib.hid (HG6.out.below hb7)
      have HK7 := Lib.hid (HK6.out.below hb7)
      have HD7 := Lib.hid (HD6.out.below hb7)
      have HR7 := Lib.hid (HR6.out.below hb7)
      have HE7 := Lib.hid (HE6.out.below hb7)
      have HBW7 := Lib.hid (HBW6.out.trans (hb7.mono HBW6.out.size))
      have HAT := fun (m : Int) w1 (hb : Below w.heap.size w w1) => HAT0 m w1 hb
      have hgl : g < w7.heap.size := HG7.out.bk.lt
      have hbg : w.heap.size + 1 + 1 + 1 < base := by have := HE6.out.lt; omega
      clear hb7 HAT0 HG6 HK6 HD6 HR6 HE6 HBW6 r6 rf rl e6 ef el k6 kl HP
      go_wp2_with fail
      have hd0 := HD7.out.cells 0 _ rfl
      have hd1 := HD7.out.cells 1 _ rfl
      have hdl := HD7.out.lt
      have hk0 := HK7.out.cells 0 _ rfl
      have hkl := HK7.out.lt
      have hel := HE7.out.lt
      have hwl := HBW7.out.size
      refine range_proofs w7 3 base g n A c ps w.heap.size (by rfl) (by rfl) hcx HG7.out.bk.c2 hcn ((HA.out.ra).below HBW7.out) HBW7.out.size hlt HG7.out.bk.lt HG7.out.ok.lp (fun p hp => (HG7.out.ok.pr p hp).1) HG7.out.ok.once (fun k => k = w.heap.size + 1 + 1 ∨ k = w.heap.size + 1 + 1 + 1) (fun k hk => by rcases hk with rfl | rfl <;> omega) (fun S pre W => Blk W (w.heap.size + 1 + 1) [.bool false] ∧ Blk W (w.heap.size + 1 + 1 + 1) [.int .i64 0] ∧ pre.all (fitB e0 e1 ps f cs) = true) (fun pre W => Blk W (w.heap.size + 1 + 1) [.bool false] ∧ Blk W (w.heap.size + 1 + 1 + 1) [.int .i64 0] ∧ (ordL ps n).all (fitB e0 e1 ps f cs) = false) (fun S pre W W' h hs hk => ⟨h.1.block hs (hk _ (by omega) h.1.lt), h.2.1.block hs (hk _ (by omega) h.2.1.lt), h.2.2⟩) (fun pre W W' h hs hk => ⟨h.1.block hs (hk _ (by omega) h.1.lt), h.2.1.block hs (hk _ (by omega) h.2.1.lt), h.2.2⟩) ?_ ?_ ?_ ?_
      · intro S W hS hb
        exact ⟨HR7.out.below hb, HE7.out.below hb, rfl⟩
      · intro W1 rec S pre i W hz1 hbz hJ hU hpre
        have HJ := Lib.hid hJ
        have HU := Lib.hid hU
        have hmem : i ∈ ordL ps n := hpre.subset (by simp)
        have hi : i < ps.length := ordL_mem_lt i hmem
        have HMEM := Lib.hid hmem
        clear hJ hU hpre hmem
        rw [pAt_eq hi]
        unfold prV
        gi_wp2
        have hba := below_new W (.cells #[.int .i64 ps[i].b, .int .i64 ps[i].m, .int .i64 ps[i].k, .int .i64 ps[i].r] 57)
        have hS := HJ.out.hS
        have hSl := HJ.out.lt
        have hXl : ¬ (w7.heap.size + 1 = w.heap.size + 1 + 1 ∨ w7.heap.size + 1 = w.heap.size + 1 + 1 + 1) := by omega
        refine ⟨HJ.out.below (by omega) hXl hba, hba.block _ hSl, hba.size, ?_⟩
        have hJb := (HJ.out.below (by omega) hXl hba).put (by omega) .busy none
        have hPb := (Blk.new W [.int .i64 ps[i].b, .int .i64 ps[i].m, .int .i64 ps[i].k, .int .i64 ps[i].r] 57).block (w' := (W.alloc (.cells #[.int .i64 ps[i].b, .int .i64 ps[i].m, .int .i64 ps[i].k, .int .i64 ps[i].r] 57)).putObj (w7.heap.size + 1) (.loop (rec .busy none))) (by rw [putObj_size]; exact Nat.le_refl _) (World.putObj_heap_other (by have := HJ.out.size; omega))
        have hR := (HU.out.1.below hba).block (w' := (W.alloc (.cells #[.int .i64 ps[i].b, .int .i64 ps[i].m, .int .i64 ps[i].k, .int .i64 ps[i].r] 57)).putObj (w7.heap.size + 1) (.loop (rec .busy none))) (by rw [putObj_size]; exact Nat.le_refl _) (World.putObj_heap_other (by omega))
        have hE := (HU.out.2.1.below hba).block (w' := (W.alloc (.cells #[.int .i64 ps[i].b, .int .i64 ps[i].m, .int .i64 ps[i].k, .int .i64 ps[i].r] 57)).putObj (w7.heap.size + 1) (.loop (rec .busy none))) (by rw [putObj_size]; exact Nat.le_refl _) (World.putObj_heap_other (by omega))
        have hSb : ((W.alloc (.cells #[.int .i64 ps[i].b, .int .i64 ps[i].m, .int .i64 ps[i].k, .int .i64 ps[i].r] 57)).putObj (w7.heap.size + 1) (.loop (rec .busy none))).heap[S]? = (W.alloc (.cells #[.int .i64 ps[i].b, .int .i64 ps[i].m, .int .i64 ps[i].k, .int .i64 ps[i].r] 57)).heap[S]? := World.putObj_heap_other (by omega)
        have hzb : ((W.alloc (.cells #[.int .i64 ps[i].b, .int .i64 ps[i].m, .int .i64 ps[i].k, .int .i64 ps[i].r] 57)).putObj (w7.heap.size + 1) (.loop (rec .busy none))).heap.size = (W.alloc (.cells #[.int .i64 ps[i].b, .int .i64 ps[i].m, .int .i64 ps[i].k, .int .i64 ps[i].r] 57)).heap.size := putObj_size _ _ _
        generalize W.alloc (.cells #[.int .i64 ps[i].b, .int .i64 ps[i].m, .int .i64 ps[i].k, .int .i64 ps[i].r] 57) = Wa at *
        obtain ⟨Wb, hWb⟩ : ∃ Wb, Wa.putObj (w7.heap.size + 1) (.loop (rec .busy none)) = Wb := ⟨_, rfl⟩
        obtain ⟨pb8, hpb8⟩ : ∃ pb8, W.heap.size = pb8 := ⟨_, rfl⟩
        rw [hpb8] at hPb
        rw [hWb] at hJb hPb hR hE hSb hzb ⊢
        rw [hpb8]
        have hbl := hJb.bl (HBW7.out.trans (hbz.mono HBW7.out.size)) (fun k hk => by rcases hk with rfl | rfl <;> omega) (by omega)
        have hbl7 : ∀ b o v, b < w7.heap.size → ¬ (b = w.heap.size + 1 + 1 ∨ b = w.heap.size + 1 + 1 + 1) → w7.cell? ⟨b, o, none⟩ = some v → Wb.cell? ⟨b, o, none⟩ = some v := fun b o v h1 h2 h3 => (hJb.cell (b := b) (o := o) (by omega) h2 (by omega)).trans (hbz.at_ h1 h3)
        have y0 := hbl7 _ _ _ hdl (by omega) hd0
        have y1 := hbl7 _ _ _ hdl (by omega) hd1
        have y8 := hbl7 _ _ _ hkl (by omega) hk0
        have zb := hJb.size
        have l5 : w.heap.size + 1 < Wb.heap.size := by omega
        have l8 : kb < Wb.heap.size := by omega
        have hGb : Gd Wb g e0 e1 A c ps B d ts := ⟨⟨by have := HG7.out.bk.lt; omega, hbl7 _ _ _ HG7.out.bk.lt (by omega) HG7.out.bk.c0, hbl7 _ _ _ HG7.out.bk.lt (by omega) HG7.out.bk.c1, hbl7 _ _ _ HG7.out.bk.lt (by omega) HG7.out.bk.c2, hbl7 _ _ _ HG7.out.bk.lt (by omega) HG7.out.bk.c3⟩, HA.out.ra.next hbl, HA.out.rb.next hbl, HG7.out.cp, HG7.out.ct, HG7.out.ok⟩
        obtain ⟨pb0, off0, hPA, hGI⟩ := hGb.gi hi
        have HSP := Lib.hid (span_at hGI hi)
        have z0 := hPb.cells 0 _ rfl
        have z1 := hPb.cells 1 _ rfl
        have z2 := hPb.cells 2 _ rfl
        have z3 := hPb.cells 3 _ rfl
        have lp := hPb.lt
        have HFB : Hid (fitB e0 e1 ps f cs i = inB (valueD f cs ps[i].m) (spI e0 e1 ps i).1 (spI e0 e1 ps i).2) := Lib.hid (by unfold fitB; rw [pAt_eq hi])
        generalize ps[i].b = pb at *
        generalize ps[i].m = pm at *
        generalize ps[i].k = pk at *
        generalize ps[i].r = pr at *
        generalize spI e0 e1 ps i = S9 at *
        obtain ⟨slo, shi⟩ := S9
        have HJB := Lib.hid hJb
        have HR := Lib.hid hR
        have HE := Lib.hid hE
        have HSB := Lib.hid hSb
        have HZB := Lib.hid hzb
        have HBL := Lib.hid hbl
        clear hJb hR hE hSb hzb hWb hPb hba hbl hbl7 hGI hGb hpb8 hd0 hd1 hk0
        refine wpIn_block ?_
        gi_wp2_with fail
        refine ⟨trivial, call_round HSP.out ?_⟩
        rintro e W5 ⟨rfl, hb5⟩
        have ba := below_new W5 (.cells #[.int .i64 slo, .int .i64 shi] 36)
        have hV := Blk.new W5 [.int .i64 slo, .int .i64 shi] 36
        change Blk (W5.alloc (.cells #[.int .i64 slo, .int .i64 shi] 36)) _ _ at hV
        gi_wp2_with fail
        obtain ⟨W6, hW6⟩ : ∃ W6, W5.alloc (.cells #[.int .i64 slo, .int .i64 shi] 36) = W6 := ⟨_, rfl⟩
        obtain ⟨sb, hsb⟩ : ∃ sb, W5.heap.size = sb := ⟨_, rfl⟩
        rw [hW6, hsb] at hV
        rw [hW6] at ba
        rw [hW6, hsb]
        have hb6 := hb5.trans (ba.mono hb5.size)
        have y0 := hb6.at_ l5 y0
        have y1 := hb6.at_ l5 y1
        have z1 := hb6.at_ lp z1
        have l5 := Nat.lt_of_lt_of_le l5 hb6.size
        have lp := Nat.lt_of_lt_of_le lp hb6.size
        have v0 := hV.cells 0 _ rfl
        have v1 := hV.cells 1 _ rfl
        have ls := hV.lt
        have HB6 := Lib.hid hb6
        have HATW := Lib.hid (HBL.out.trans (hb6.mono HBL.out.size))
        have HATM := fun w5 (hb : Below W6.heap.size W6 w5) => HAT pm w5 (HATW.out.trans (hb.mono HATW.out.size))
        clear hV hb6 ba hb5 hW6 hsb HSP
        refine wp_invR 10 (by kernel_rfl) (by kernel_rfl) ?_ (by kernel_rfl) (by kernel_rfl) (by decide) (FL [PEq (.agg #[.int .i64 f, .slice QA cs.length cq]), PEq (.pointer (some ⟨pb8, 1, none⟩)), PEq (.int .i64 pm), PEq (.int .i64 (valueD f cs pm)), PEq (.pointer (some ⟨sb, 0, none⟩)), PEq (.int .i64 slo), PEq (.pointer (some ⟨sb, 1, none⟩)), PEq (.int .i64 shi), PEq (.bool (inB (valueD f cs pm) slo shi)), PEq (.bool (!inB (valueD f cs pm) slo shi))])
          (fun x => Below W6.heap.size W6 x) (fun x y => Below x.heap.size x y) (FL.keepB (by simp [stbB_eq])) (below_drew W6) ?_ ?_
        · rintro ⟨a9, w9, h9⟩; exact h9
        · intro iq o hi' ho listed vals a w5 hdep hM hAt K hK
          have HI := Lib.hid hM.inv
          match iq, hi' with
          | 0, _ =>
            injection ho with ho
            subst ho
            rw [if_pos (wantedN rfl)]
            obtain ⟨e5, e5'⟩ := hAt.slot 5 (by kernel_rfl) (by rfl)
            have q0 := HI.out.at_ l5 y0
            have q1 := HI.out.at_ l5 y1
            go_simp
            exact hK _ w5 (Below.refl _ _) HI.out rfl
          | 1, _ =>
            injection ho with ho
            subst ho
            rw [if_pos (wantedN rfl)]
            obtain ⟨e12, e12'⟩ := hAt.slot 12 (by kernel_rfl) (by rfl)
            go_simp
            exact hK _ w5 (Below.refl _ _) HI.out rfl
          | 2, _ =>
            injection ho with ho
            subst ho
            rw [if_pos (wantedN rfl)]
            have l1 := hdep ⟨1, .data⟩ (by simp) rfl
            obtain ⟨x1, x1'⟩ := hAt.dep 1 (d := 37) (by omega) l1 (by rfl) (hM.fact 1 (by omega) l1)
            have q0 := HI.out.at_ lp z1
            go_simp
            exact hK _ w5 (Below.refl _ _) HI.out rfl
          | 3, _ =>
            injection ho with ho
            subst ho
            rw [if_pos (wantedN rfl)]
            have l0 := hdep ⟨0, .data⟩ (by simp) rfl
            obtain ⟨x0, x0'⟩ := hAt.dep 0 (d := 36) (by omega) l0 (by rfl) (hM.fact 0 (by omega) l0)
            have l2 := hdep ⟨2, .data⟩ (by simp) rfl
            obtain ⟨x2, x2'⟩ := hAt.dep 2 (d := 38) (by omega) l2 (by rfl) (hM.fact 2 (by omega) l2)
            go_simp
            refine ((HATM w5 HI.out).out).mono ?_
            rintro e w6 ⟨rfl, hb6⟩
            exact hK _ w6 hb6 (HI.out.trans (hb6.mono HI.out.size)) rfl
          | 4, _ =>
            injection ho with ho
            subst ho
            rw [if_pos (wantedN rfl)]
            obtain ⟨e13, e13'⟩ := hAt.slot 13 (by kernel_rfl) (by rfl)
            go_simp
            exact hK _ w5 (Below.refl _ _) HI.out rfl
          | 5, _ =>
            injection ho with ho
            subst ho
            rw [if_pos (wantedN rfl)]
            have l4 := hdep ⟨4, .data⟩ (by simp) rfl
            obtain ⟨x4, x4'⟩ := hAt.dep 4 (d := 40) (by omega) l4 (by rfl) (hM.fact 4 (by omega) l4)
            have q0 := HI.out.at_ ls v0
            go_simp
            exact hK _ w5 (Below.refl _ _) HI.out rfl
          | 6, _ =>
            injection ho with ho
            subst ho
            rw [if_pos (wantedN rfl)]
            obtain ⟨e13, e13'⟩ := hAt.slot 13 (by kernel_rfl) (by rfl)
            go_simp
            exact hK _ w5 (Below.refl _ _) HI.out rfl
          | 7, _ =>
            injection ho with ho
            subst ho
            rw [if_pos (wantedN rfl)]
            have l6 := hdep ⟨6, .data⟩ (by simp) rfl
            obtain ⟨x6, x6'⟩ := hAt.dep 6 (d := 42) (by omega) l6 (by rfl) (hM.fact 6 (by omega) l6)
            have q0 := HI.out.at_ ls v1
            go_simp
            exact hK _ w5 (Below.refl _ _) HI.out rfl
          | 8, _ =>
            injection ho with ho
            subst ho
            rw [if_pos (wantedN rfl)]
            have l3 := hdep ⟨3, .data⟩ (by simp) rfl
            obtain ⟨x3, x3'⟩ := hAt.dep 3 (d := 39) (by omega) l3 (by rfl) (hM.fact 3 (by omega) l3)
            have l5 := hdep ⟨5, .data⟩ (by simp) rfl
            obtain ⟨x5, x5'⟩ := hAt.dep 5 (d := 41) (by omega) l5 (by rfl) (hM.fact 5 (by omega) l5)
            have l7 := hdep ⟨7, .data⟩ (by simp) rfl
            obtain ⟨x7, x7'⟩ := hAt.dep 7 (d := 43) (by omega) l7 (by rfl) (hM.fact 7 (by omega) l7)
            go_simp
            refine (in_any _ _ _ _).mono ?_
            rintro e w6 ⟨rfl, rfl⟩
            exact hK _ _ (Below.refl _ _) HI.out rfl
          | 9, _ =>
            injection ho with ho
            subst ho
            rw [if_pos (wantedN rfl)]
            have l8 := hdep ⟨8, .data⟩ (by simp) rfl
            obtain ⟨x8, x8'⟩ := hAt.dep 8 (d := 44) (by omega) l8 (by rfl) (hM.fact 8 (by omega) l8)
            go_simp
            exact hK _ w5 (Below.refl _ _) HI.out rfl
          | jq + 10, hq => exact absurd hq (by omega)
        · intro vals w5 hM
          have HI := Lib.hid hM.inv
          have f0 : vals 0 = .agg #[.int .i64 f, .slice QA cs.length cq] := hM.all (by decide) 0 (by omega)
          have f1 : vals 1 = .pointer (some ⟨pb8, 1, none⟩) := hM.all (by decide) 1 (by omega)
          have f2 : vals 2 = .int .i64 pm := hM.all (by decide) 2 (by omega)
          have f3 : vals 3 = .int .i64 (valueD f cs pm) := hM.all (by decide) 3 (by omega)
          have f4 : vals 4 = .pointer (some ⟨sb, 0, none⟩) := hM.all (by decide) 4 (by omega)
          have f5 : vals 5 = .int .i64 slo := hM.all (by decide) 5 (by omega)
          have f6 : vals 6 = .pointer (some ⟨sb, 1, none⟩) := hM.all (by decide) 6 (by omega)
          have f7 : vals 7 = .int .i64 shi := hM.all (by decide) 7 (by omega)
          have f8 : vals 8 = .bool (inB (valueD f cs pm) slo shi) := hM.all (by decide) 8 (by omega)
          have f9 : vals 9 = .bool (!inB (valueD f cs pm) slo shi) := hM.all (by decide) 9 (by omega)
          clear hM
          simp only [putAll, List.range, List.range.loop, List.foldl_cons, List.foldl_nil, f0, f1, f2, f3, f4, f5, f6, f7, f8, f9]
          clear f0 f1 f2 f3 f4 f5 f6 f7 f8 f9
          change wpAny _ _ _ _ _ _ (Act.put (Act.put (Act.put (Act.put (Act.put (Act.put (Act.put (Act.put (Act.put (Act.put _ (some 36) _) (some 37) _) (some 38) _) (some 39) _) (some 40) _) (some 41) _) (some 42) _) (some 43) _) (some 44) _) (some 45) _) _
          simp only [Act.put, List.setIfInBounds_toArray, List.set_cons_zero, List.set_cons_succ]
          refine wpAny_done (by kernel_rfl) ?_ _
          have HB7 := Lib.hid (HB6.out.trans (HI.out.mono HB6.out.size))
          have HR7 := Lib.hid (HR.out.below HB7.out)
          have HE7 := Lib.hid (HE.out.below HB7.out)
          have r6 := HR7.out.cells 0 _ rfl
          have rf := HR7.out.free 0
          have rl := HR7.out.lt
          have e6 := HE7.out.cells 0 _ rfl
          have ef := HE7.out.free 0
          have el := HE7.out.lt
          clear HI HATM HATW
          obtain ⟨bb, HBB⟩ : ∃ bb, Hid (inB (valueD f cs pm) slo shi = bb) := ⟨_, Lib.hid rfl⟩
          rw [HBB.out]
          rw [HBB.out] at HFB
          cases bb
          · gi_wp2_with fail
            have hwz : Wb.heap.size = Wa.heap.size := HZB.out
            have h7z := HB7.out.size
            have HB8 := HB7.out
            have hS1 := HJB.out.hS
            have hS2 := HJB.out.lt
            have hz1b := HJB.out.size
            have hfar : ∀ k, k < Wb.heap.size → ¬ (k = w.heap.size + 1 + 1 ∨ k = w.heap.size + 1 + 1 + 1) → ((w5.setCell ⟨w.heap.size + 1 + 1, 0, none⟩ (.bool false)).setCell ⟨w.heap.size + 1 + 1 + 1, 0, none⟩ (.int .i64 0)).heap[k]? = Wb.heap[k]? := fun k hk hne => (heap_far (by omega)).trans ((heap_far (by omega)).trans (HB8.block k hk))
            refine ⟨HJB.out.step (by omega) hXl HB8.os HB8.tape HB8.output (by simpa [World.setCell] using h7z) (fun k hk hx => hfar k (by omega) hx), (hfar S (by omega) (by omega)).trans HSB.out, by rw [← hwz]; simpa [World.setCell] using h7z, ?_, ?_, ?_⟩
            · exact ((HR7.out.set (j := 0) (by simp) (.bool false)).block (by simp [World.setCell]) (heap_far (by omega)))
            · exact ((HE7.out.block (w' := w5.setCell ⟨w.heap.size + 1 + 1, 0, none⟩ (.bool false)) (by simp [World.setCell]) (heap_far (by omega))).set (j := 0) (by simp) (.int .i64 0))
            · rw [List.all_eq_false]
              exact ⟨i, HMEM.out, by rw [HFB.out]; simp⟩
          · gi_wp2_with fail
            have hwz : Wb.heap.size = Wa.heap.size := HZB.out
            refine ⟨HJB.out.below (by omega) hXl HB7.out, (HB7.out.block S HJB.out.lt).trans HSB.out, by rw [← hwz]; exact HB7.out.size, HR7.out, HE7.out, ?_⟩
            rw [List.all_append, HU.out.2.2]
            simp [HFB.out]
      · intro W1 S W' hz1 hbz hs h1 h2 h3 h4 h5 hU
        have hbl : Below w.heap.size w W' := ⟨h1.trans HBW7.out.os, h2.trans HBW7.out.tape, h3.trans HBW7.out.output, Nat.le_trans HBW7.out.size hs, fun k hk => (h4 k (by omega) (by omega)).trans (HBW7.out.block k hk)⟩
        have HBL := Lib.hid hbl
        have H5 := Lib.hid h5
        have HALL := Lib.hid hU.2.2
        have r6 := hU.1.cells 0 _ rfl
        have rf := hU.1.free 0
        have rl := hU.1.lt
        have e6 := hU.2.1.cells 0 _ rfl
        have ef := hU.2.1.free 0
        have el := hU.2.1.lt
        clear hbl h1 h2 h3 h4 h5 hU hbz hz1 hd0 hd1 hk0
        go_wp2_with fail
        have q6 : ((W'.setCell ⟨w.heap.size + 1 + 1, 0, none⟩ (.bool true)).setCell ⟨w.heap.size + 1 + 1 + 1, 0, none⟩ (.int .i64 0)).cell? ⟨w.heap.size + 1 + 1, 0, none⟩ = some (.bool true) := (cell_far (by omega)).trans (World.cell?_setCell_same _ _ _ r6)
        have q7 : ((W'.setCell ⟨w.heap.size + 1 + 1, 0, none⟩ (.bool true)).setCell ⟨w.heap.size + 1 + 1 + 1, 0, none⟩ (.int .i64 0)).cell? ⟨w.heap.size + 1 + 1 + 1, 0, none⟩ = some (.int .i64 0) := World.cell?_setCell_same _ _ _ ((cell_far (by omega)).trans e6)
        have h5' : ((W'.setCell ⟨w.heap.size + 1 + 1, 0, none⟩ (.bool true)).setCell ⟨w.heap.size + 1 + 1 + 1, 0, none⟩ (.int .i64 0)).heap[w7.heap.size]? = some (.deferred (some [])) := (heap_far (by omega)).trans ((heap_far (by omega)).trans H5.out)
        refine ⟨by simp, .inl ⟨_, _, rfl, run_takeDeferred h5', ?_⟩⟩
        have hbs := (HBL.out.setCell (p := ⟨w.heap.size + 1 + 1, 0, none⟩) (by show w.heap.size ≤ w.heap.size + 1 + 1; omega) (.bool true)).setCell (p := ⟨w.heap.size + 1 + 1 + 1, 0, none⟩) (by show w.heap.size ≤ w.heap.size + 1 + 1 + 1; omega) (.int .i64 0)
        generalize (W'.setCell ⟨w.heap.size + 1 + 1, 0, none⟩ (.bool true)).setCell ⟨w.heap.size + 1 + 1 + 1, 0, none⟩ (.int .i64 0) = Z at q6 q7 h5' hbs ⊢
        have q6' : (Z.putObj w7.heap.size (.deferred none)).cell? ⟨w.heap.size + 1 + 1, 0, none⟩ = some (.bool true) := (World.cell?_of_block (a := ⟨w.heap.size + 1 + 1, 0, none⟩) (World.putObj_heap_other (show w.heap.size + 1 + 1 ≠ w7.heap.size by omega))).trans q6
        have q7' : (Z.putObj w7.heap.size (.deferred none)).cell? ⟨w.heap.size + 1 + 1 + 1, 0, none⟩ = some (.int .i64 0) := (World.cell?_of_block (a := ⟨w.heap.size + 1 + 1 + 1, 0, none⟩) (World.putObj_heap_other (show w.heap.size + 1 + 1 + 1 ≠ w7.heap.size by omega))).trans q7
        refine ⟨.tuple #[.bool true, .int .i64 0], by simp [results, Tryz.results39, go_sem, q6', q7'], retB (by rw [H2.out, HALL.out]) H1.out.symm, ?_⟩
        exact ⟨hbs.os, hbs.tape, hbs.output, by rw [putObj_size]; exact hbs.size, fun k hk => (World.putObj_heap_other (by omega)).trans (hbs.block k hk)⟩
      · intro W1 pre W' hz1 hbz hs h1 h2 h3 h4 h5 hU
        have hbl : Below w.heap.size w W' := ⟨h1.trans HBW7.out.os, h2.trans HBW7.out.tape, h3.trans HBW7.out.output, Nat.le_trans HBW7.out.size hs, fun k hk => (h4 k (by omega) (by omega)).trans (HBW7.out.block k hk)⟩
        have HBL := Lib.hid hbl
        have H5 := Lib.hid h5
        have HALL := Lib.hid hU.2.2
        have r6 := hU.1.cells 0 _ rfl
        have e6 := hU.2.1.cells 0 _ rfl
        have rl := hU.1.lt
        have el := hU.2.1.lt
        clear hbl h1 h2 h3 h4 h5 hU hbz hz1 hd0 hd1 hk0
        gi_wp2_with fail
        refine ⟨by simp, .inl ⟨_, _, rfl, run_takeDeferred H5.out, ?_⟩⟩
        have q6' : (W'.putObj w7.heap.size (.deferred none)).cell? ⟨w.heap.size + 1 + 1, 0, none⟩ = some (.bool false) := (World.cell?_of_block (a := ⟨w.heap.size + 1 + 1, 0, none⟩) (World.putObj_heap_other (show w.heap.size + 1 + 1 ≠ w7.heap.size by omega))).trans r6
        have q7' : (W'.putObj w7.heap.size (.deferred none)).cell? ⟨w.heap.size + 1 + 1 + 1, 0, none⟩ = some (.int .i64 0) := (World.cell?_of_block (a := ⟨w.heap.size + 1 + 1 + 1, 0, none⟩) (World.putObj_heap_other (show w.heap.size + 1 + 1 + 1 ≠ w7.heap.size by omega))).trans e6
        refine ⟨.tuple #[.bool false, .int .i64 0], by simp [results, Tryz.results39, go_sem, q6', q7'], retB (by rw [H2.out, HALL.out]) H1.out.symm, ?_⟩
        exact ⟨HBL.out.os, HBL.out.tape, HBL.out.output, by rw [putObj_size]; exact HBL.out.size, fun k hk => (World.putObj_heap_other (by omega)).trans (HBL.out.block k hk)⟩
    · have H1 : Hid (fitCode e0 e1 ps ts n f cs = ckD f cs) := Lib.hid (by unfold fitCode; rw [if_neg (by rw [H0.out]; simp)])
      have H2 := Lib.hid h1
      have h1' : (ckD f cs == 0) = false := by simpa using h1
      have h1'' : (ckD f cs != 0) = true := by simpa using h1
      clear h1
      go_wp2_with fail
      have q6 : ((w6.setCell ⟨w.heap.size + 1 + 1, 0, none⟩ (.bool false)).setCell ⟨w.heap.size + 1 + 1 + 1, 0, none⟩ (.int .i64 (ckD f cs))).cell? ⟨w.heap.size + 1 + 1, 0, none⟩ = some (.bool false) := (cell_far (by omega)).trans (World.cell?_setCell_same _ _ _ r6)
      have q7 : ((w6.setCell ⟨w.heap.size + 1 + 1, 0, none⟩ (.bool false)).setCell ⟨w.heap.size + 1 + 1 + 1, 0, none⟩ (.int .i64 (ckD f cs))).cell? ⟨w.heap.size + 1 + 1 + 1, 0, none⟩ = some (.int .i64 (ckD f cs)) := World.cell?_setCell_same _ _ _ ((cell_far (by omega)).trans e6)
      exact ⟨.tuple #[.bool false, .int .i64 (ckD f cs)], by simp [results, Tryz.results39, go_sem, q6, q7], retB (by unfold fitE; rw [if_neg (by rw [H1.out]; exact H2.out)]) H1.out.symm, (HBW6.out.setCell (p := ⟨w.heap.size + 1 + 1, 0, none⟩) (by simp; omega) _).setCell (p := ⟨w.heap.size + 1 + 1 + 1, 0, none⟩) (by simp; omega) _⟩
  · have hbw := hbw.trans (hb1.mono hbw.size)
    have R1 := R4.below hb1
    have E1 := E4.below hb1
    have r6 := R1.cells 0 _ rfl
    have rf := R1.free 0
    have rl := R1.lt
    have e6 := E1.cells 0 _ rfl
    have ef := E1.free 0
    have el := E1.lt
    have H0 := Lib.hid h0
    have H1 : Hid (fitCode e0 e1 ps ts n f cs = askCode (ckBook e0 e1 ps ts) n 0) := Lib.hid (if_pos h0)
    have h0' : (askCode (ckBook e0 e1 ps ts) n 0 == 0) = false := by simpa using h0
    have h0'' : (askCode (ckBook e0 e1 ps ts) n 0 != 0) = true := by simpa using h0
    have b5 := below_new w1 (.cells #[.pointer none] 146)
    clear HC HCD h0 hb1 D4 R4 E4 q0 R1 E1
    go_wp2_with fail
    have q6 : ((w1.setCell ⟨w.heap.size + 1 + 1, 0, none⟩ (.bool false)).setCell ⟨w.heap.size + 1 + 1 + 1, 0, none⟩ (.int .i64 (askCode (ckBook e0 e1 ps ts) n 0))).cell? ⟨w.heap.size + 1 + 1, 0, none⟩ = some (.bool false) := (cell_far (by omega)).trans (World.cell?_setCell_same _ _ _ r6)
    have q7 : ((w1.setCell ⟨w.heap.size + 1 + 1, 0, none⟩ (.bool false)).setCell ⟨w.heap.size + 1 + 1 + 1, 0, none⟩ (.int .i64 (askCode (ckBook e0 e1 ps ts) n 0))).cell? ⟨w.heap.size + 1 + 1 + 1, 0, none⟩ = some (.int .i64 (askCode (ckBook e0 e1 ps ts) n 0)) := World.cell?_setCell_same _ _ _ ((cell_far (by omega)).trans e6)
    have hbs := (hbw.setCell (p := ⟨w.heap.size + 1 + 1, 0, none⟩) (by show w.heap.size ≤ w.heap.size + 1 + 1; omega) (.bool false)).setCell (p := ⟨w.heap.size + 1 + 1 + 1, 0, none⟩) (by show w.heap.size ≤ w.heap.size + 1 + 1 + 1; omega) (.int .i64 (askCode (ckBook e0 e1 ps ts) n 0))
    have rl' : w.heap.size + 1 + 1 < ((w1.setCell ⟨w.heap.size + 1 + 1, 0, none⟩ (.bool false)).setCell ⟨w.heap.size + 1 + 1 + 1, 0, none⟩ (.int .i64 (askCode (ckBook e0 e1 ps ts) n 0))).heap.size := by simpa [World.setCell] using rl
    have el' : w.heap.size + 1 + 1 + 1 < ((w1.setCell ⟨w.heap.size + 1 + 1, 0, none⟩ (.bool false)).setCell ⟨w.heap.size + 1 + 1 + 1, 0, none⟩ (.int .i64 (askCode (ckBook e0 e1 ps ts) n 0))).heap.size := by simpa [World.setCell] using el
    generalize (w1.setCell ⟨w.heap.size + 1 + 1, 0, none⟩ (.bool false)).setCell ⟨w.heap.size + 1 + 1 + 1, 0, none⟩ (.int .i64 (askCode (ckBook e0 e1 ps ts) n 0)) = Z at q6 q7 hbs rl' el' ⊢
    have ba := below_new Z (.cells #[.pointer none] 146)
    have q6 := ba.at_ rl' q6
    have q7 := ba.at_ el' q7
    exact ⟨.tuple #[.bool false, .int .i64 (askCode (ckBook e0 e1 ps ts) n 0)], by simp [results, Tryz.results39, go_sem, q6, q7], retB (by unfold fitE; rw [if_neg (by rw [H1.out]; exact H0.out)]) H1.out.symm, hbs.trans (ba.mono hbs.size)⟩
end Go.Proofs.YtcdjoegihmfanaaGreat
namespace Go.Proofs.YtcdjoegihmfanaaGreat
open Go.RowKit
set_option linter.unusedVariables false
theorem news_new (w : World) (cs : List Value) (t : TypeId) {H : Nat} (hH : w.heap.size = H) : ∀ j u, cs[j]? = some u → (w.alloc (.cells cs.toArray t)).cell? ((⟨H, 0, none⟩ : Addr).add j) = some u :=
  (Rd.new w cs t hH).news
/-- Bytes as cells. -/
def bytes (zs : List Int) : List Value := zs.map (Value.int .u8)
/-- A chute, in a block of its own. -/
structure Ch (w : World) (g : Nat) (L : Option Addr) (c : Nat) (zs : List Int) (u s : Int) : Prop where
  lt : g < w.heap.size
  load : w.cell? ⟨g, 0, none⟩ = some (.slice L zs.length c)
  used : w.cell? ⟨g, 1, none⟩ = some (.int .i64 u)
  stir : w.cell? ⟨g, 2, none⟩ = some (.int .u64 s)
  u0 : 0 ≤ u
  u1 : u ≤ zs.length
  s0 : 0 ≤ s
  s1 : s < 18446744073709551616
  free : ∀ o, w.frozen? ⟨g, o, none⟩ = false
  rd : Rd w g L (bytes zs)
  bd : ∀ z ∈ zs, 0 ≤ z ∧ z ≤ 255
  len : zs.length ≤ 140737488355328
theorem wrapU_bd (x : Int) : 0 ≤ IntKind.u64.wrap x ∧ IntKind.u64.wrap x < 18446744073709551616 := by
  have h : IntKind.u64.wrap x = x % 18446744073709551616 := by simp [IntKind.wrap, IntKind.signed, IntKind.bits]
  rw [h]; omega
theorem wrapU_in {x : Int} (h0 : 0 ≤ x) (h1 : x < 18446744073709551616) : IntKind.u64.wrap x = x := by
  have h : IntKind.u64.wrap x = x % 18446744073709551616 := by simp [IntKind.wrap, IntKind.signed, IntKind.bits]
  rw [h]; omega
theorem Ch.stir2 {w : World} {g : Nat} {L : Option Addr} {c : Nat} {zs : List Int} {u s : Int} (h : Ch w g L c zs u s) (X Y : Int) (h0 : 0 ≤ Y) (h1 : Y < 18446744073709551616) :
    Ch (((w.setCell ⟨g, 2, none⟩ (.int .u64 X)).drew).setCell ⟨g, 2, none⟩ (.int .u64 Y)) g L c zs u Y ∧ w.grownBy (((w.setCell ⟨g, 2, none⟩ (.int .u64 X)).drew).setCell ⟨g, 2, none⟩ (.int .u64 Y)) (some g) := by
  have hc : ∀ o u, ¬ o = 2 → w.cell? ⟨g, o, none⟩ = some u → (((w.setCell ⟨g, 2, none⟩ (.int .u64 X)).drew).setCell ⟨g, 2, none⟩ (.int .u64 Y)).cell? ⟨g, o, none⟩ = some u := fun o u ho hu => by
    rw [cell_far' ho]
    exact (cell_far' (w := w) ho).trans hu
  refine ⟨⟨by simpa [World.setCell] using h.lt, hc 0 _ (by omega) h.load, hc 1 _ (by omega) h.used, World.cell?_setCell_same _ _ _ (World.cell?_setCell_same w _ (.int .u64 X) h.stir), h.u0, h.u1, h0, h1, fun o => by simpa using h.free o, ?_, h.bd, h.len⟩, ?_⟩
  · exact h.rd.keep fun b o hb => (cell_far (by omega)).trans (cell_far (w := w) (by omega))
  · exact grownBy_trans (only_drewN (grownBy_setCell w g 2 (.int .u64 X)) 1) (grownBy_setCell _ _ _ _)
/-- The call has left the chute a chute, and done nothing else. -/
def Pulled (g : Nat) (L : Option Addr) (c : Nat) (zs : List Int) (W w' : World) : Prop := (∃ u s, Ch w' g L c zs u s) ∧ W.grownBy w' (some g)
set_option maxRecDepth 100000 in
set_option maxHeartbeats 1000000 in
theorem mix_any (g : Nat) (L : Option Addr) (c : Nat) (zs : List Int) (u s b : Int) (w : World) (hC : Ch w g L c zs u s) (b0 : 0 ≤ b) (b1 : b ≤ 255) :
    Calls Tryz.prog 106 #[.pointer (some ⟨g, 0, none⟩), .int .u8 b] w fun e w' => e = .returned (.tuple #[]) ∧ (∃ s', Ch w' g L c zs u s') ∧ w.grownBy w' (some g) := by
  have c0 := hC.load
  have c1 := hC.used
  have c2 := hC.stir
  have f2 := hC.free 2
  have s0 := hC.s0
  have gl := hC.lt
  go_enter Tryz.func106, Tryz.ntmps106
  go_wp2_with fail
  go_still_tail 22, (by kernel_rfl)
  go_upto_region 1 with (fail)
  generalize (bits BinOp.xor IntKind.u64 s (IntKind.u64.wrap (IntKind.u64.wrap (b + 11400714819323198485 + IntKind.u64.wrap (s * 64)) + s / 4))) = X
  have d2 : ((w.setCell ⟨g, 2, none⟩ (.int .u64 X)).drew).cell? ⟨g, 2, none⟩ = some (.int .u64 X) := World.cell?_setCell_same _ _ _ c2
  have d3 : ((w.setCell ⟨g, 2, none⟩ (.int .u64 X)).drew).frozen? ⟨g, 2, none⟩ = false := by simpa using f2
  have HS := Lib.hid (fun Y => hC.stir2 X Y)
  generalize (w.setCell ⟨g, 2, none⟩ (.int .u64 X)).drew = W2 at d2 d3 HS ⊢
  go_wp2_with fail
  obtain ⟨y0, y1⟩ := wrapU_bd (IntKind.u64.wrap (X * 2685821657736338717) + 1)
  obtain ⟨h1, h2⟩ := HS.out _ y0 y1
  go_end0
  exact ⟨rfl, ⟨_, h1⟩, h2⟩
theorem Ch.drewN {w : World} {g : Nat} {L : Option Addr} {c : Nat} {zs : List Int} {u s : Int} (h : Ch w g L c zs u s) (n : Nat) : Ch (w.drewN n) g L c zs u s := ⟨h.lt, h.load, h.used, h.stir, h.u0, h.u1, h.s0, h.s1, h.free, h.rd, h.bd, h.len⟩
theorem Ch.next {w : World} {g : Nat} {L : Option Addr} {c : Nat} {zs : List Int} {u s : Int} (h : Ch w g L c zs u s) (v : Int) (h0 : 0 ≤ v) (h1 : v ≤ zs.length) : Ch (w.setCell ⟨g, 1, none⟩ (.int .i64 v)) g L c zs v s :=
  ⟨by simpa [World.setCell] using h.lt, (cell_far' (by omega)).trans h.load, World.cell?_setCell_same _ _ _ h.used, (cell_far' (by omega)).trans h.stir, h0, h1, h.s0, h.s1, fun o => by simpa using h.free o, h.rd.keep fun b o hb => cell_far (by omega), h.bd, h.len⟩
theorem Ch.byte {w : World} {g : Nat} {L : Option Addr} {c : Nat} {zs : List Int} {u s : Int} (h : Ch w g L c zs u s) {k : Nat} (hk : k < zs.length) : ∃ b off, L = some ⟨b, off, none⟩ ∧ w.cell? ⟨b, off + k, none⟩ = some (.int .u8 zs[k]) := by
  obtain ⟨b, off, e, hb, hc⟩ := h.rd.at_ (k := k) (by simpa [bytes] using hk)
  refine ⟨b, off, e, ?_⟩
  simpa [bytes] using hc
/-- The call pulls a number below n. -/
def PullPost (g : Nat) (L : Option Addr) (c : Nat) (zs : List Int) (n : Int) (W : World) (e : Ending) (w' : World) : Prop :=
  ∃ r : Int, e = .returned (.int .i64 r) ∧ (n < 2 → r = 0) ∧ (2 ≤ n → 0 ≤ r ∧ r < n) ∧ (∃ u s, Ch w' g L c zs u s) ∧ W.grownBy w' (some g)
theorem Ch.byte' {w : World} {g b off : Nat} {c : Nat} {zs : List Int} {u s : Int} (h : Ch w g (some ⟨b, off, none⟩) c zs u s) {k : Nat} (hk : k < zs.length) : w.cell? ⟨b, off + k, none⟩ = some (.int .u8 zs[k]) := by
  obtain ⟨b', off', e, hc⟩ := h.byte hk
  injection e with e
  injection e with e1 e2
  subst e1 e2
  exact hc
theorem mod_bd {a n : Int} (h : 2 ≤ n) : 0 ≤ a % n ∧ a % n < n := ⟨Int.emod_nonneg _ (by omega), Int.emod_lt_of_pos _ (by omega)⟩
set_option maxRecDepth 100000 in
set_option maxHeartbeats 4000000 in
theorem pull_any (g : Nat) (L : Option Addr) (c : Nat) (zs : List Int) (u s n : Int) (w : World) (hC : Ch w g L c zs u s) (hn : n ≤ 1000000000000) :
    Calls Tryz.prog 31 #[.pointer (some ⟨g, 0, none⟩), .int .i64 n] w (PullPost g L c zs n w) := by
  obtain ⟨k, rfl⟩ := Int.eq_ofNat_of_zero_le hC.u0
  have c0 := hC.load
  have c1 := hC.used
  have c2 := hC.stir
  have gl := hC.lt
  have u1 := hC.u1
  have s0 := hC.s0
  have s1 := hC.s1
  have f1 := hC.free 1
  have hl := hC.len
  by_cases h2 : n < 2
  · go_enter Tryz.func31, Tryz.ntmps31
    go_wp2_with fail
    go_ret
    exact ⟨0, rfl, fun _ => rfl, fun h => by omega, ⟨_, s, hC⟩, grownBy_self _ _⟩
  · by_cases hz : zs.length = 0
    · have hz' : ((zs.length : Int) == 0) = true := by rw [beq_iff_eq]; omega
      have HZ := Lib.hid hz
      clear hz
      go_enter Tryz.func31, Tryz.ntmps31
      go_wp2_with fail
      go_ret
      exact ⟨0, rfl, fun _ => rfl, fun h => by omega, ⟨_, s, hC⟩, grownBy_self _ _⟩
    · have hz' : ((zs.length : Int) == 0) = false := by rw [beq_eq_false_iff_ne]; omega
      have hzp : 0 < zs.length := by omega
      have HZ := Lib.hid hz
      clear hz
      have k0 : (0 : Int) ≤ (k : Int) := by omega
      have k1 : (0 : Int) ≤ (k : Int) + 1 := by omega
      by_cases h34 : (k : Int) + 1 < zs.length ∧ 256 < n
      · obtain ⟨h3, h4⟩ := h34
        obtain ⟨b, off, rfl, x1⟩ := hC.byte (k := k) (by omega)
        have x2 := hC.byte' (k := k + 1) (by omega)
        obtain ⟨a0, a1⟩ := hC.bd zs[k] (List.getElem_mem _)
        obtain ⟨a2, a3⟩ := hC.bd zs[k + 1] (List.getElem_mem _)
        generalize zs[k]'(by omega) = y1 at *
        generalize zs[k + 1]'(by omega) = y2 at *
        have hk2 : (k : Int) < zs.length := by omega
        go_enter Tryz.func31, Tryz.ntmps31
        go_wp2_with fail
        have q1 : IntKind.i64.wrap ((k : Int) + 1) = (k : Int) + 1 := IntWalk.i64_in _ (by omega)
        have q3 : ((k : Int) + 1).toNat = k + 1 := by omega
        go_quiet (fail)
        go_wp2_with fail
        go_quiet (fail)
        clear q1 q3
        go_wp2_with fail
        refine (mix_any g _ c zs _ s y1 _ ((hC.drewN _).next ((k : Int) + 2) (by omega) (by omega)) a0 a1).mono ?_
        rintro e w1 ⟨rfl, ⟨s1', hC1⟩, hg1⟩
        go_wp2_with fail
        refine (mix_any g _ c zs _ s1' y2 _ hC1 a2 a3).mono ?_
        rintro e w2 ⟨rfl, ⟨s2', hC2⟩, hg2⟩
        go_wp2_with fail
        go_ret
        obtain ⟨m0, m1⟩ := mod_bd (a := 256 * y1 + y2) (show 2 ≤ n by omega)
        exact ⟨_, rfl, fun h => by omega, fun _ => ⟨m0, m1⟩, ⟨_, s2', hC2⟩, grownBy_trans (grownBy_trans (grownBy_trans (only_drewN (grownBy_self _ _) _) (grownBy_setCell _ _ _ _)) hg1) hg2⟩
      · by_cases hkl : (k : Int) < zs.length
        · obtain ⟨b, off, rfl, x1⟩ := hC.byte (k := k) (by omega)
          obtain ⟨a0, a1⟩ := hC.bd zs[k] (List.getElem_mem _)
          generalize zs[k]'(by omega) = y1 at *
          by_cases h3 : (k : Int) + 1 < zs.length
          · have h4 : ¬ 256 < n := fun h => h34 ⟨h3, h⟩
            clear h34
            go_enter Tryz.func31, Tryz.ntmps31
            go_wp2_with fail
            have q1 : IntKind.i64.wrap ((k : Int) + 1) = (k : Int) + 1 := IntWalk.i64_in _ (by omega)
            go_quiet (fail)
            clear q1
            go_wp2_with fail
            go_quiet (fail)
            go_wp2_with fail
            go_quiet (fail)
            go_wp2_with fail
            refine (mix_any g _ c zs _ s y1 _ ((hC.drewN _).next ((k : Int) + 1) (by omega) (by omega)) a0 a1).mono ?_
            rintro e w1 ⟨rfl, ⟨s1', hC1⟩, hg1⟩
            go_wp2_with fail
            go_ret
            obtain ⟨m0, m1⟩ := mod_bd (a := y1) (show 2 ≤ n by omega)
            exact ⟨_, rfl, fun h => by omega, fun _ => ⟨m0, m1⟩, ⟨_, s1', hC1⟩, grownBy_trans (grownBy_trans (only_drewN (grownBy_self _ _) _) (grownBy_setCell _ _ _ _)) hg1⟩
          · have h3' : decide ((k : Int) + 1 < zs.length) = false := decide_eq_false h3
            clear h34
            go_enter Tryz.func31, Tryz.ntmps31
            go_wp2_with fail
            have q1 : IntKind.i64.wrap ((k : Int) + 1) = (k : Int) + 1 := IntWalk.i64_in _ (by omega)
            go_quiet (fail)
            clear q1
            go_wp2_with fail
            go_quiet (fail)
            go_wp2_with fail
            go_quiet (fail)
            go_wp2_with fail
            refine (mix_any g _ c zs _ s y1 _ ((hC.drewN _).next ((k : Int) + 1) (by omega) (by omega)) a0 a1).mono ?_
            rintro e w1 ⟨rfl, ⟨s1', hC1⟩, hg1⟩
            go_wp2_with fail
            go_ret
            obtain ⟨m0, m1⟩ := mod_bd (a := y1) (show 2 ≤ n by omega)
            exact ⟨_, rfl, fun h => by omega, fun _ => ⟨m0, m1⟩, ⟨_, s1', hC1⟩, grownBy_trans (grownBy_trans (only_drewN (grownBy_self _ _) _) (grownBy_setCell _ _ _ _)) hg1⟩
        · have h3 : ¬ (k : Int) + 1 < zs.length := by omega
          have h3' : decide ((k : Int) + 1 < zs.length) = false := decide_eq_false h3
          obtain ⟨m0, m1⟩ : 0 ≤ s % zs.length ∧ s % zs.length < zs.length := ⟨Int.emod_nonneg _ (by omega), Int.emod_lt_of_pos _ (by omega)⟩
          have hmz : (s % (zs.length : Int)).toNat < zs.length := by omega
          obtain ⟨b, off, rfl, x1⟩ := hC.byte (k := (s % (zs.length : Int)).toNat) hmz
          obtain ⟨a0, a1⟩ := hC.bd zs[(s % (zs.length : Int)).toNat] (List.getElem_mem _)
          generalize zs[(s % (zs.length : Int)).toNat]'hmz = y1 at *
          clear h34
          go_enter Tryz.func31, Tryz.ntmps31
          go_wp2_with fail
          have q1 : IntKind.i64.wrap ((k : Int) + 1) = (k : Int) + 1 := IntWalk.i64_in _ (by omega)
          go_quiet (fail)
          clear q1
          go_wp2_with fail
          go_quiet (fail)
          go_wp2_with fail
          generalize hW2 : World.drewN (World.drewN w _) _ = W2
          have hC2 : Ch W2 g (some ⟨b, off, none⟩) c zs k s := by rw [← hW2]; exact (hC.drewN _).drewN _
          have hg2 : w.grownBy W2 (some g) := by rw [← hW2]; exact only_drewN (only_drewN (grownBy_self _ _) _) _
          have x2 : W2.cell? ⟨b, off + (s % (zs.length : Int)).toNat, none⟩ = some (.int .u8 y1) := by rw [← hW2]; exact x1
          clear hW2 c0 c1 c2 x1
          have c0 := hC2.load
          have c2 := hC2.stir
          have hl2 : (zs.length : Int) ≤ 140737488355328 := by omega
          have hl3 : (0 : Int) < zs.length := by omega
          have t1 : IntKind.u64.wrap (zs.length : Int) = (zs.length : Int) := wrapU_in (by omega) (by omega)
          have t2 : s.tmod (zs.length : Int) = s % (zs.length : Int) := Int.tmod_eq_emod_of_nonneg s0
          have t3 : IntKind.u64.wrap (s % (zs.length : Int)) = s % (zs.length : Int) := wrapU_in m0 (by omega)
          have t4 : IntKind.i64.wrap (s % (zs.length : Int)) = s % (zs.length : Int) := IntWalk.i64_in _ (by omega)
          have hzn : ¬ zs = [] := by rintro rfl; simp at hzp
          go_still_tail 19, (by kernel_rfl)
          go_wp2_with fail
          refine (mix_any g _ c zs _ s y1 _ (hC2.drewN 1) a0 a1).mono ?_
          rintro e w1 ⟨rfl, ⟨s1', hC1⟩, hg1⟩
          have e2 := hC1.stir
          have e0 := hC1.s0
          have e1 := hC1.s1
          have gl1 := hC1.lt
          clear t1 t2 t3 t4 c0 c2 hC2 x2
          have t1 : IntKind.u64.wrap n = n := wrapU_in (by omega) (by omega)
          have n0 : (0 : Int) < n := by omega
          have nn : ¬ n = 0 := by omega
          go_wp2_with fail
          go_ret
          obtain ⟨j0, j1⟩ := mod_bd (a := s1' / 1048576) (show 2 ≤ n by omega)
          refine ⟨_, rfl, fun h => by omega, fun _ => ?_, ⟨_, s1', hC1⟩, grownBy_trans hg2 (grownBy_trans (only_drewN (grownBy_self _ _) 1) hg1)⟩
          rw [IntWalk.wrap64_in _ (by omega)]
          exact ⟨j0, j1⟩
/-- The call makes a chute. -/
def FillPost (L : Option Addr) (c : Nat) (zs : List Int) (W : World) (e : Ending) (w' : World) : Prop :=
  ∃ g, e = .returned (.pointer (some ⟨g, 0, none⟩)) ∧ W.heap.size ≤ g ∧ Ch w' g L c zs 0 8191 ∧ Below W.heap.size W w'
/-- A list of bytes that came in. -/
structure Bytes (w : World) (L : Option Addr) (zs : List Int) : Prop where
  rd : Rd w w.heap.size L (bytes zs)
  bd : ∀ z ∈ zs, 0 ≤ z ∧ z ≤ 255
  len : zs.length ≤ 140737488355328
theorem Bytes.next {w w' : World} {L : Option Addr} {zs : List Int} (h : Bytes w L zs) (hb : Below w.heap.size w w') : Bytes w' L zs := ⟨h.rd.next hb, h.bd, h.len⟩
theorem fill_any (L : Option Addr) (c : Nat) (zs : List Int) (w : World) (hz : Bytes w L zs) :
    Calls Tryz.prog 29 #[.slice L zs.length c] w (FillPost L c zs w) := by
  go_enter Tryz.func29, Tryz.ntmps29
  go_wp2_with fail
  go_ret
  refine ⟨w.heap.size, rfl, Nat.le_refl _, ⟨by simp, by simp, by simp, by simp, by omega, by omega, by omega, by omega, fun o => by simp, ?_, hz.bd, hz.len⟩, by go_grown⟩
  exact hz.rd.keep fun b o hb => World.cell?_alloc_lt _ _ ⟨b, o, none⟩ hb
/-- The call pulls a number from lo to hi. -/
def BetweenPost (g : Nat) (L : Option Addr) (c : Nat) (zs : List Int) (lo hi : Int) (W : World) (e : Ending) (w' : World) : Prop :=
  ∃ r : Int, e = .returned (.int .i64 r) ∧ lo ≤ r ∧ r ≤ hi ∧ (∃ u s, Ch w' g L c zs u s) ∧ W.grownBy w' (some g)
theorem between_any (g : Nat) (L : Option Addr) (c : Nat) (zs : List Int) (u s lo hi : Int) (w : World) (hC : Ch w g L c zs u s) (h0 : -1000000000 ≤ lo) (h1 : lo ≤ hi) (h2 : hi ≤ 1000000000) :
    Calls Tryz.prog 107 #[.pointer (some ⟨g, 0, none⟩), .int .i64 lo, .int .i64 hi] w (BetweenPost g L c zs lo hi w) := by
  go_enter Tryz.func107, Tryz.ntmps107
  go_wp2_with fail
  refine (pull_any g L c zs u s _ w hC (by omega)).mono ?_
  rintro e w1 ⟨r, rfl, r1, r2, hC1, hg1⟩
  have hr : 0 ≤ r ∧ r ≤ hi - lo := by omega
  obtain ⟨q1, q2⟩ := hr
  have R1 := Lib.hid r1
  have R2 := Lib.hid r2
  have HC := Lib.hid hC1
  clear r1 r2 hC1
  go_wp2_with fail
  go_ret
  exact ⟨_, rfl, by omega, by omega, HC.out, hg1⟩
def ChE (w : World) (g : Nat) (L : Option Addr) (c : Nat) (zs : List Int) : Prop := ∃ u s, Ch w g L c zs u s
theorem pullE_any (g : Nat) (L : Option Addr) (c : Nat) (zs : List Int) (n : Int) (w : World) (hC : ChE w g L c zs) (hn : n ≤ 1000000000000) :
    Calls Tryz.prog 31 #[.pointer (some ⟨g, 0, none⟩), .int .i64 n] w (PullPost g L c zs n w) := by
  obtain ⟨u, s, h⟩ := hC
  exact pull_any g L c zs u s n w h hn
theorem betweenE_any (g : Nat) (L : Option Addr) (c : Nat) (zs : List Int) (lo hi : Int) (w : World) (hC : ChE w g L c zs) (h0 : -1000000000 ≤ lo) (h1 : lo ≤ hi) (h2 : hi ≤ 1000000000) :
    Calls Tryz.prog 107 #[.pointer (some ⟨g, 0, none⟩), .int .i64 lo, .int .i64 hi] w (BetweenPost g L c zs lo hi w) := by
  obtain ⟨u, s, h⟩ := hC
  exact between_any g L c zs u s lo hi w h h0 h1 h2
/-- A chute stays through what writes no block below its own end. -/
theorem ChE.keep {w w' : World} {g : Nat} {L : Option Addr} {c : Nat} {zs : List Int} (h : ChE w g L c zs) (hz : w.heap.size ≤ w'.heap.size) (hk : ∀ b, b ≤ g → w'.heap[b]? = w.heap[b]?) : ChE w' g L c zs := by
  obtain ⟨u, s, h⟩ := h
  have hc : ∀ b o, b ≤ g → w'.cell? ⟨b, o, none⟩ = w.cell? ⟨b, o, none⟩ := fun b o hb => World.cell?_of_block (a := ⟨b, o, none⟩) (hk b hb)
  exact ⟨u, s, Nat.lt_of_lt_of_le h.lt hz, (hc g 0 (Nat.le_refl _)).trans h.load, (hc g 1 (Nat.le_refl _)).trans h.used, (hc g 2 (Nat.le_refl _)).trans h.stir, h.u0, h.u1, h.s0, h.s1,
    fun o => (World.frozen?_of_block (a := ⟨g, o, none⟩) (hk g (Nat.le_refl _))).trans (h.free o), h.rd.keep fun b o hb => hc b o (Nat.le_of_lt hb), h.bd, h.len⟩
theorem ChE.below {w w' : World} {g : Nat} {L : Option Addr} {c : Nat} {zs : List Int} (h : ChE w g L c zs) (hb : Below w.heap.size w w') : ChE w' g L c zs := by
  have hg : g < w.heap.size := by obtain ⟨u, s, h⟩ := h; exact h.lt
  exact h.keep hb.size fun b hb' => hb.block b (by omega)
theorem ChE.lt {w : World} {g : Nat} {L : Option Addr} {c : Nat} {zs : List Int} (h : ChE w g L c zs) : g < w.heap.size := by obtain ⟨u, s, h⟩ := h; exact h.lt
theorem grown_new {a w w' : World} {g x : Nat} (h : a.grownBy w (some g)) (hg : w.grownBy w' (some x)) (hx : a.heap.size ≤ x) : a.grownBy w' (some g) :=
  ⟨hg.os.trans h.os, hg.tape.trans h.tape, hg.output.trans h.output, Nat.le_trans h.size hg.size, fun k hk hn => (hg.block k (Nat.lt_of_lt_of_le hk h.size) (by intro e; injection e; omega)).trans (h.block k hk hn)⟩
theorem grown_row {a w w' : World} {g : Nat} {row : Option Nat} (h : a.grownBy w (some g)) (hg : w.grownBy w' row) (hx : ∀ x, row = some x → a.heap.size ≤ x) : a.grownBy w' (some g) :=
  ⟨hg.os.trans h.os, hg.tape.trans h.tape, hg.output.trans h.output, Nat.le_trans h.size hg.size, fun k hk hn => (hg.block k (Nat.lt_of_lt_of_le hk h.size) (by intro e; have := hx k e.symm; omega)).trans (h.block k hk hn)⟩
theorem ChE.drewN {w : World} {g : Nat} {L : Option Addr} {c : Nat} {zs : List Int} (h : ChE w g L c zs) (n : Nat) : ChE (w.drewN n) g L c zs := by
  obtain ⟨u, s, h⟩ := h
  exact ⟨u, s, h.drewN n⟩
end Go.Proofs.YtcdjoegihmfanaaGreat
namespace Go.Proofs.YtcdjoegihmfanaaGreat
set_option linter.unusedVariables false
def lastV : Int → List (Int × Int) → Int
  | f, [] => f
  | _, c :: t => lastV c.2 t
theorem lastV_snoc (v : Int × Int) : ∀ (f : Int) (cs : List (Int × Int)), lastV f (cs ++ [v]) = v.2
  | _, [] => rfl
  | _, c :: t => lastV_snoc v c.2 t
theorem incD_snoc {v : Int × Int} : ∀ {cs : List (Int × Int)}, incD cs = true → (∀ c ∈ cs, c.1 < v.1) → incD (cs ++ [v]) = true
  | [], _, _ => rfl
  | [a], _, h => by simpa [incD] using h a (by simp)
  | a :: b :: t, hi, h => by
    simp only [incD, Bool.and_eq_true, decide_eq_true_eq] at hi
    have := incD_snoc (cs := b :: t) hi.2 fun c hc => h c (List.mem_cons_of_mem _ hc)
    simp only [List.cons_append, incD, Bool.and_eq_true, decide_eq_true_eq]
    exact ⟨hi.1, this⟩
theorem difD_snoc {v : Int × Int} : ∀ {cs : List (Int × Int)} {f : Int}, difD f cs = true → v.2 ≠ lastV f cs → difD f (cs ++ [v]) = true
  | [], f, _, h => by simpa [difD, lastV] using h
  | c :: t, f, hd, h => by
    simp only [difD, Bool.and_eq_true] at hd
    simp only [List.cons_append, difD, Bool.and_eq_true]
    exact ⟨hd.1, difD_snoc hd.2 h⟩
/-- Where MadeDrift stands. -/
structure DM (f : Int) (cs : List (Int × Int)) (mi la : Int) : Prop where
  f0 : -9 ≤ f ∧ f ≤ 9
  all : ∀ c ∈ cs, 1 ≤ c.1 ∧ c.1 ≤ mi ∧ -9 ≤ c.2 ∧ c.2 ≤ 9
  inc : incD cs = true
  dif : difD f cs = true
  la9 : -9 ≤ la ∧ la ≤ 9
  lav : la = lastV f cs
  m0 : 0 ≤ mi
theorem DM.start {f : Int} (h : -9 ≤ f ∧ f ≤ 9) : DM f [] 0 f := ⟨h, fun c hc => absurd hc (by simp), rfl, rfl, h, rfl, by omega⟩
theorem DM.later {f : Int} {cs : List (Int × Int)} {mi la d : Int} (h : DM f cs mi la) (hd : 0 ≤ d) : DM f cs (mi + d) la :=
  ⟨h.f0, fun c hc => by have := h.all c hc; omega, h.inc, h.dif, h.la9, h.lav, by have := h.m0; omega⟩
theorem DM.snoc {f : Int} {cs : List (Int × Int)} {mi la d v : Int} (h : DM f cs mi la) (hd : 1 ≤ d) (hv : -9 ≤ v ∧ v ≤ 9) (hn : v ≠ la) : DM f (cs ++ [(mi + d, v)]) (mi + d) v := by
  have hm := h.m0
  refine ⟨h.f0, fun c hc => ?_, incD_snoc h.inc fun c hc => ?_, difD_snoc h.dif (by rw [← h.lav]; exact hn), hv, (lastV_snoc (mi + d, v) f cs).symm, by omega⟩
  · rcases List.mem_append.1 hc with hc | hc
    · have := h.all c hc; omega
    · simp only [List.mem_singleton] at hc
      subst hc
      exact ⟨by show 1 ≤ mi + d; omega, by show mi + d ≤ mi + d; omega, hv.1, hv.2⟩
  · have := h.all c hc
    show c.1 < mi + d
    omega
/-- A made drift. -/
structure MdD (q : Int) (f : Int) (cs : List (Int × Int)) : Prop where
  ck : ckD f cs = 0
  len : (cs.length : Int) ≤ q
  f0 : -9 ≤ f ∧ f ≤ 9
  all : ∀ c ∈ cs, 1 ≤ c.1 ∧ c.1 ≤ 10000 ∧ -9 ≤ c.2 ∧ c.2 ≤ 9
  inc : incD cs = true
theorem DM.made {f : Int} {cs : List (Int × Int)} {mi la q : Int} (h : DM f cs mi la) (hm : mi ≤ 10000) (hl : (cs.length : Int) ≤ q) (hq : q ≤ 10) : MdD q f cs := by
  have hr : rngD f cs = true := by
    simp only [rngD, Bool.and_eq_true, decide_eq_true_eq, List.all_eq_true]
    refine ⟨by have := h.f0; omega, fun c hc => ?_⟩
    have := h.all c hc
    omega
  refine ⟨?_, hl, h.f0, fun c hc => ?_, h.inc⟩
  · unfold ckD
    rw [if_neg (by omega), hr, h.inc, h.dif]
    rfl
  · have := h.all c hc; omega
theorem MdD.bd {q f : Int} {cs : List (Int × Int)} (h : MdD q f cs) (m : Int) : -9 ≤ valueD f cs m ∧ valueD f cs m ≤ 9 := by
  have h0 := h.f0
  have ha := h.all
  clear h
  revert f
  induction cs with
  | nil => intro f h0; simpa [valueD] using h0
  | cons c t ih =>
    intro f h0
    rw [valueD_cons]
    have hc := ha c (by simp)
    exact ih (fun x hx => ha x (List.mem_cons_of_mem _ hx)) (by split <;> omega)
/-- A made proof of a bridge that has a drift. -/
structure MdP (e0 e1 : Int) (V : Int → Int → Int) (p : Pr) : Prop where
  b : p.b = 0 ∨ p.b = 1
  m : 0 ≤ p.m ∧ p.m ≤ 99
  k : 0 ≤ p.k ∧ p.k ≤ 800
  r : -(if p.b = 0 then e0 else e1) ≤ p.r - p.k - V p.b p.m ∧ p.r - p.k - V p.b p.m ≤ (if p.b = 0 then e0 else e1)
/-- A made trip with a net. -/
structure MdT (e0 e1 : Int) (V : Int → Int → Int) (net : Int) (t : Tr) : Prop where
  ib : t.ib = 0 ∨ t.ib = 1
  ob : t.ob = 0 ∨ t.ob = 1
  im : 0 ≤ t.im ∧ t.im ≤ 89
  om : t.im < t.om ∧ t.om ≤ t.im + 40
  mud : 0 ≤ t.mud ∧ t.mud ≤ 29
  or : -(if t.ob = 0 then e0 else e1) ≤ t.or - 500 - V t.ob t.om ∧ t.or - 500 - V t.ob t.om ≤ (if t.ob = 0 then e0 else e1)
  ir : -(if t.ib = 0 then e0 else e1) ≤ t.ir - 500 - net - V t.ib t.im ∧ t.ir - 500 - net - V t.ib t.im ≤ t.mud + (if t.ib = 0 then e0 else e1)
/-- The values of two drifts, by bridges. -/
def valB (f0 : Int) (c0 : List (Int × Int)) (f1 : Int) (c1 : List (Int × Int)) (b m : Int) : Int := if b = 0 then valueD f0 c0 m else valueD f1 c1 m
/-- A made book's proofs. -/
structure MdPs (e0 e1 : Int) (V : Int → Int → Int) (ps : List Pr) : Prop where
  h0 : 0 ≤ e0 ∧ e0 ≤ 3
  h1 : 0 ≤ e1 ∧ e1 ≤ 3
  all : ∀ p ∈ ps, MdP e0 e1 V p
  once : Once ps
theorem once_snoc {ps : List Pr} {p : Pr} (h : Once ps) (hn : ∀ q ∈ ps, ¬ (q.b = p.b ∧ q.m = p.m)) : Once (ps ++ [p]) := by
  intro i j hij hj hb
  rw [List.length_append, List.length_singleton] at hj
  have e1 : pAt (ps ++ [p]) i = pAt ps i := by unfold pAt; simp [List.getD_eq_getElem?_getD, List.getElem?_append_left (show i < ps.length by omega)]
  by_cases h5 : j < ps.length
  · have e2 : pAt (ps ++ [p]) j = pAt ps j := by unfold pAt; simp [List.getD_eq_getElem?_getD, List.getElem?_append_left h5]
    rw [e1, e2] at hb ⊢
    exact h i j hij h5 hb
  · have h6 : j = ps.length := by omega
    have e2 : pAt (ps ++ [p]) j = p := by subst h6; unfold pAt; simp [List.getD_eq_getElem?_getD]
    rw [e1, e2] at hb ⊢
    intro hm
    refine hn (pAt ps i) ?_ ⟨hb, hm⟩
    rw [pAt_eq (by omega)]
    exact List.getElem_mem _
theorem MdPs.snoc {e0 e1 : Int} {V : Int → Int → Int} {ps : List Pr} {p : Pr} (h : MdPs e0 e1 V ps) (hp : MdP e0 e1 V p) (hn : ∀ q ∈ ps, ¬ (q.b = p.b ∧ q.m = p.m)) : MdPs e0 e1 V (ps ++ [p]) :=
  ⟨h.h0, h.h1, fun q hq => by
    rcases List.mem_append.1 hq with hq | hq
    · exact h.all q hq
    · simp only [List.mem_singleton] at hq; subst hq; exact hp, once_snoc h.once hn⟩
/-- Each real drift fits. -/
theorem MdPs.fits {e0 e1 f0 f1 q : Int} {c0 c1 : List (Int × Int)} {ps : List Pr} (h : MdPs e0 e1 (valB f0 c0 f1 c1) ps) (h0 : MdD q f0 c0) (h1 : MdD q f1 c1) : fitsD e0 e1 ps 0 f0 c0 ∧ fitsD e0 e1 ps 1 f1 c1 := by
  have key : ∀ i, i < ps.length → (spI e0 e1 ps i).1 ≤ valB f0 c0 f1 c1 (pAt ps i).b (pAt ps i).m ∧ valB f0 c0 f1 c1 (pAt ps i).b (pAt ps i).m ≤ (spI e0 e1 ps i).2 := by
    intro i hi
    have hp := h.all (pAt ps i) (by rw [pAt_eq hi]; exact List.getElem_mem _)
    have hr := hp.r
    have b0 := h0.bd (pAt ps i).m
    have b1 := h1.bd (pAt ps i).m
    have bv : -9 ≤ valB f0 c0 f1 c1 (pAt ps i).b (pAt ps i).m ∧ valB f0 c0 f1 c1 (pAt ps i).b (pAt ps i).m ≤ 9 := by unfold valB; split <;> assumption
    unfold spI spanP
    generalize valB f0 c0 f1 c1 (pAt ps i).b (pAt ps i).m = x at *
    generalize (if (pAt ps i).b = 0 then e0 else e1) = e at *
    simp only
    omega
  refine ⟨fun i hi hb => ?_, fun i hi hb => ?_⟩
  · have := key i hi
    unfold valB at this
    rwa [if_pos hb] at this
  · have := key i hi
    unfold valB at this
    rwa [if_neg (by rw [hb]; decide)] at this
end Go.Proofs.YtcdjoegihmfanaaGreat
namespace Go.Proofs.YtcdjoegihmfanaaGreat
open Go.RowKit
set_option linter.unusedVariables false
set_option maxHeartbeats 1000000 in
theorem lat_any (f : Int) (A : Option Addr) (c : Nat) (cs : List (Int × Int)) (m : Int) (w : World) (hr : Rd w w.heap.size A (pairs cs)) (hl : cs.length ≤ 1000) :
    Calls Tryz.prog 41 #[drV f (.slice A cs.length c), .int .i64 m] w fun e w' => e = .returned (.int .i64 (valueD f cs m)) ∧ Below w.heap.size w w' := by
  have hB := fun (W : World) (hb : Below w.heap.size w W) => Lib.hid (hr.next hb)
  clear hr
  unfold drV
  go_enter Tryz.func41, Tryz.ntmps41
  go_wp2_with fail
  go_loopw [5, 13] (fun o i wr => ∃ k : Nat, k ≤ cs.length ∧ i = .int .i64 k ∧ o = .int .i64 (valueD f (cs.take k) m) ∧ Below w.heap.size w wr) (fun _ i _ => cs.length - (intOf i).toNat)
  case atStart => exact ⟨0, Nat.zero_le _, rfl, rfl, by go_grown⟩
  case round =>
    obtain ⟨k, hk, rfl, rfl, hb⟩ := hrel
    by_cases hlt : k < cs.length
    · have hs := valueD_succ (f := f) m hlt
      obtain ⟨b, off, rfl, hbb, c0, c1⟩ := (hB wr hb).out.pair hlt
      have HS := Lib.hid hs
      clear hs hB
      generalize cs[k] = q at *
      obtain ⟨q1, q2⟩ := q
      by_cases hq : q1 ≤ m
      all_goals
        go_wp2_with fail
        go_roundw
        case rel => exact ⟨k + 1, hlt, by go_num, by rw [HS.out]; first | rw [if_pos hq] | rw [if_neg hq], by first | exact hb.alloc hb.size _ | go_grown⟩
        case measure => simp [intOf]; omega
    · have hke : k = cs.length := by omega
      subst hke
      rw [List.take_length]
      go_wp2_with fail
      go_ret
      exact ⟨rfl, hb⟩
/-- A proof of a bridge at a minute. -/
def atBM (n m : Int) (q : Pr) : Bool := decide (q.b = n) && decide (q.m = m)
theorem predMade (n : Int) (p : Pr) (a b : Nat) (t : List Pr) (w : World) (ha : Blk w a [.int .i64 n]) (hb : Blk w b [.int .i64 p.b, .int .i64 p.m, .int .i64 p.k, .int .i64 p.r]) : Decides 105 #[.pointer (some ⟨a, 0, none⟩), .pointer (some ⟨b, 0, none⟩)] prV (atBM n p.m) t w := by
  intro W x hx hB
  have a1 := ha.below hB
  have b1 := hb.below hB
  have c0 := a1.cells 0 _ rfl
  have c1 := b1.cells 1 _ rfl
  have hl := a1.lt
  have hl2 := b1.lt
  unfold prV
  show Calls Tryz.prog 105 #[.agg #[.int .i64 x.b, .int .i64 x.m, .int .i64 x.k, .int .i64 x.r], .pointer (some ⟨a, 0, none⟩), .pointer (some ⟨b, 0, none⟩)] W _
  go_enter Tryz.func105, Tryz.ntmps105
  by_cases h1 : x.b = n
  all_goals
    by_cases h2 : x.m = p.m
    all_goals
      go_wp2_with fail
      go_ret
      exact ⟨ret_bool (by simp [atBM, h1, h2]), by go_grown⟩
end Go.Proofs.YtcdjoegihmfanaaGreat
