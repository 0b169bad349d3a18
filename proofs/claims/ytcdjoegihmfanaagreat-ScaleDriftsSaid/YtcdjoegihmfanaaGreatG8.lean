/- groups: the groups of a list of proofs. possible, grouped, Fewest. Find: a drift with the fewest changes. Value, Span. The laws' small functions: long, span, within. Two: the law's example of a book. A block through what writes another one. -/
import Derived.Test.YtcdjoegihmfanaaGreatG7
import Derived.Test.YtcdjoegihmfanaaGreatG5
import Derived.Test.YtcdjoegihmfanaaGreatG3
import Derived.Test.YtcdjoegihmfanaaGreatG6
import Derived.Test.YtcdjoegihmfanaaGreatG4
import Derived.Deep.AppendLies
import Derived.Test.YtcdjoegihmfanaaGreatG2
namespace Go.Proofs.YtcdjoegihmfanaaGreat
open Go.RowKit
set_option linter.unusedVariables false
theorem GrV.base {W : World} {base base' : Nat} {v : Value} {gs : List Gr} {vs : List Value} (h : GrV W base v gs vs) (hb : base' ≤ base) : GrV W base' v gs vs :=
  ⟨h.len, h.row.base_ hb, fun k g u h1 h2 => (h.each k g u h1 h2).base_ hb, h.apart, h.ne⟩
theorem growG_len {sp : Nat → Int × Int} {gs : List Gr} {i n : Nat} (h : gs.length ≤ n ∧ ∀ x ∈ gs, x.ps.length ≤ n) : (growG sp gs i).length ≤ n + 1 ∧ ∀ x ∈ growG sp gs i, x.ps.length ≤ n + 1 := by
  rcases List.eq_nil_or_concat gs with hg | ⟨gs0, gl, hg⟩
  · rw [hg]; simp [growG, newG]
  · rw [List.concat_eq_append] at hg
    rw [hg] at h ⊢
    simp only [growG, List.getLast?_concat, List.dropLast_concat]
    have h1 := h.1
    simp only [List.length_append, List.length_singleton] at h1
    split
    · refine ⟨by simp; omega, fun x hx => ?_⟩
      rcases List.mem_append.1 hx with q | q
      · exact Nat.le_succ_of_le (h.2 x (List.mem_append_left _ q))
      · rw [List.mem_singleton.1 q]
        have := h.2 gl (by simp)
        simp [addG]; omega
    · refine ⟨by simp; omega, fun x hx => ?_⟩
      rcases List.mem_append.1 hx with q | q
      · exact Nat.le_succ_of_le (h.2 x q)
      · rw [List.mem_singleton.1 q]; simp [newG]
theorem groupsG_snoc {sp : Nat → Int × Int} {l : List Nat} {i : Nat} : groupsG sp (l ++ [i]) = growG sp (groupsG sp l) i := by simp [groupsG]
theorem groupsG_take {sp : Nat → Int × Int} {l : List Nat} {k : Nat} (h : k < l.length) : groupsG sp (l.take (k + 1)) = growG sp (groupsG sp (l.take k)) l[k] := by
  rw [List.take_succ_eq_append_getElem h, groupsG_snoc]
theorem groupsG_len {sp : Nat → Int × Int} {l : List Nat} : ∀ k, k ≤ l.length → (groupsG sp (l.take k)).length ≤ k ∧ ∀ x ∈ groupsG sp (l.take k), x.ps.length ≤ k
  | 0, _ => by simp [groupsG]
  | k + 1, h => by rw [groupsG_take (by omega)]; exact growG_len (groupsG_len k (by omega))
theorem Rd.nat {w : World} {B : Nat} {A : Option Addr} {l : List Nat} {k : Nat} (h : Rd w B A (nums l)) (hk : k < l.length) : ∃ b off, A = some ⟨b, off, none⟩ ∧ b < B ∧ w.cell? ⟨b, off + k, none⟩ = some (.int .i64 (l[k] : Int)) := by
  obtain ⟨b, off, e, hb, hc⟩ := h.at_ (k := k) (by simpa [nums, ints] using hk)
  exact ⟨b, off, e, hb, by rw [hc]; simp [nums, ints]⟩
/-- A desk at work, with its proofs and trips, in a right book. -/
structure Gd (w : World) (g : Nat) (e0 e1 : Int) (PA : Option Addr) (c : Nat) (ps : List Pr) (TA : Option Addr) (d : Nat) (ts : List Tr) : Prop where
  bk : Bk w g e0 e1 (.slice PA ps.length c) (.slice TA ts.length d)
  rp : Rd w w.heap.size PA (prs ps)
  rt : Rd w w.heap.size TA (trs ts)
  cp : ps.length ≤ c
  ct : ts.length ≤ d
  ok : BkOk e0 e1 ps ts
section
variable {w w' : World} {g : Nat} {e0 e1 : Int} {PA : Option Addr} {c : Nat} {ps : List Pr} {TA : Option Addr} {d : Nat} {ts : List Tr}
theorem Gd.below (h : Gd w g e0 e1 PA c ps TA d ts) (hb : Below w.heap.size w w') : Gd w' g e0 e1 PA c ps TA d ts := ⟨h.bk.below hb, h.rp.next hb, h.rt.next hb, h.cp, h.ct, h.ok⟩
theorem Gd.gi (h : Gd w g e0 e1 PA c ps TA d ts) {i : Nat} (hi : i < ps.length) : ∃ pb off, PA = some ⟨pb, off, none⟩ ∧ GdI w g e0 e1 pb off c ps (.slice TA ts.length d) := by
  obtain ⟨b, o, rfl, _⟩ := h.rp.proof hi
  exact ⟨b, o, rfl, h.bk, h.rp, h.ok.h0, h.ok.h1, h.ok.pr⟩
end
theorem KeepB.below {base bo B : Nat} {W W' : World} (h : KeepB base bo W W') (h1 : B ≤ base) (h2 : B ≤ bo) : Below B W W' := ⟨h.os, h.tape, h.output, h.size, fun k hk => h.far k (by omega) (by omega)⟩
def okG (sp : Nat → Int × Int) (l : List Nat) : Prop := ∀ j ∈ l, (sp j).1 ≤ (sp j).2
set_option maxRecDepth 100000 in
set_option maxHeartbeats 4000000 in
theorem groups_any (g : Nat) (e0 e1 : Int) (PA : Option Addr) (c : Nat) (ps : List Pr) (TA : Option Addr) (d : Nat) (ts : List Tr) (A : Option Addr) (cl : Nat) (l : List Nat) (W : World) (hG0 : Gd W g e0 e1 PA c ps TA d ts) (hR : Rd W W.heap.size A (nums l)) (hl : ∀ i ∈ l, i < ps.length) (hlen : l.length ≤ 100) :
    Calls Tryz.prog 139 #[.pointer (some ⟨g, 0, none⟩), .slice A l.length cl] W fun e w' => ((okG (spI e0 e1 ps) l ∧ ∃ v vs, e = .returned (.tuple #[v, .bool true]) ∧ GrV w' W.heap.size v (groupsG (spI e0 e1 ps) l) vs) ∨ (¬ okG (spI e0 e1 ps) l ∧ e = .returned (.tuple #[.slice none 0 0, .bool false]))) ∧ Below W.heap.size W w' := by
  have HG0 := Lib.hid hG0
  have HR := Lib.hid hR
  have HL := Lib.hid hl
  clear hG0 hR hl
  go_enter Tryz.func139, Tryz.ntmps139
  go_wp2_with fail
  go_loopw [9, 10, 14] (fun _ _ i wr => ∃ k : Nat, k ≤ l.length ∧ i = .int .i64 k ∧ Hid (okG (spI e0 e1 ps) (l.take k)) ∧ Hid (GrB wr (W.heap.size + 2) (W.heap.size + 1) (groupsG (spI e0 e1 ps) (l.take k))) ∧ Hid (Below W.heap.size W wr) ∧ Hid (wr.cell? ⟨W.heap.size, 0, none⟩ = some (.pointer (some ⟨g, 0, none⟩))) ∧ W.heap.size + 2 ≤ wr.heap.size) (fun _ _ i _ => l.length - (intOf i).toNat)
  case atStart =>
    have B1 := Blk.new W [.pointer (some ⟨g, 0, none⟩)] 146
    have B2 := Blk.new (W.alloc (.cells #[.pointer (some ⟨g, 0, none⟩)] 146)) [.slice none 0 0] 177
    have b1 := below_new W (.cells #[.pointer (some ⟨g, 0, none⟩)] 146)
    have b2 := below_new (W.alloc (.cells #[.pointer (some ⟨g, 0, none⟩)] 146)) (.cells #[.slice none 0 0] 177)
    refine ⟨0, Nat.zero_le _, rfl, Lib.hid (fun j hj => by simp at hj), Lib.hid ⟨.slice none 0 0, [], ?_, ?_, GrV.nil _ _, by omega, by simp⟩, Lib.hid (b1.trans (b2.mono b1.size)), Lib.hid (b2.at_ (by simp) (B1.cells 0 _ rfl)), by simp⟩
    · have := B2.cells 0 _ rfl
      rwa [World.size_alloc] at this
    · have := B2.free 0
      rwa [World.size_alloc] at this
  case round =>
    obtain ⟨k, hk, rfl, HOK, HB, HBW, HBD, hsz⟩ := hrel
    by_cases hlt : k < l.length
    · obtain ⟨lb, lo, rfl, hlb, hlc⟩ := (HR.out.next HBW.out).nat hlt
      have hj := HL.out _ (List.getElem_mem hlt)
      obtain ⟨j, HJ⟩ : ∃ j, Hid (l[k] = j) := ⟨_, Lib.hid rfl⟩
      rw [HJ.out] at hj hlc
      obtain ⟨pb, off, rfl, hG⟩ := HG0.out.gi hj
      have HG := Lib.hid hG
      clear hG HG0
      have HBDL : Hid (W.heap.size < wr.heap.size) := Lib.hid (by omega)
      have j0 : (0 : Int) ≤ (j : Int) := by omega
      have j1 : (j : Int) < (ps.length : Int) := by omega
      go_wp2_with fail
      refine wp_inv 11 (by kernel_rfl) (by kernel_rfl) (by kernel_rfl) (by decide) (FL [PEq (.pointer (some ⟨g, 0, none⟩)), PEq (.pointer (some ⟨g, 0, none⟩)), PEq (.pointer (some ⟨g, 0, none⟩)), PEq (.pointer (some ⟨g, 0, none⟩)), PEq (.pointer (some ⟨g, 2, none⟩)), PEq (.slice (some ⟨pb, off, none⟩) ps.length c), PEq (.int .i64 (j : Nat)), PEq (.pointer (some ⟨pb, off + j * 4, none⟩)), PEq (.agg #[.int .i64 ps[j].b, .int .i64 ps[j].m, .int .i64 ps[j].k, .int .i64 ps[j].r]), PEq (.agg #[.int .i64 (spI e0 e1 ps j).1, .int .i64 (spI e0 e1 ps j).2]), PBlk wr.heap.size [.int .i64 0, .int .i64 0]])
        (fun x => Below wr.heap.size wr x) (fun x y => Below x.heap.size x y) (FL.keepB (by simp [stbB_blk, stbB_eq])) (below_drew wr) ?_ ?_
      · intro iq o hi' ho listed vals a w5 hdep hM hAt K hK
        have HI := Lib.hid hM.inv
        match iq, hi' with
        | 0, _ =>
          injection ho with ho
          subst ho
          obtain ⟨e2, e2'⟩ := hAt.slot 2 (by kernel_rfl) (by rfl)
          have q0 := HI.out.at_ HBDL.out HBD.out
          go_simp
          exact hK _ w5 (Below.refl _ _) HI.out rfl
        | 1, _ =>
          injection ho with ho
          subst ho
          obtain ⟨e2, e2'⟩ := hAt.slot 2 (by kernel_rfl) (by rfl)
          have q0 := HI.out.at_ HBDL.out HBD.out
          go_simp
          exact hK _ w5 (Below.refl _ _) HI.out rfl
        | 2, _ =>
          injection ho with ho
          subst ho
          have l1 := hdep ⟨1, .data⟩ (by simp) rfl
          obtain ⟨x1, x1'⟩ := hAt.dep 1 (d := 19) (by omega) l1 (by rfl) (hM.fact 1 (by omega) l1)
          go_simp
          exact hK _ w5 (Below.refl _ _) HI.out rfl
        | 3, _ =>
          injection ho with ho
          subst ho
          have l2 := hdep ⟨2, .data⟩ (by simp) rfl
          obtain ⟨x2, x2'⟩ := hAt.dep 2 (d := 20) (by omega) l2 (by rfl) (hM.fact 2 (by omega) l2)
          go_simp
          exact hK _ w5 (Below.refl _ _) HI.out rfl
        | 4, _ =>
          injection ho with ho
          subst ho
          have l3 := hdep ⟨3, .data⟩ (by simp) rfl
          obtain ⟨x3, x3'⟩ := hAt.dep 3 (d := 21) (by omega) l3 (by rfl) (hM.fact 3 (by omega) l3)
          go_simp
          exact hK _ w5 (Below.refl _ _) HI.out rfl
        | 5, _ =>
          injection ho with ho
          subst ho
          have l4 := hdep ⟨4, .data⟩ (by simp) rfl
          obtain ⟨x4, x4'⟩ := hAt.dep 4 (d := 22) (by omega) l4 (by rfl) (hM.fact 4 (by omega) l4)
          have q0 := (HG.out.below (HBW.out.trans (HI.out.mono HBW.out.size))).bk.c2
          go_simp
          exact hK _ w5 (Below.refl _ _) HI.out rfl
        | 6, _ =>
          injection ho with ho
          subst ho
          obtain ⟨e9, e9'⟩ := hAt.slot 9 (by kernel_rfl) (by rfl)
          go_simp
          exact hK _ w5 (Below.refl _ _) HI.out rfl
        | 7, _ =>
          injection ho with ho
          subst ho
          have l5 := hdep ⟨5, .data⟩ (by simp) rfl
          obtain ⟨x5, x5'⟩ := hAt.dep 5 (d := 23) (by omega) l5 (by rfl) (hM.fact 5 (by omega) l5)
          have l6 := hdep ⟨6, .data⟩ (by simp) rfl
          obtain ⟨x6, x6'⟩ := hAt.dep 6 (d := 24) (by omega) l6 (by rfl) (hM.fact 6 (by omega) l6)
          go_simp
          exact hK _ w5 (Below.refl _ _) HI.out rfl
        | 8, _ =>
          injection ho with ho
          subst ho
          have l7 := hdep ⟨7, .data⟩ (by simp) rfl
          obtain ⟨x7, x7'⟩ := hAt.dep 7 (d := 25) (by omega) l7 (by rfl) (hM.fact 7 (by omega) l7)
          obtain ⟨p0, p1, p2, p3⟩ := (HG.out.below (HBW.out.trans (HI.out.mono HBW.out.size))).rp.proof' hj
          go_simp
          exact hK _ w5 (Below.refl _ _) HI.out rfl
        | 9, _ =>
          injection ho with ho
          subst ho
          have l0 := hdep ⟨0, .data⟩ (by simp) rfl
          obtain ⟨x0, x0'⟩ := hAt.dep 0 (d := 18) (by omega) l0 (by rfl) (hM.fact 0 (by omega) l0)
          have l8 := hdep ⟨8, .data⟩ (by simp) rfl
          obtain ⟨x8, x8'⟩ := hAt.dep 8 (d := 26) (by omega) l8 (by rfl) (hM.fact 8 (by omega) l8)
          go_simp
          refine (span_at (HG.out.below (HBW.out.trans (HI.out.mono HBW.out.size))) hj).mono ?_
          rintro e w6 ⟨rfl, hb6⟩
          exact hK _ w6 hb6 (HI.out.trans (hb6.mono HI.out.size)) rfl
        | 10, _ =>
          injection ho with ho
          subst ho
          go_simp
          exact hK _ _ (below_new _ _) (HI.out.alloc HI.out.size _) ⟨w5.heap.size, rfl, HI.out.size, Blk.new w5 [.int .i64 0, .int .i64 0] _⟩
        | jq + 11, hq => exact absurd hq (by omega)
      · intro vals w5 hM
        have HI := Lib.hid hM.inv
        have f0 : vals 0 = .pointer (some ⟨g, 0, none⟩) := hM.all (by decide) 0 (by omega)
        have f1 : vals 1 = .pointer (some ⟨g, 0, none⟩) := hM.all (by decide) 1 (by omega)
        have f2 : vals 2 = .pointer (some ⟨g, 0, none⟩) := hM.all (by decide) 2 (by omega)
        have f3 : vals 3 = .pointer (some ⟨g, 0, none⟩) := hM.all (by decide) 3 (by omega)
        have f4 : vals 4 = .pointer (some ⟨g, 2, none⟩) := hM.all (by decide) 4 (by omega)
        have f5 : vals 5 = .slice (some ⟨pb, off, none⟩) ps.length c := hM.all (by decide) 5 (by omega)
        have f6 : vals 6 = .int .i64 (j : Nat) := hM.all (by decide) 6 (by omega)
        have f7 : vals 7 = .pointer (some ⟨pb, off + j * 4, none⟩) := hM.all (by decide) 7 (by omega)
        have f8 : vals 8 = .agg #[.int .i64 ps[j].b, .int .i64 ps[j].m, .int .i64 ps[j].k, .int .i64 ps[j].r] := hM.all (by decide) 8 (by omega)
        have f9 : vals 9 = .agg #[.int .i64 (spI e0 e1 ps j).1, .int .i64 (spI e0 e1 ps j).2] := hM.all (by decide) 9 (by omega)
        obtain ⟨k10, f10, g10, h10⟩ := hM.all (by decide) 10 (by omega)
        clear hM
        simp only [putAll, List.range, List.range.loop, List.foldl_cons, List.foldl_nil, f0, f1, f2, f3, f4, f5, f6, f7, f8, f9, f10]
        clear f0 f1 f2 f3 f4 f5 f6 f7 f8 f9 f10
        change wpAny _ _ _ _ _ _ (Act.put (Act.put (Act.put (Act.put (Act.put (Act.put (Act.put (Act.put (Act.put (Act.put (Act.put _ (some 18) _) (some 19) _) (some 20) _) (some 21) _) (some 22) _) (some 23) _) (some 24) _) (some 25) _) (some 26) _) (some 27) _) (some 10) _) _
        simp only [Act.put, List.setIfInBounds_toArray, List.set_cons_zero, List.set_cons_succ]
        refine tail_step 11 _ (by kernel_rfl) rfl rfl (fun K' hK => ?_)
        have q0 := h10.cells 0 _ rfl
        have q1 := h10.cells 1 _ rfl
        have q2 := h10.free 0
        have q3 := h10.free 1
        have q4 := h10.lt
        go_simp
        refine hK _ _ ?_
        clear hK K'
        refine wpAny_done (by kernel_rfl) ?_ _
        have B4 := (h10.set (j := 0) (by decide) (.int .i64 (spI e0 e1 ps j).1)).set (j := 1) (by simp) (.int .i64 (spI e0 e1 ps j).2)
        have bl : Below wr.heap.size wr _ := (HI.out.setCell (p := ⟨k10, 0, none⟩) g10 (.int .i64 (spI e0 e1 ps j).1)).setCell (p := ⟨k10, 1, none⟩) g10 (.int .i64 (spI e0 e1 ps j).2)
        clear q0 q1 q2 q3 q4 h10 HI
        generalize (w5.setCell _ _).setCell _ _ = W9 at B4 bl ⊢
        have r0 := B4.cells 0 _ rfl
        have r1 := B4.cells 1 _ rfl
        have rl := B4.lt
        have BW9 := Lib.hid (HBW.out.trans (bl.mono HBW.out.size))
        have BR9 := Lib.hid bl
        clear B4 bl
        generalize hS : spI e0 e1 ps j = S at *
        obtain ⟨s0, s1⟩ := S
        have HSS := Lib.hid hS
        clear hS
        by_cases hlo : s1 < s0
        · go_wp2_with fail
          go_ret2
          refine ⟨.inr ⟨fun hok => ?_, rfl⟩, BW9.out⟩
          have h := hok _ (List.getElem_mem hlt)
          rw [HJ.out, HSS.out] at h
          exact absurd h (Int.not_le.2 hlo)
        · go_wp2_with fail
          refine (grow_any g e0 e1 pb off c ps _ j W.heap.size (W.heap.size + 1) (W.heap.size + 2) (groupsG (spI e0 e1 ps) (l.take k)) W9 (HG.out.below BW9.out) (BR9.out.at_ HBDL.out HBD.out) (by have := BR9.out.size; omega) (HB.out.below BR9.out) (by have := BR9.out.size; omega) hj (by have := (groupsG_len (sp := spI e0 e1 ps) k hk).1; omega) (fun x hx => by have := (groupsG_len (sp := spI e0 e1 ps) k hk).2 x hx; omega)).mono ?_
          rintro e w7 ⟨rfl, hgr7, hkb⟩
          have HG7 := Lib.hid hgr7
          have HK7 := Lib.hid hkb
          clear hgr7 hkb
          go_wp2_with fail
          go_roundw
          case rel =>
            refine ⟨k + 1, hlt, by go_num, Lib.hid ?_, Lib.hid ?_, Lib.hid ?_, Lib.hid ?_, ?_⟩
            · rw [List.take_succ_eq_append_getElem hlt]
              intro x hx
              rcases List.mem_append.1 hx with q | q
              · exact HOK.out x q
              · rw [List.mem_singleton.1 q, HJ.out, HSS.out]; show s0 ≤ s1; omega
            · rw [groupsG_take hlt, HJ.out]; exact HG7.out
            · exact BW9.out.trans (HK7.out.below (by omega) (by omega))
            · exact (HK7.out.below (B := W.heap.size + 1) (by omega) (by omega)).at_ (by omega) (BR9.out.at_ HBDL.out HBD.out)
            · have := HK7.out.size
              have := BR9.out.size
              omega
          case measure => simp [intOf]; omega
    · have hkk : k = l.length := by omega
      subst hkk
      rw [List.take_length] at HOK HB
      obtain ⟨v, vs, cv, fv, hv, _, hvl⟩ := HB.out
      have HV := Lib.hid hv
      clear hv fv
      go_wp2_with fail
      go_ret2
      exact ⟨.inl ⟨HOK.out, v, vs, rfl, HV.out.base (by omega)⟩, HBW.out⟩
end Go.Proofs.YtcdjoegihmfanaaGreat
namespace Go.Proofs.YtcdjoegihmfanaaGreat
open Go.RowKit
set_option linter.unusedVariables false
theorem okG_all {sp : Nat → Int × Int} {l : List Nat} : okG sp l ↔ (l.all fun i => decide ((sp i).1 ≤ (sp i).2)) = true := by simp [okG]
set_option maxHeartbeats 1000000 in
theorem possible_any (g : Nat) (e0 e1 : Int) (PA : Option Addr) (c : Nat) (ps : List Pr) (TA : Option Addr) (d : Nat) (ts : List Tr) (A : Option Addr) (cl : Nat) (l : List Nat) (ch : Nat) (W : World) (hG : Gd W g e0 e1 PA c ps TA d ts) (hR : Rd W W.heap.size A (nums l)) (hl : ∀ i ∈ l, i < ps.length) (hlen : l.length ≤ 100) (hch : ch ≤ 1000) :
    Calls Tryz.prog 96 #[.pointer (some ⟨g, 0, none⟩), .slice A l.length cl, .int .i64 (ch : Nat)] W fun e w' => e = .returned (.bool (possB (spI e0 e1 ps) l ch)) ∧ Below W.heap.size W w' := by
  have HC := Lib.hid (groups_any g e0 e1 PA c ps TA d ts A cl l W hG hR hl hlen)
  unfold possB
  have HN := Lib.hid (groupsG_len (sp := spI e0 e1 ps) (l := l) l.length (Nat.le_refl _)).1
  rw [List.take_length] at HN
  clear hG hR hl
  go_enter Tryz.func96, Tryz.ntmps96
  go_wp2_with fail
  refine HC.out.mono ?_
  rintro e w1 ⟨⟨hok, v, vs, rfl, hv⟩ | ⟨hok, rfl⟩, hb⟩
  · obtain ⟨A1, c1, rfl, hc1, _⟩ := own_slice hv.row
    have HOK := Lib.hid (okG_all.1 hok)
    have hn1 : (groupsG (spI e0 e1 ps) l).length ≤ 100 := Nat.le_trans HN.out hlen
    clear hok hv
    go_wp2_with fail
    go_ret
    refine ⟨ret_bool ?_, hb⟩
    rw [HOK.out, Bool.true_and]
    exact decide_eq_decide.2 (by omega)
  · have HOK : Hid ((l.all fun i => decide ((spI e0 e1 ps i).1 ≤ (spI e0 e1 ps i).2)) = false) := Lib.hid (by
      rw [Bool.eq_false_iff]; exact fun h => hok (okG_all.2 h))
    clear hok
    go_wp2_with fail
    go_ret
    exact ⟨ret_bool (by rw [HOK.out]; rfl), hb⟩
/-- grouped: a desk with the groups of a bridge's proofs, or an error. -/
def GroupedB (e0 e1 : Int) (A : Option Addr) (c : Nat) (ps : List Pr) (TA : Option Addr) (d : Nat) (ts : List Tr) (n : Int) (W : World) (e : Ending) (w' : World) : Prop :=
  (askCode (ckBook e0 e1 ps ts) n 0 = 0 ∧ okG (spI e0 e1 ps) (ordL ps n) ∧ ∃ g v vs B, e = .returned (.tuple #[.pointer (some ⟨g, 0, none⟩), v, .int .i64 0]) ∧ W.heap.size ≤ g ∧ g < B ∧ Gd w' g e0 e1 A c ps TA d ts ∧ GrV w' B v (groupsG (spI e0 e1 ps) (ordL ps n)) vs ∧ Below W.heap.size W w') ∨
  (askCode (ckBook e0 e1 ps ts) n 0 = 0 ∧ ¬ okG (spI e0 e1 ps) (ordL ps n) ∧ e = .returned (.tuple #[.pointer none, .slice none 0 0, .int .i64 7]) ∧ Below W.heap.size W w') ∨
  (askCode (ckBook e0 e1 ps ts) n 0 ≠ 0 ∧ e = .returned (.tuple #[.pointer none, .slice none 0 0, .int .i64 (askCode (ckBook e0 e1 ps ts) n 0)]) ∧ Below W.heap.size W w')
theorem ask_ok {e0 e1 : Int} {ps : List Pr} {ts : List Tr} {n ch : Int} (h : askCode (ckBook e0 e1 ps ts) n ch = 0) : BkOk e0 e1 ps ts ∧ (n = 0 ∨ n = 1) ∧ 0 ≤ ch ∧ ch ≤ 4 := by
  unfold askCode at h
  split at h
  · omega
  · rename_i h0
    split at h
    · omega
    · rename_i h1
      split at h
      · omega
      · rename_i h2
        simp only [Bool.not_eq_false, inB_iff] at h1 h2
        exact ⟨ckBook_ok (by omega), by omega, h2⟩
theorem Gd.mk' {w : World} {g : Nat} {e0 e1 : Int} {A : Option Addr} {c : Nat} {ps : List Pr} {B : Option Addr} {d : Nat} {ts : List Tr} (hA : BA w A B c d ps ts) (hk : Bk w g e0 e1 (.slice A ps.length c) (.slice B ts.length d)) (ho : BkOk e0 e1 ps ts) : Gd w g e0 e1 A c ps B d ts := ⟨hk, hA.ra, hA.rb, hA.ca, hA.cb, ho⟩
theorem ordL_mem_lt {ps : List Pr} {n : Int} : ∀ i ∈ ordL ps n, i < ps.length := by
  have h : ∀ s : List Nat, ∀ i ∈ s.foldr (insI ps) [], i ∈ s := by
    intro s
    induction s with
    | nil => simp
    | cons a s ih =>
      intro i hi
      rw [List.foldr_cons, mem_insI] at hi
      rcases hi with rfl | hi
      · simp
      · exact List.mem_cons_of_mem _ (ih i hi)
  intro i hi
  have := h _ i hi
  simp only [List.mem_filter, List.mem_range] at this
  exact this.1
set_option maxHeartbeats 1000000 in
theorem grouped_any (e0 e1 : Int) (A B : Option Addr) (c d : Nat) (ps : List Pr) (ts : List Tr) (n : Int) (w : World) (hA : BA w A B c d ps ts) :
    Calls Tryz.prog 109 #[bkV e0 e1 (.slice A ps.length c) (.slice B ts.length d), .int .i64 n] w (GroupedB e0 e1 A c ps B d ts n w) := by
  have HC := fun w1 (hb : Below w.heap.size w w1) => Lib.hid (asked_any e0 e1 A B c d ps ts n 0 w1 (hA.next hb))
  have HA := Lib.hid hA
  clear hA
  unfold bkV at HC ⊢
  go_enter Tryz.func109, Tryz.ntmps109
  go_wp2_with fail
  refine (HC _ (by go_grown)).out.mono ?_
  rintro e w1 (⟨h0, g, rfl, hg, hk, hb1⟩ | ⟨h0, rfl, hb1⟩)
  · have hbw : Below w.heap.size w w1 := (below_new _ _).trans (hb1.mono (by simp))
    have hgw : w.heap.size ≤ g := by simp at hg; omega
    have hG := Gd.mk' (HA.out.next hbw) hk (ask_ok h0).1
    have hglt := hk.lt
    have HO := Lib.hid (order_any w1 g n A c ps hk.lt hk.c2 hG.rp hG.ok.lp (fun p hp => (hG.ok.pr p hp).1) hG.ok.once)
    have HG := Lib.hid hG
    have H0 := Lib.hid h0
    clear HC hk hb1 hg hG h0
    go_wp2_with fail
    refine HO.out.mono ?_
    rintro e w2 ⟨v, rfl, hv, hb2⟩
    obtain ⟨A2, c2, rfl, hc2, hr2⟩ := own_slice hv
    have HG2 := Lib.hid (HG.out.below hb2)
    have HGC := Lib.hid (groups_any g e0 e1 A c ps B d ts A2 c2 (ordL ps n) w2 HG2.out hr2 ordL_mem_lt (by have := ordL_length ps n; have := HG.out.ok.lp; omega))
    have hbw2 : Below w.heap.size w w2 := hbw.trans (hb2.mono hbw.size)
    have hgl2 : g < w2.heap.size := Nat.lt_of_lt_of_le hglt hb2.size
    clear HG HO hv hb2 hr2
    go_wp2_with fail
    refine HGC.out.mono ?_
    rintro e w3 ⟨⟨hok, v, vs, rfl, hv⟩ | ⟨hok, rfl⟩, hb⟩
    · have HV := Lib.hid hv
      have HOK := Lib.hid hok
      clear hv hok
      go_wp2_with fail
      exact bodyPost_ret (results_tmp3 rfl _ _ _) rfl (.inl ⟨H0.out, HOK.out, g, v, vs, w2.heap.size, rfl, hgw, hgl2, HG2.out.below hb, HV.out, hbw2.trans (hb.mono hbw2.size)⟩)
    · have HOK := Lib.hid hok
      clear hok
      go_wp2_with fail
      exact bodyPost_ret (results_tmp3 rfl _ _ _) rfl (.inr (.inl ⟨H0.out, HOK.out, rfl, hbw2.trans (hb.mono hbw2.size)⟩))
  · have hbw : Below w.heap.size w w1 := (below_new _ _).trans (hb1.mono (by simp))
    have H0 := Lib.hid h0
    clear HC hb1
    have h0' : (askCode (ckBook e0 e1 ps ts) n 0 == 0) = false := by simpa using h0
    have h0'' : (askCode (ckBook e0 e1 ps ts) n 0 != 0) = true := by simpa using h0
    clear h0
    go_wp2_with fail
    exact bodyPost_ret (results_tmp3 rfl _ _ _) rfl (.inr (.inr ⟨H0.out, rfl, hbw⟩))
/-- The error of what is asked of one bridge alone. -/
def grCode (e0 e1 : Int) (ps : List Pr) (ts : List Tr) (n : Int) : Int :=
  if askCode (ckBook e0 e1 ps ts) n 0 ≠ 0 then askCode (ckBook e0 e1 ps ts) n 0 else if ((ordL ps n).all fun i => decide ((spI e0 e1 ps i).1 ≤ (spI e0 e1 ps i).2)) then 0 else 7
theorem grCode_ok {e0 e1 : Int} {ps : List Pr} {ts : List Tr} {n : Int} (h : askCode (ckBook e0 e1 ps ts) n 0 = 0) (k : okG (spI e0 e1 ps) (ordL ps n)) : grCode e0 e1 ps ts n = 0 := by
  unfold grCode; rw [if_neg (by omega), if_pos (okG_all.1 k)]
theorem grCode_bad {e0 e1 : Int} {ps : List Pr} {ts : List Tr} {n : Int} (h : askCode (ckBook e0 e1 ps ts) n 0 = 0) (k : ¬ okG (spI e0 e1 ps) (ordL ps n)) : grCode e0 e1 ps ts n = 7 := by
  unfold grCode; rw [if_neg (by omega), if_neg (fun h => k (okG_all.2 h))]
theorem grCode_ask {e0 e1 : Int} {ps : List Pr} {ts : List Tr} {n : Int} (h : askCode (ckBook e0 e1 ps ts) n 0 ≠ 0) : grCode e0 e1 ps ts n = askCode (ckBook e0 e1 ps ts) n 0 := if_pos h
def fewN (e0 e1 : Int) (ps : List Pr) (n : Int) : Int := max 0 (((groupsG (spI e0 e1 ps) (ordL ps n)).length : Int) - 1)
def fewE (e0 e1 : Int) (ps : List Pr) (ts : List Tr) (n : Int) : Int := if grCode e0 e1 ps ts n = 0 then fewN e0 e1 ps n else 0
theorem ret2i {a b c d : Int} (h1 : a = c) (h2 : b = d) : Ending.returned (.tuple #[.int .i64 a, .int .i64 b]) = .returned (.tuple #[.int .i64 c, .int .i64 d]) := by rw [h1, h2]
set_option maxHeartbeats 1000000 in
theorem Fewest_any (e0 e1 : Int) (A B : Option Addr) (c d : Nat) (ps : List Pr) (ts : List Tr) (n : Int) (w : World) (hA : BA w A B c d ps ts) :
    Calls Tryz.prog 36 #[bkV e0 e1 (.slice A ps.length c) (.slice B ts.length d), .int .i64 n] w fun e w' => e = .returned (.tuple #[.int .i64 (fewE e0 e1 ps ts n), .int .i64 (grCode e0 e1 ps ts n)]) ∧ Below w.heap.size w w' := by
  have HC := fun w1 (hb : Below w.heap.size w w1) => Lib.hid (grouped_any e0 e1 A B c d ps ts n w1 (hA.next hb))
  clear hA
  unfold bkV at HC ⊢
  go_enter Tryz.func36, Tryz.ntmps36
  go_wp2_with fail
  refine (HC _ (by go_grown)).out.mono ?_
  rintro e w1 (⟨h0, hok, g, v, vs, base, rfl, hg, hgb, hG, hv, hb1⟩ | ⟨h0, hok, rfl, hb1⟩ | ⟨h0, rfl, hb1⟩)
  · have hbw : Below w.heap.size w w1 := (below_new _ _).trans (hb1.mono (by simp))
    have HK := Lib.hid (grCode_ok h0 hok)
    obtain ⟨A1, c1, rfl, hc1, _⟩ := own_slice hv.row
    have hn : Hid ((groupsG (spI e0 e1 ps) (ordL ps n)).length ≤ 10) := Lib.hid (by
      have h1 := (groupsG_len (sp := spI e0 e1 ps) (l := ordL ps n) _ (Nat.le_refl _)).1
      rw [List.take_length] at h1
      have h2 := ordL_length ps n
      have h3 := (ask_ok h0).1.lp
      omega)
    clear HC hb1 h0 hok hG hv
    obtain ⟨m, HM⟩ : ∃ m, Hid ((groupsG (spI e0 e1 ps) (ordL ps n)).length = m) := ⟨_, Lib.hid rfl⟩
    rw [HM.out]
    have hn2 := hn.out
    rw [HM.out] at hn2 hc1
    have hw : wrap64 ((m : Int) - 1) = (m : Int) - 1 := IntWalk.wrap64_in _ (by omega)
    go_wp2_with fail
    have B2 := Blk.new w1 [.int .i64 0, .int .i64 ((m : Int) - 1)] 3
    refine (most2_below _ 0 ((m : Int) - 1) _ (B2.cells 0 _ rfl) (B2.cells 1 _ rfl) B2.lt).mono ?_
    rintro e w2 ⟨rfl, hb2⟩
    have hbw2 : Below w.heap.size w w2 := (hbw.trans ((below_new _ _).mono hbw.size)).trans (hb2.mono (by have := hbw.size; simp; omega))
    go_wp2_with fail
    go_ret2
    exact ⟨ret2i (by unfold fewE; rw [if_pos HK.out]; unfold fewN; rw [HM.out]) HK.out.symm, hbw2⟩
  · have hbw : Below w.heap.size w w1 := (below_new _ _).trans (hb1.mono (by simp))
    have HK := Lib.hid (grCode_bad h0 hok)
    clear HC hb1 h0 hok
    go_wp2_with fail
    go_ret2
    exact ⟨ret2i (by unfold fewE; rw [if_neg (by rw [HK.out]; decide)]) HK.out.symm, hbw⟩
  · have hbw : Below w.heap.size w w1 := (below_new _ _).trans (hb1.mono (by simp))
    have h0' : (askCode (ckBook e0 e1 ps ts) n 0 == 0) = false := by simpa using h0
    have h0'' : (askCode (ckBook e0 e1 ps ts) n 0 != 0) = true := by simpa using h0
    have H0 := Lib.hid h0
    clear HC hb1 h0
    go_wp2_with fail
    go_ret2
    exact ⟨ret2i (by unfold fewE; rw [if_neg (by rw [grCode_ask H0.out]; exact H0.out)]) (grCode_ask H0.out).symm, hbw⟩
end Go.Proofs.YtcdjoegihmfanaaGreat
namespace Go.Proofs.YtcdjoegihmfanaaGreat
open Go.RowKit
set_option linter.unusedVariables false
/-- A row of one, new. -/
def PRw (B : Nat) (xs : List Value) (v : Value) (w : World) : Prop := ∃ k, v = .slice (some ⟨k, 0, none⟩) 1 1 ∧ B ≤ k ∧ Blk w k xs
theorem stbB_rw (B : Nat) (xs : List Value) : StbB (PRw B xs) := by
  rintro v w w' ⟨k, e, h1, h2⟩ hb
  exact ⟨k, e, h1, h2.below hb⟩
/-- The drift so far, in a block. -/
def DrB (W : World) (base kd : Nat) (D : Int × List (Int × Int)) : Prop := ∃ v, W.cell? ⟨kd, 0, none⟩ = some (.int .i64 D.1) ∧ W.cell? ⟨kd, 1, none⟩ = some v ∧ (∀ o, W.frozen? ⟨kd, o, none⟩ = false) ∧ W.ownsRow base 82 2 v D.2.length (pairs D.2) ∧ kd < base ∧ kd < W.heap.size
theorem DrB.below {W W' : World} {base kd : Nat} {D : Int × List (Int × Int)} (h : DrB W base kd D) (hb : Below W.heap.size W W') : DrB W' base kd D := by
  obtain ⟨v, h1, h2, h3, h4, h5, h6⟩ := h
  exact ⟨v, (hb.cell (p := ⟨kd, 0, none⟩) h6).trans h1, (hb.cell (p := ⟨kd, 1, none⟩) h6).trans h2, fun o => (hb.frozen (p := ⟨kd, o, none⟩) h6).trans (h3 o), own_block h4 fun b e => hb.block b (own_lt h4 b e).2, h5, Nat.lt_of_lt_of_le h6 hb.size⟩
theorem pairs_snoc (t : List (Int × Int)) (x : Int × Int) : pairs (t ++ [x]) = pairs t ++ [.int .i64 x.1, .int .i64 x.2] := by simp [pairs]
theorem findG_take {ps : List Pr} {gs : List Gr} {k : Nat} (h : k < gs.length) : findG ps (gs.take (k + 1)) = if k = 0 then (gs[k].lo, []) else ((findG ps (gs.take k)).1, (findG ps (gs.take k)).2 ++ [hdG ps gs[k]]) := by
  match gs, k, h with
  | g :: t, 0, _ => rfl
  | g :: t, k + 1, h =>
    rw [if_neg (by omega)]
    have hk : k < t.length := by simpa using h
    simp only [List.take_succ_cons, findG, List.getElem_cons_succ]
    rw [List.take_succ_eq_append_getElem hk, List.map_append]
    rfl
theorem DrB.first {W : World} {base kd : Nat} {D : Int × List (Int × Int)} (h : DrB W base kd D) (x : Int) : DrB (W.setCell ⟨kd, 0, none⟩ (.int .i64 x)) base kd (x, D.2) ∧ KeepB base kd W (W.setCell ⟨kd, 0, none⟩ (.int .i64 x)) := by
  obtain ⟨v, h1, h2, h3, h4, h5, h6⟩ := h
  refine ⟨⟨v, World.cell?_setCell_same _ _ _ h1, (cell_far' (by omega)).trans h2, fun o => by simpa using h3 o, own_block h4 fun b e => ?_, h5, by simpa [World.setCell] using h6⟩, KeepB.set⟩
  exact heap_far (by have := (own_lt h4 b e).1; omega)
/-- One change more. -/
theorem DrB.more {W y : World} {base kd : Nat} {D : Int × List (Int × Int)} {v v' : Value} {x : Int × Int} (h : DrB W base kd D) (hB : base ≤ W.heap.size) (hv : W.cell? ⟨kd, 1, none⟩ = some v) (hg : W.grownBy y v.ownBlock)
    (ho : y.ownsRow base 82 2 v' (D.2.length + 1) (pairs D.2 ++ [.int .i64 x.1, .int .i64 x.2])) :
    DrB (y.setCell ⟨kd, 1, none⟩ v') base kd (D.1, D.2 ++ [x]) ∧ KeepB base kd W (y.setCell ⟨kd, 1, none⟩ v') := by
  obtain ⟨u, h1, h2, h3, h4, h5, h6⟩ := h
  rw [hv] at h2
  injection h2 with h2
  subst h2
  have hne : some kd ≠ v.ownBlock := fun e => by have := (own_lt h4 kd e.symm).1; omega
  have hk := hg.block kd h6 hne
  have hs := hg.size
  refine ⟨⟨v', ?_, World.cell?_setCell_same _ _ _ ((World.cell?_of_block (a := ⟨kd, 1, none⟩) hk).trans hv), fun o => ?_, ?_, h5, by simp [World.setCell]; omega⟩, ?_⟩
  · exact ((cell_far' (by omega)).trans (World.cell?_of_block (a := ⟨kd, 0, none⟩) hk)).trans h1
  · rw [World.frozen?_setCell]
    exact (World.frozen?_of_block (a := ⟨kd, o, none⟩) hk).trans (h3 o)
  · rw [pairs_snoc, List.length_append]
    exact own_block ho fun b e => heap_far (by have := (own_lt ho b e).1; omega)
  · exact (KeepB.grown hg hB fun b e => (own_lt h4 b e).1).trans KeepB.set
theorem two_set {W : World} {b : Nat} {x y u v : Value} (h0 : W.cell? ⟨b, 0, none⟩ = some x) (h1 : W.cell? ⟨b, 1, none⟩ = some y) : ((W.setCell ⟨b, 0, none⟩ u).setCell ⟨b, 1, none⟩ v).cell? ⟨b, 0, none⟩ = some u ∧ ((W.setCell ⟨b, 0, none⟩ u).setCell ⟨b, 1, none⟩ v).cell? ⟨b, 1, none⟩ = some v :=
  ⟨(cell_far' (by omega)).trans (World.cell?_setCell_same _ _ _ h0), World.cell?_setCell_same _ _ _ ((cell_far' (by omega)).trans h1)⟩
theorem findG_len {ps : List Pr} : ∀ gs : List Gr, (findG ps gs).2.length ≤ gs.length
  | [] => Nat.le_refl _
  | g :: t => by simp [findG]
/-- What Find tells. -/
def FindB (e0 e1 : Int) (ps : List Pr) (ts : List Tr) (n : Int) (W : World) (e : Ending) (w' : World) : Prop :=
  (grCode e0 e1 ps ts n = 0 ∧ ∃ v, e = .returned (.tuple #[drV (findG ps (groupsG (spI e0 e1 ps) (ordL ps n))).1 v, .int .i64 0]) ∧ w'.ownsRow W.heap.size 82 2 v (findG ps (groupsG (spI e0 e1 ps) (ordL ps n))).2.length (pairs (findG ps (groupsG (spI e0 e1 ps) (ordL ps n))).2) ∧ Below W.heap.size W w') ∨
  (grCode e0 e1 ps ts n ≠ 0 ∧ e = .returned (.tuple #[drV 0 (.slice none 0 0), .int .i64 (grCode e0 e1 ps ts n)]) ∧ Below W.heap.size W w')
set_option maxRecDepth 100000 in
set_option maxHeartbeats 4000000 in
theorem Find_any (e0 e1 : Int) (A B : Option Addr) (c d : Nat) (ps : List Pr) (ts : List Tr) (n : Int) (w : World) (hA : BA w A B c d ps ts) :
    Calls Tryz.prog 60 #[bkV e0 e1 (.slice A ps.length c) (.slice B ts.length d), .int .i64 n] w (FindB e0 e1 ps ts n w) := by
  have HC := fun w1 (hb : Below w.heap.size w w1) => Lib.hid (grouped_any e0 e1 A B c d ps ts n w1 (hA.next hb))
  have HA := Lib.hid hA
  clear hA
  unfold bkV at HC ⊢
  go_enter Tryz.func60, Tryz.ntmps60
  go_wp2_with fail
  refine (HC _ (by go_grown)).out.mono ?_
  rintro e w1 (⟨h0, hok, g, v, vs, base, rfl, hg, hgb, hG, hv, hb1⟩ | ⟨h0, hok, rfl, hb1⟩ | ⟨h0, rfl, hb1⟩)
  all_goals
    have B0 := ((Blk.new w [.int .i64 e0, .int .i64 e1, .slice A ps.length c, .slice B ts.length d] 26).alloc (.cells #[.int .i64 0, .slice none 0 0] 61)).below hb1
    have B1 := (Blk.new (w.alloc (.cells #[.int .i64 e0, .int .i64 e1, .slice A ps.length c, .slice B ts.length d] 26)) [.int .i64 0, .slice none 0 0] 61).below hb1
    rw [World.size_alloc] at B1
    have hbw : Below w.heap.size w w1 := ((below_new w _).trans ((below_new _ _).mono (by simp))).trans (hb1.mono (by simp; omega))
    have hlt := B1.lt
  · have HK := Lib.hid (grCode_ok h0 hok)
    have hrow := hv.row
    obtain ⟨A1, c1, rfl, hc1, _⟩ := own_slice hrow
    have hn : (groupsG (spI e0 e1 ps) (ordL ps n)).length ≤ 10 := by
      have h1 := (groupsG_len (sp := spI e0 e1 ps) (l := ordL ps n) _ (Nat.le_refl _)).1
      rw [List.take_length] at h1
      have h2 := ordL_length ps n
      have h3 := (ask_ok h0).1.lp
      omega
    have hgood := groupsG_good (sp := spI e0 e1 ps) (l := ordL ps n) hok
    have hflat := groupsG_flat (spI e0 e1 ps) (ordL ps n)
    have hmem : ∀ x ∈ groupsG (spI e0 e1 ps) (ordL ps n), ∀ i ∈ x.ps, i < ps.length := fun x hx i hi => ordL_mem_lt i (by rw [← hflat]; exact List.mem_flatMap.2 ⟨x, hx, hi⟩)
    have hgn : ∀ x ∈ groupsG (spI e0 e1 ps) (ordL ps n), x.ps ≠ [] := fun x hx => ps_ne (hgood x hx)
    obtain ⟨gs, HGS⟩ : ∃ gs, Hid (groupsG (spI e0 e1 ps) (ordL ps n) = gs) := ⟨_, Lib.hid rfl⟩
    rw [HGS.out] at hn hmem hgn hv hrow hc1 ⊢
    have HMEM := Lib.hid hmem
    have HGN := Lib.hid hgn
    have HV := Lib.hid hv
    have HG := Lib.hid hG
    have HB0 := Lib.hid B0
    have HB1 := Lib.hid B1
    have HBW := Lib.hid hbw
    have hgb2 := Nat.lt_of_lt_of_le hG.bk.lt (Nat.le_refl _)
    clear HC h0 hok hgood hflat hmem hgn hv hrow hG B0 B1 hbw hb1
    go_wp2_with fail
    go_loopw [10, 11, 25] (fun _ _ i wr => ∃ k : Nat, k ≤ gs.length ∧ i = .int .i64 k ∧ Hid (DrB wr (w1.heap.size + 1) w1.heap.size (findG ps (gs.take k))) ∧ Hid (Below w1.heap.size w1 wr) ∧ w1.heap.size + 1 ≤ wr.heap.size) (fun _ _ i _ => gs.length - (intOf i).toNat)
    case atStart =>
      have B2 := Blk.new w1 [.int .i64 0, .slice none 0 0] 61
      exact ⟨0, Nat.zero_le _, rfl, Lib.hid ⟨.slice none 0 0, B2.cells 0 _ rfl, B2.cells 1 _ rfl, fun o => B2.free o, ⟨rfl, .inl ⟨rfl, rfl⟩⟩, by omega, B2.lt⟩, Lib.hid (below_new _ _), by simp⟩
    case round =>
      obtain ⟨k, hk, rfl, HD, HBR, hsz⟩ := hrel
      by_cases hlt : k < gs.length
      · obtain ⟨vb, cap, hf, hvb1, hvb2⟩ := HV.out.row.form (by omega)
        injection hf with e1 e2 e3
        subst e1 e3
        have hlv : k < vs.length := by rw [HV.out.len]; exact hlt
        have hge := grC_get HV.out.len k hlt
        have hcs := own_cells HV.out.row
        have C0 := HBR.out.at_ hvb2 (hcs _ _ hge.1)
        have C1 := HBR.out.at_ hvb2 (hcs _ _ hge.2.1)
        have C2 := HBR.out.at_ hvb2 (hcs _ _ hge.2.2)
        have hul := HV.out.each k gs[k] vs[k] (List.getElem?_eq_getElem hlt) (List.getElem?_eq_getElem hlv)
        have hpl := HGN.out _ (List.getElem_mem hlt)
        have hpm := HMEM.out _ (List.getElem_mem hlt)
        have HFT := Lib.hid (findG_take (ps := ps) hlt)
        generalize vs[k] = u at C2 hul
        obtain ⟨gl, HGL⟩ : ∃ gl, Hid (gs[k] = gl) := ⟨_, Lib.hid rfl⟩
        rw [HGL.out] at C0 C1 hul hpl hpm
        obtain ⟨A5, c5, rfl, hc5, hr5⟩ := own_slice hul
        have hp0 : 0 < gl.ps.length := List.length_pos_iff.2 hpl
        obtain ⟨b5, o5, rfl, hb5, q5⟩ := hr5.nat hp0
        rw [Nat.add_zero] at q5
        have hj := hpm _ (List.getElem_mem hp0)
        have HJ : Hid (hdG ps gl = (ps[gl.ps[0]].m, gl.lo)) := Lib.hid (by
          unfold hdG
          have e : gl.ps.headD 0 = gl.ps[0] := by
            match gl.ps, hp0 with
            | x :: t, _ => rfl
          rw [e, pAt_eq hj])
        generalize gl.ps[0] = j at hj q5 HJ
        obtain ⟨pb, off, rfl, hG⟩ := HG.out.gi hj
        have x5 := HBR.out.at_ hb5 q5
        have xb2 := HBR.out.at_ HB0.out.lt (HB0.out.cells 2 _ rfl)
        obtain ⟨vd, d0, d1, df, dr, _, dl⟩ := HD.out
        have HDR := Lib.hid dr
        have hg5 := hG.rp.proof' hj
        obtain ⟨p0, p1, p2, p3⟩ := hg5
        have hpb := hG.rp
        have k0 : (0 : Int) ≤ (k : Int) := by omega
        have k1 : (k : Int) < (gs.length : Int) := by omega
        have l0 : (0 : Int) < (gl.ps.length : Int) := by omega
        have j0 : (0 : Int) ≤ (j : Int) := by omega
        have j1 : (j : Int) < (ps.length : Int) := by omega
        have df0 := df 0
        have df1 := df 1
        clear hge hcs hul hpl hpm hG dr df hpb hr5 q5 p0 p1 p2 p3 hc5 hlv
        obtain ⟨bb, HBB⟩ : ∃ bb, Hid (decide (k = 0) = bb) := ⟨_, Lib.hid rfl⟩
        have g1 : ((k : Int) == 0) = bb := by rw [← HBB.out]; cases k <;> simp; omega
        have g2 : (decide ((k : Int) = 0)) = bb := by rw [← HBB.out]; exact decide_eq_decide.2 (by omega)
        have g3 : decide (k = 0) = bb := HBB.out
        have g4 : (k == 0) = bb := by rw [← HBB.out]; cases k <;> simp
        go_wp2_with fail
        · rename_i hbb
          have hk0 : k = 0 := by have h := HBB.out; rw [hbb] at h; simpa using h
          clear g1 g2 g3 g4 HBB hbb
          refine ⟨⟨k + 1, hlt, by go_num, Lib.hid ?_, Lib.hid ?_, ?_⟩, by simp [intOf]; omega⟩
          · have h := (HD.out.first gl.lo).1.below (below_new _ (.cells #[.int .i64 gl.lo, .int .i64 gl.hi, .slice (some ⟨b5, o5, none⟩) gl.ps.length c5] 198))
            rw [HFT.out, if_pos hk0, HGL.out]
            rw [hk0] at h
            exact h
          · exact (HBR.out.trans ((HD.out.first gl.lo).2.below (by omega) (Nat.le_refl _))).trans ((below_new _ _).mono (by simp [World.setCell]; omega))
          · simp [World.setCell]; omega
        · rename_i hbb
          have hk0 : k ≠ 0 := by have h := HBB.out; rw [hbb] at h; simpa using h
          clear g1 g2 g3 g4 HBB hbb
          have BG := Blk.new wr [.int .i64 gl.lo, .int .i64 gl.hi, .slice (some ⟨b5, o5, none⟩) gl.ps.length c5] 198
          have bg := below_new wr (.cells #[.int .i64 gl.lo, .int .i64 gl.hi, .slice (some ⟨b5, o5, none⟩) gl.ps.length c5] 198)
          obtain ⟨W5, HW5⟩ : ∃ W5, Hid (wr.alloc (.cells #[.int .i64 gl.lo, .int .i64 gl.hi, .slice (some ⟨b5, o5, none⟩) gl.ps.length c5] 198) = W5) := ⟨_, Lib.hid rfl⟩
          change Blk (wr.alloc (.cells #[.int .i64 gl.lo, .int .i64 gl.hi, .slice (some ⟨b5, o5, none⟩) gl.ps.length c5] 198)) _ _ at BG
          rw [HW5.out] at BG bg ⊢
          have y1 := bg.at_ dl d1
          have w1r := HBR.out.size
          have y3 := bg.at_ (by have := HB0.out.lt; omega) xb2
          have y5 := BG.cells 2 _ rfl
          have y13 := BG.cells 0 _ rfl
          have y7 := bg.at_ (by omega) x5
          have l1 : w1.heap.size < W5.heap.size := Nat.lt_of_lt_of_le dl bg.size
          have l3 : w.heap.size < W5.heap.size := by have := HB0.out.lt; have := bg.size; omega
          have l5 := BG.lt
          have l7 : b5 < W5.heap.size := by have := bg.size; omega
          have HGR := Lib.hid (HG.out.rp.next (HBR.out.trans (bg.mono w1r)))
          have HD5 := Lib.hid (HD.out.below bg)
          have HB5 := Lib.hid (HBR.out.trans (bg.mono w1r))
          clear C0 C1 C2 xb2 x5 d0 d1 df0 df1 BG bg HD HDR
          refine wp_inv 16 (by kernel_rfl) (by kernel_rfl) (by kernel_rfl) (by decide) (FL [PEq (.pointer (some ⟨w1.heap.size, 1, none⟩)), PEq (vd), PEq (.pointer (some ⟨w.heap.size, 2, none⟩)), PEq (.slice (some ⟨pb, off, none⟩) ps.length c), PEq (.pointer (some ⟨wr.heap.size, 2, none⟩)), PEq (.slice (some ⟨b5, o5, none⟩) gl.ps.length c5), PEq (.pointer (some ⟨b5, o5, none⟩)), PEq (.int .i64 (j : Nat)), PEq (.pointer (some ⟨pb, off + j * 4, none⟩)), PEq (.pointer (some ⟨pb, off + j * 4 + 1, none⟩)), PEq (.int .i64 ps[j].m), PEq (.pointer (some ⟨wr.heap.size, 0, none⟩)), PEq (.pointer (some ⟨wr.heap.size, 0, none⟩)), PEq (.int .i64 gl.lo), PEq (.agg #[.int .i64 ps[j].m, .int .i64 gl.lo]), PRw W5.heap.size [.int .i64 ps[j].m, .int .i64 gl.lo]])
            (fun x => Below W5.heap.size W5 x) (fun x y => Below x.heap.size x y) (FL.keepB (by simp [stbB_eq, stbB_rw])) (below_drew W5) ?_ ?_
          · intro iq o hi' ho listed vals a w5 hdep hM hAt K hK
            have HI := Lib.hid hM.inv
            match iq, hi' with
            | 0, _ =>
              injection ho with ho
              subst ho
              obtain ⟨e9, e9'⟩ := hAt.slot 9 (by kernel_rfl) (by rfl)
              go_simp
              exact hK _ w5 (Below.refl _ _) HI.out rfl
            | 1, _ =>
              injection ho with ho
              subst ho
              have l0 := hdep ⟨0, .data⟩ (by simp) rfl
              obtain ⟨x0, x0'⟩ := hAt.dep 0 (d := 36) (by omega) l0 (by rfl) (hM.fact 0 (by omega) l0)
              have q0 := HI.out.at_ l1 y1
              go_simp
              exact hK _ w5 (Below.refl _ _) HI.out rfl
            | 2, _ =>
              injection ho with ho
              subst ho
              obtain ⟨e2, e2'⟩ := hAt.slot 2 (by kernel_rfl) (by rfl)
              go_simp
              exact hK _ w5 (Below.refl _ _) HI.out rfl
            | 3, _ =>
              injection ho with ho
              subst ho
              have l2 := hdep ⟨2, .data⟩ (by simp) rfl
              obtain ⟨x2, x2'⟩ := hAt.dep 2 (d := 38) (by omega) l2 (by rfl) (hM.fact 2 (by omega) l2)
              have q0 := HI.out.at_ l3 y3
              go_simp
              exact hK _ w5 (Below.refl _ _) HI.out rfl
            | 4, _ =>
              injection ho with ho
              subst ho
              obtain ⟨e11, e11'⟩ := hAt.slot 11 (by kernel_rfl) (by rfl)
              go_simp
              exact hK _ w5 (Below.refl _ _) HI.out rfl
            | 5, _ =>
              injection ho with ho
              subst ho
              have l4 := hdep ⟨4, .data⟩ (by simp) rfl
              obtain ⟨x4, x4'⟩ := hAt.dep 4 (d := 40) (by omega) l4 (by rfl) (hM.fact 4 (by omega) l4)
              have q0 := HI.out.at_ l5 y5
              go_simp
              exact hK _ w5 (Below.refl _ _) HI.out rfl
            | 6, _ =>
              injection ho with ho
              subst ho
              have l5 := hdep ⟨5, .data⟩ (by simp) rfl
              obtain ⟨x5, x5'⟩ := hAt.dep 5 (d := 41) (by omega) l5 (by rfl) (hM.fact 5 (by omega) l5)
              go_simp
              exact hK _ w5 (Below.refl _ _) HI.out rfl
            | 7, _ =>
              injection ho with ho
              subst ho
              have l6 := hdep ⟨6, .data⟩ (by simp) rfl
              obtain ⟨x6, x6'⟩ := hAt.dep 6 (d := 42) (by omega) l6 (by rfl) (hM.fact 6 (by omega) l6)
              have q0 := HI.out.at_ l7 y7
              go_simp
              exact hK _ w5 (Below.refl _ _) HI.out rfl
            | 8, _ =>
              injection ho with ho
              subst ho
              have l3 := hdep ⟨3, .data⟩ (by simp) rfl
              obtain ⟨x3, x3'⟩ := hAt.dep 3 (d := 39) (by omega) l3 (by rfl) (hM.fact 3 (by omega) l3)
              have l7 := hdep ⟨7, .data⟩ (by simp) rfl
              obtain ⟨x7, x7'⟩ := hAt.dep 7 (d := 43) (by omega) l7 (by rfl) (hM.fact 7 (by omega) l7)
              go_simp
              exact hK _ w5 (Below.refl _ _) HI.out rfl
            | 9, _ =>
              injection ho with ho
              subst ho
              have l8 := hdep ⟨8, .data⟩ (by simp) rfl
              obtain ⟨x8, x8'⟩ := hAt.dep 8 (d := 44) (by omega) l8 (by rfl) (hM.fact 8 (by omega) l8)
              go_simp
              exact hK _ w5 (Below.refl _ _) HI.out rfl
            | 10, _ =>
              injection ho with ho
              subst ho
              have l9 := hdep ⟨9, .data⟩ (by simp) rfl
              obtain ⟨x9, x9'⟩ := hAt.dep 9 (d := 45) (by omega) l9 (by rfl) (hM.fact 9 (by omega) l9)
              obtain ⟨p0, p1, p2, p3⟩ := (HGR.out.next HI.out).proof' hj
              go_simp
              exact hK _ w5 (Below.refl _ _) HI.out rfl
            | 11, _ =>
              injection ho with ho
              subst ho
              obtain ⟨e11, e11'⟩ := hAt.slot 11 (by kernel_rfl) (by rfl)
              go_simp
              exact hK _ w5 (Below.refl _ _) HI.out rfl
            | 12, _ =>
              injection ho with ho
              subst ho
              have l11 := hdep ⟨11, .data⟩ (by simp) rfl
              obtain ⟨x11, x11'⟩ := hAt.dep 11 (d := 47) (by omega) l11 (by rfl) (hM.fact 11 (by omega) l11)
              go_simp
              exact hK _ w5 (Below.refl _ _) HI.out rfl
            | 13, _ =>
              injection ho with ho
              subst ho
              have l12 := hdep ⟨12, .data⟩ (by simp) rfl
              obtain ⟨x12, x12'⟩ := hAt.dep 12 (d := 48) (by omega) l12 (by rfl) (hM.fact 12 (by omega) l12)
              have q0 := HI.out.at_ l5 y13
              go_simp
              exact hK _ w5 (Below.refl _ _) HI.out rfl
            | 14, _ =>
              injection ho with ho
              subst ho
              have l10 := hdep ⟨10, .data⟩ (by simp) rfl
              obtain ⟨x10, x10'⟩ := hAt.dep 10 (d := 46) (by omega) l10 (by rfl) (hM.fact 10 (by omega) l10)
              have l13 := hdep ⟨13, .data⟩ (by simp) rfl
              obtain ⟨x13, x13'⟩ := hAt.dep 13 (d := 49) (by omega) l13 (by rfl) (hM.fact 13 (by omega) l13)
              go_simp
              exact hK _ w5 (Below.refl _ _) HI.out rfl
            | 15, _ =>
              injection ho with ho
              subst ho
              have l14 := hdep ⟨14, .data⟩ (by simp) rfl
              obtain ⟨x14, x14'⟩ := hAt.dep 14 (d := 50) (by omega) l14 (by rfl) (hM.fact 14 (by omega) l14)
              go_simp
              exact hK _ _ (below_new _ _) (HI.out.alloc HI.out.size _) ⟨w5.heap.size, rfl, HI.out.size, Blk.new w5 [.int .i64 ps[j].m, .int .i64 gl.lo] _⟩
            | jq + 16, hq => exact absurd hq (by omega)
          · intro vals w5 hM
            have HI := Lib.hid hM.inv
            have f0 : vals 0 = .pointer (some ⟨w1.heap.size, 1, none⟩) := hM.all (by decide) 0 (by omega)
            have f1 : vals 1 = vd := hM.all (by decide) 1 (by omega)
            have f2 : vals 2 = .pointer (some ⟨w.heap.size, 2, none⟩) := hM.all (by decide) 2 (by omega)
            have f3 : vals 3 = .slice (some ⟨pb, off, none⟩) ps.length c := hM.all (by decide) 3 (by omega)
            have f4 : vals 4 = .pointer (some ⟨wr.heap.size, 2, none⟩) := hM.all (by decide) 4 (by omega)
            have f5 : vals 5 = .slice (some ⟨b5, o5, none⟩) gl.ps.length c5 := hM.all (by decide) 5 (by omega)
            have f6 : vals 6 = .pointer (some ⟨b5, o5, none⟩) := hM.all (by decide) 6 (by omega)
            have f7 : vals 7 = .int .i64 (j : Nat) := hM.all (by decide) 7 (by omega)
            have f8 : vals 8 = .pointer (some ⟨pb, off + j * 4, none⟩) := hM.all (by decide) 8 (by omega)
            have f9 : vals 9 = .pointer (some ⟨pb, off + j * 4 + 1, none⟩) := hM.all (by decide) 9 (by omega)
            have f10 : vals 10 = .int .i64 ps[j].m := hM.all (by decide) 10 (by omega)
            have f11 : vals 11 = .pointer (some ⟨wr.heap.size, 0, none⟩) := hM.all (by decide) 11 (by omega)
            have f12 : vals 12 = .pointer (some ⟨wr.heap.size, 0, none⟩) := hM.all (by decide) 12 (by omega)
            have f13 : vals 13 = .int .i64 gl.lo := hM.all (by decide) 13 (by omega)
            have f14 : vals 14 = .agg #[.int .i64 ps[j].m, .int .i64 gl.lo] := hM.all (by decide) 14 (by omega)
            obtain ⟨k15, f15, g15, h15⟩ := hM.all (by decide) 15 (by omega)
            clear hM
            simp only [putAll, List.range, List.range.loop, List.foldl_cons, List.foldl_nil, f0, f1, f2, f3, f4, f5, f6, f7, f8, f9, f10, f11, f12, f13, f14, f15]
            clear f0 f1 f2 f3 f4 f5 f6 f7 f8 f9 f10 f11 f12 f13 f14 f15
            change wpAny _ _ _ _ _ _ (Act.put (Act.put (Act.put (Act.put (Act.put (Act.put (Act.put (Act.put (Act.put (Act.put (Act.put (Act.put (Act.put (Act.put (Act.put (Act.put _ (some 36) _) (some 37) _) (some 38) _) (some 39) _) (some 40) _) (some 41) _) (some 42) _) (some 43) _) (some 44) _) (some 45) _) (some 46) _) (some 47) _) (some 48) _) (some 49) _) (some 50) _) (some 51) _) _
            simp only [Act.put, List.setIfInBounds_toArray, List.set_cons_zero, List.set_cons_succ]
            obtain ⟨i0, hi0, hz0, hz1, hz2⟩ := info_parts infoChange
            have HD6 := Lib.hid (HD5.out.below HI.out)
            have y6 := HI.out.at_ l1 y1
            have l6 : w1.heap.size < w5.heap.size := Nat.lt_of_lt_of_le l1 HI.out.size
            obtain ⟨vq, _, q1, qf, qr, _, _⟩ := HD6.out
            rw [y6] at q1
            injection q1 with q1
            subst q1
            have hdl : (findG ps (gs.take k)).2.length ≤ 10 := by
              have h := findG_len (ps := ps) (gs.take k)
              rw [List.length_take] at h
              omega
            refine tail_step 16 _ (by kernel_rfl) rfl rfl (fun K' hK => ?_)
            refine wp_append_lies w5 _ _ 59 rfl (w1.heap.size + 1) 82 i0 _ 2 16 Tryz.underlying59 hi0 hz0 hz1 hz2 rfl (by decide) vd (findG ps (gs.take k)).2.length (pairs (findG ps (gs.take k)).2) rfl qr ⟨k15, 0, none⟩ 1 1 [.int .i64 ps[j].m, .int .i64 gl.lo] rfl rfl (fun q u hu => by rw [addr_add, Nat.zero_add]; exact h15.cells q u hu) (by simp [Value.oneCell']) (by omega) (by simp only [maxLen]; omega) (by omega) (by omega) _ rfl ?_
            intro gq cq y ho hgy hat hlt2
            refine hK _ _ ?_
            clear hK K'
            have hne : some w1.heap.size ≠ Value.ownBlock vd := fun e => by have := (own_lt qr _ e.symm).1; omega
            have z1 := (World.cell?_of_block (a := ⟨w1.heap.size, 1, none⟩) (hgy.block _ l6 hne)).trans y6
            have z2 := (World.frozen?_of_block (a := ⟨w1.heap.size, 1, none⟩) (hgy.block _ l6 hne)).trans (qf 1)
            have z3 : w1.heap.size < y.heap.size := Nat.lt_of_lt_of_le l6 hgy.size
            have HY := Lib.hid hgy
            have HO := Lib.hid ho
            have HY6 := Lib.hid y6
            clear hgy ho hat hlt2 qr qf y6 hne
            refine tail_step 17 _ (by kernel_rfl) rfl rfl (fun K' hK => ?_)
            go_simp
            refine hK _ _ ?_
            clear hK K'
            refine tail_step 18 _ (by kernel_rfl) rfl rfl (fun K' hK => ?_)
            go_simp
            refine hK _ _ ?_
            clear hK K'
            refine wpAny_done (by kernel_rfl) ?_ _
            go_wp2_with fail
            have hmo := HD6.out.more (x := (ps[j].m, gl.lo)) (by omega) HY6.out HY.out HO.out
            refine ⟨⟨k + 1, hlt, by go_num, Lib.hid ?_, Lib.hid ?_, ?_⟩, by simp [intOf]; omega⟩
            · rw [HFT.out, if_neg hk0, HGL.out, HJ.out]
              exact hmo.1
            · exact (HB5.out.trans (HI.out.mono (by omega))).trans (hmo.2.below (by omega) (Nat.le_refl _))
            · simp [World.setCell]; omega
      · have hkk : k = gs.length := by omega
        subst hkk
        rw [List.take_length] at HD
        obtain ⟨vd, d0, d1, df, dr, _, dl⟩ := HD.out
        obtain ⟨Ad, cd, rfl, _, _⟩ := own_slice dr
        have HDR := Lib.hid dr
        have l1 := HB1.out.lt
        have c0 := HBR.out.at_ l1 (HB1.out.cells 0 _ rfl)
        have c1 := HBR.out.at_ l1 (HB1.out.cells 1 _ rfl)
        have f0 := (HBR.out.frozen (p := ⟨w.heap.size + 1, 0, none⟩) l1).trans (HB1.out.free 0)
        have f1 := (HBR.out.frozen (p := ⟨w.heap.size + 1, 1, none⟩) l1).trans (HB1.out.free 1)
        have l2 : w.heap.size + 1 < wr.heap.size := by omega
        clear dr df
        go_wp2_with fail
        have r := two_set (u := .int .i64 (findG ps gs).1) (v := .slice Ad (findG ps gs).2.length cd) c0 c1
        have hbz : Below w.heap.size w ((wr.setCell ⟨w.heap.size + 1, 0, none⟩ (.int .i64 (findG ps gs).1)).setCell ⟨w.heap.size + 1, 1, none⟩ (.slice Ad (findG ps gs).2.length cd)) := ((HBW.out.trans (HBR.out.mono HBW.out.size)).setCell (p := ⟨w.heap.size + 1, 0, none⟩) (by simp) _).setCell (p := ⟨w.heap.size + 1, 1, none⟩) (by simp) _
        have hoz : ((wr.setCell ⟨w.heap.size + 1, 0, none⟩ (.int .i64 (findG ps gs).1)).setCell ⟨w.heap.size + 1, 1, none⟩ (.slice Ad (findG ps gs).2.length cd)).ownsRow (w1.heap.size + 1) 82 2 (.slice Ad (findG ps gs).2.length cd) (findG ps gs).2.length (pairs (findG ps gs).2) := own_block HDR.out fun b e => by have := (own_lt HDR.out b e).1; exact (heap_far (by omega)).trans (heap_far (by omega))
        have hw1 := HBW.out.size
        generalize (wr.setCell _ _).setCell _ _ = Z at *
        obtain ⟨r0, r1⟩ := r
        (try simp only [Exit.inBlock, Exit.then])
        refine bodyPost_ret (v := .tuple #[drV (findG ps gs).1 (.slice Ad (findG ps gs).2.length cd), .int .i64 0]) (by simp [results, Tryz.results60, go_sem, r0, r1, drV]) rfl (.inl ⟨HK.out, .slice Ad (findG ps gs).2.length cd, ?_⟩)
        rw [HGS.out]
        exact ⟨rfl, hoz.base_ (by omega), hbz⟩
  · have HK := Lib.hid (grCode_bad h0 hok)
    have c0 := B1.cells 0 _ rfl
    have c1 := B1.cells 1 _ rfl
    have f0 := B1.free 0
    have f1 := B1.free 1
    clear HC h0 hok hb1
    go_wp2_with fail
    obtain ⟨r0, r1⟩ := two_set (u := .int .i64 0) (v := .slice none 0 0) c0 c1
    refine bodyPost_ret (v := .tuple #[drV 0 (.slice none 0 0), .int .i64 7]) (by simp [results, Tryz.results60, go_sem, r0, r1, drV]) rfl (.inr ⟨by rw [HK.out]; decide, by rw [HK.out], (hbw.setCell (p := ⟨w.heap.size + 1, 0, none⟩) (by simp) _).setCell (p := ⟨w.heap.size + 1, 1, none⟩) (by simp) _⟩)
  · have h0' : (askCode (ckBook e0 e1 ps ts) n 0 == 0) = false := by simpa using h0
    have h0'' : (askCode (ckBook e0 e1 ps ts) n 0 != 0) = true := by simpa using h0
    have H0 := Lib.hid h0
    have c0 := B1.cells 0 _ rfl
    have c1 := B1.cells 1 _ rfl
    have f0 := B1.free 0
    have f1 := B1.free 1
    clear HC h0 hb1
    go_wp2_with fail
    obtain ⟨r0, r1⟩ := two_set (u := .int .i64 0) (v := .slice none 0 0) c0 c1
    have HK := grCode_ask H0.out
    refine bodyPost_ret (v := .tuple #[drV 0 (.slice none 0 0), .int .i64 (askCode (ckBook e0 e1 ps ts) n 0)]) (by simp [results, Tryz.results60, go_sem, r0, r1, drV]) rfl (.inr ⟨by rw [HK]; exact H0.out, by rw [HK], (hbw.setCell (p := ⟨w.heap.size + 1, 0, none⟩) (by simp) _).setCell (p := ⟨w.heap.size + 1, 1, none⟩) (by simp) _⟩)
end Go.Proofs.YtcdjoegihmfanaaGreat
namespace Go.Proofs.YtcdjoegihmfanaaGreat
open Go.RowKit
set_option linter.unusedVariables false
def valCode (f : Int) (cs : List (Int × Int)) (m : Int) : Int := if ckD f cs ≠ 0 then ckD f cs else if inB m 0 10000 = false then 4 else 0
def valE (f : Int) (cs : List (Int × Int)) (m : Int) : Int := if valCode f cs m = 0 then valueD f cs m else 0
set_option maxHeartbeats 1000000 in
theorem Value_any (f : Int) (A : Option Addr) (c : Nat) (cs : List (Int × Int)) (m : Int) (w : World) (hr : Rd w w.heap.size A (pairs cs)) (hl : cs.length ≤ 1000) :
    Calls Tryz.prog 53 #[drV f (.slice A cs.length c), .int .i64 m] w fun e w' => e = .returned (.tuple #[.int .i64 (valE f cs m), .int .i64 (valCode f cs m)]) ∧ Below w.heap.size w w' := by
  have HC := fun (W : World) (hb : Below w.heap.size w W) => Lib.hid (checked_any f A c cs W (hr.next hb) hl)
  have HA := fun (W : World) (hb : Below w.heap.size w W) => Lib.hid (at_any f A c cs m W (hr.next hb) hl)
  clear hr
  unfold drV at HC HA ⊢
  go_enter Tryz.func53, Tryz.ntmps53
  go_wp2_with fail
  have B1 := Blk.new w [.int .i64 f, .slice A cs.length c] 61
  have bl := below_new w (.cells #[.int .i64 f, .slice A cs.length c] 61)
  refine (HC _ bl).out.mono ?_
  rintro e w2 ⟨rfl, hb2⟩
  have B2 := B1.below hb2
  have hbw : Below w.heap.size w w2 := bl.trans (hb2.mono bl.size)
  have c0 := B2.cells 0 _ rfl
  have c1 := B2.cells 1 _ rfl
  have lt := B2.lt
  clear bl hb2 B1 B2 HC
  by_cases h0 : ckD f cs = 0
  · have H0 := Lib.hid h0
    have h0' : (ckD f cs == 0) = true := by simpa using h0
    have h0'' : (ckD f cs != 0) = false := by simpa using h0
    clear h0
    go_wp2_with fail
    refine (in_any _ _ _ _).mono ?_
    rintro e w3 ⟨rfl, rfl⟩
    clear h0' h0''
    cases h1 : inB m 0 10000
    · have H1 : Hid (valCode f cs m = 4) := Lib.hid (by unfold valCode; rw [H0.out, h1]; rfl)
      clear h1
      go_wp2_with fail
      go_ret2
      exact ⟨ret2i (by unfold valE; rw [H1.out]; rfl) H1.out.symm, hbw⟩
    · have H1 : Hid (valCode f cs m = 0) := Lib.hid (by unfold valCode; rw [H0.out, h1]; rfl)
      clear h1
      go_wp2_with fail
      refine (HA _ hbw).out.mono ?_
      rintro e w3 ⟨rfl, hb3⟩
      have hbw3 := hbw.trans (hb3.mono hbw.size)
      go_wp2_with fail
      go_ret2
      exact ⟨ret2i (by unfold valE; rw [if_pos H1.out]) H1.out.symm, hbw3⟩
  · have H0 := Lib.hid h0
    have h0' : (ckD f cs == 0) = false := by simpa using h0
    have h0'' : (ckD f cs != 0) = true := by simpa using h0
    have H1 : Hid (valCode f cs m = ckD f cs) := Lib.hid (if_pos h0)
    clear h0
    go_wp2_with fail
    go_ret2
    exact ⟨ret2i (by unfold valE; rw [if_neg (by rw [H1.out]; exact H0.out)]) H1.out.symm, hbw⟩
def spanCode (e0 e1 : Int) (ps : List Pr) (ts : List Tr) (i : Int) : Int :=
  if ckBook e0 e1 ps ts ≠ 0 then ckBook e0 e1 ps ts else if inB i 0 ((ps.length : Int) - 1) = false then 2 else if (spI e0 e1 ps i.toNat).2 < (spI e0 e1 ps i.toNat).1 then 1 else 0
def spanR (e0 e1 : Int) (ps : List Pr) (ts : List Tr) (i : Int) : Int × Int := if spanCode e0 e1 ps ts i = 0 then spI e0 e1 ps i.toNat else (0, 0)
/-- A span and an error, as results. -/
def spE (s : Int × Int) (code : Int) : Ending := .returned (.tuple #[.agg #[.int .i64 s.1, .int .i64 s.2], .int .i64 code])
theorem spE_eq {s t : Int × Int} {c d : Int} (h1 : s = t) (h2 : c = d) : spE s c = spE t d := by rw [h1, h2]
set_option maxRecDepth 100000 in
set_option maxHeartbeats 2000000 in
theorem Span_any (e0 e1 : Int) (A B : Option Addr) (c d : Nat) (ps : List Pr) (ts : List Tr) (i : Int) (w : World) (hA : BA w A B c d ps ts) :
    Calls Tryz.prog 51 #[bkV e0 e1 (.slice A ps.length c) (.slice B ts.length d), .int .i64 i] w fun e w' => e = spE (spanR e0 e1 ps ts i) (spanCode e0 e1 ps ts i) ∧ Below w.heap.size w w' := by
  have HC := fun w1 (hb : Below w.heap.size w w1) => Lib.hid (opened_any e0 e1 A B c d ps ts w1 (hA.next hb))
  have HA := Lib.hid hA
  have hln : ps.length ≤ 1000 := hA.la
  clear hA
  unfold bkV at HC ⊢
  go_enter Tryz.func51, Tryz.ntmps51
  go_wp2_with fail
  refine (HC _ (by go_grown)).out.mono ?_
  rintro e w1 (⟨h0, g, rfl, hg, hk, hb1⟩ | ⟨h0, rfl, hb1⟩)
  all_goals
    have B0 := ((Blk.new w [.int .i64 e0, .int .i64 e1, .slice A ps.length c, .slice B ts.length d] 26).alloc (.cells #[.int .i64 0, .int .i64 0] 36)).below hb1
    have B1 := (Blk.new (w.alloc (.cells #[.int .i64 e0, .int .i64 e1, .slice A ps.length c, .slice B ts.length d] 26)) [.int .i64 0, .int .i64 0] 36).below hb1
    rw [World.size_alloc] at B1
    have hbw : Below w.heap.size w w1 := ((below_new w _).trans ((below_new _ _).mono (by simp))).trans (hb1.mono (by simp; omega))
    have hlt := B1.lt
    have c0 := B1.cells 0 _ rfl
    have c1 := B1.cells 1 _ rfl
    have f0 := B1.free 0
    have f1 := B1.free 1
  · have hG := Gd.mk' (HA.out.next hbw) hk (ckBook_ok h0)
    have HG := Lib.hid hG
    have H0 := Lib.hid h0
    have b2 := B0.cells 2 _ rfl
    have lb := B0.lt
    have hg1 := hk.lt
    clear HC h0 hk hb1 hG
    go_wp2_with fail
    refine (in_any _ _ _ _).mono ?_
    rintro e w2 ⟨rfl, rfl⟩
    cases h1 : inB i 0 ((ps.length : Int) - 1)
    · have H1 : Hid (spanCode e0 e1 ps ts i = 2) := Lib.hid (by unfold spanCode; rw [if_neg (by rw [H0.out]; simp), h1, if_pos rfl])
      clear h1
      go_wp2_with fail
      obtain ⟨r0, r1⟩ := two_set (u := .int .i64 0) (v := .int .i64 0) c0 c1
      refine bodyPost_ret (v := .tuple #[.agg #[.int .i64 0, .int .i64 0], .int .i64 2]) (by simp [results, Tryz.results51, go_sem, r0, r1]) rfl ⟨spE_eq (s := (0, 0)) (by unfold spanR; rw [if_neg (by rw [H1.out]; decide)]) H1.out.symm, (hbw.setCell (p := ⟨w.heap.size + 1, 0, none⟩) (by simp) _).setCell (p := ⟨w.heap.size + 1, 1, none⟩) (by simp) _⟩
    · have hin := inB_iff.1 h1
      obtain ⟨k, rfl⟩ : ∃ k : Nat, i = (k : Nat) := ⟨i.toNat, by omega⟩
      have hk : k < ps.length := by omega
      have H1 : Hid (spanCode e0 e1 ps ts (k : Nat) = if (spI e0 e1 ps k).2 < (spI e0 e1 ps k).1 then 1 else 0) := Lib.hid (by unfold spanCode; rw [if_neg (by rw [H0.out]; simp), h1, if_neg (by simp)]; rfl)
      obtain ⟨pb, off, rfl, hG⟩ := HG.out.gi hk
      have HSP := Lib.hid (span_at hG hk)
      obtain ⟨p0, p1, p2, p3⟩ := hG.rp.proof' hk
      have k0 : (0 : Int) ≤ (k : Int) := by omega
      have k1 : (k : Int) < (ps.length : Int) := by omega
      clear h1 hG hin
      go_wp2_with fail
      refine HSP.out.mono ?_
      rintro e w3 ⟨rfl, hb3⟩
      have hbw3 := hbw.trans (hb3.mono hbw.size)
      have c0 := hb3.at_ hlt c0
      have c1 := hb3.at_ hlt c1
      have f0 := (hb3.frozen (p := ⟨w.heap.size + 1, 0, none⟩) hlt).trans f0
      have f1 := (hb3.frozen (p := ⟨w.heap.size + 1, 1, none⟩) hlt).trans f1
      have lt3 := Nat.lt_of_lt_of_le hlt hb3.size
      have HSE : Hid (spanR e0 e1 ps ts (k : Nat) = if (spI e0 e1 ps k).2 < (spI e0 e1 ps k).1 then (0, 0) else spI e0 e1 ps k) := Lib.hid (by
        unfold spanR
        rw [H1.out]
        split
        · rw [if_neg (by decide)]
        · rw [if_pos rfl]; rfl)
      generalize spI e0 e1 ps k = S at HSE H1 ⊢
      obtain ⟨s0, s1⟩ := S
      clear HSP p0 p1 p2 p3 b2 hb3
      by_cases hlo : s1 < s0
      · go_wp2_with fail
        obtain ⟨r0, r1⟩ := two_set (u := .int .i64 0) (v := .int .i64 0) c0 c1
        have hbz := (hbw3.setCell (p := ⟨w.heap.size + 1, 0, none⟩) (by simp) (.int .i64 0)).setCell (p := ⟨w.heap.size + 1, 1, none⟩) (by simp) (.int .i64 0)
        have hlz : w.heap.size + 1 < ((w3.setCell ⟨w.heap.size + 1, 0, none⟩ (.int .i64 0)).setCell ⟨w.heap.size + 1, 1, none⟩ (.int .i64 0)).heap.size := by simpa [World.setCell] using lt3
        generalize (w3.setCell _ _).setCell _ _ = Z at r0 r1 hbz hlz ⊢
        have hba := below_new Z (.cells #[.int .i64 s0, .int .i64 s1] 36)
        have q0 := hba.at_ hlz r0
        have q1 := hba.at_ hlz r1
        have hbq := hbz.trans (hba.mono hbz.size)
        generalize Z.alloc _ = Y at q0 q1 hbq ⊢
        refine bodyPost_ret (v := .tuple #[.agg #[.int .i64 0, .int .i64 0], .int .i64 1]) (by simp [results, Tryz.results51, go_sem, q0, q1]) rfl ⟨spE_eq (s := (0, 0)) (by rw [HSE.out]; rw [if_pos hlo]) (by rw [H1.out]; rw [if_pos hlo]), hbq⟩
      · go_wp2_with fail
        obtain ⟨r0, r1⟩ := two_set (u := .int .i64 s0) (v := .int .i64 s1) c0 c1
        have hbz := (hbw3.setCell (p := ⟨w.heap.size + 1, 0, none⟩) (by simp) (.int .i64 s0)).setCell (p := ⟨w.heap.size + 1, 1, none⟩) (by simp) (.int .i64 s1)
        have hlz : w.heap.size + 1 < ((w3.setCell ⟨w.heap.size + 1, 0, none⟩ (.int .i64 s0)).setCell ⟨w.heap.size + 1, 1, none⟩ (.int .i64 s1)).heap.size := by simpa [World.setCell] using lt3
        generalize (w3.setCell _ _).setCell _ _ = Z at r0 r1 hbz hlz ⊢
        have hba := below_new Z (.cells #[.int .i64 s0, .int .i64 s1] 36)
        have q0 := hba.at_ hlz r0
        have q1 := hba.at_ hlz r1
        have hbq := hbz.trans (hba.mono hbz.size)
        generalize Z.alloc _ = Y at q0 q1 hbq ⊢
        refine bodyPost_ret (v := .tuple #[.agg #[.int .i64 s0, .int .i64 s1], .int .i64 0]) (by simp [results, Tryz.results51, go_sem, q0, q1]) rfl ⟨spE_eq (s := (s0, s1)) (by rw [HSE.out]; exact (if_neg (Int.not_lt.2 hlo)).symm) (by rw [H1.out]; exact (if_neg (Int.not_lt.2 hlo)).symm), hbq⟩
  · have h0' : (ckBook e0 e1 ps ts == 0) = false := by simpa using h0
    have h0'' : (ckBook e0 e1 ps ts != 0) = true := by simpa using h0
    have H0 := Lib.hid h0
    have H1 : Hid (spanCode e0 e1 ps ts i = ckBook e0 e1 ps ts) := Lib.hid (if_pos h0)
    clear HC h0 hb1
    go_wp2_with fail
    obtain ⟨r0, r1⟩ := two_set (u := .int .i64 0) (v := .int .i64 0) c0 c1
    refine bodyPost_ret (v := .tuple #[.agg #[.int .i64 0, .int .i64 0], .int .i64 (ckBook e0 e1 ps ts)]) (by simp [results, Tryz.results51, go_sem, r0, r1]) rfl ⟨spE_eq (s := (0, 0)) (by unfold spanR; rw [if_neg (by rw [H1.out]; exact H0.out)]) H1.out.symm, (hbw.setCell (p := ⟨w.heap.size + 1, 0, none⟩) (by simp) _).setCell (p := ⟨w.heap.size + 1, 1, none⟩) (by simp) _⟩
end Go.Proofs.YtcdjoegihmfanaaGreat
namespace Go.Proofs.YtcdjoegihmfanaaGreat
open Go.RowKit
set_option linter.unusedVariables false
def longB (ps : List Pr) (ts : List Tr) : Bool := decide (12 < ps.length) || decide (6 < ts.length)
set_option maxHeartbeats 1000000 in
theorem long_any (e0 e1 : Int) (A B : Option Addr) (c d : Nat) (ps : List Pr) (ts : List Tr) (w : World) (hl : ps.length ≤ 1000000) (hm : ts.length ≤ 1000000) :
    Calls Tryz.prog 16 #[bkV e0 e1 (.slice A ps.length c) (.slice B ts.length d)] w fun e w' => e = .returned (.bool (longB ps ts)) ∧ Below w.heap.size w w' := by
  unfold bkV
  by_cases h1 : 12 < ps.length
  · have h1' : (12 : Int) < (ps.length : Int) := by omega
    have HF : Hid (longB ps ts = true) := Lib.hid (by unfold longB; rw [decide_eq_true h1]; rfl)
    go_enter Tryz.func16, Tryz.ntmps16
    go_wp2_with fail
    go_ret
    exact ⟨ret_bool HF.out.symm, by go_grown⟩
  · have h1' : ¬ (12 : Int) < (ps.length : Int) := by omega
    have HF : Hid (longB ps ts = decide ((6 : Int) < (ts.length : Int))) := Lib.hid (by unfold longB; rw [decide_eq_false h1, Bool.false_or]; exact decide_eq_decide.2 (by omega))
    go_enter Tryz.func16, Tryz.ntmps16
    go_wp2_with fail
    go_ret
    exact ⟨ret_bool HF.out.symm, by go_grown⟩
theorem lspan_any (x y : Int) (w : World) : Calls Tryz.prog 71 #[.int .i64 x, .int .i64 y] w fun e w' => e = .returned (spV (x, y)) ∧ Below w.heap.size w w' := by
  unfold spV
  go_enter Tryz.func71, Tryz.ntmps71
  go_wp2_with fail
  exact bodyPost_ret (v := .agg #[.int .i64 x, .int .i64 y]) (by simp [results, Tryz.results71, go_sem]) rfl ⟨rfl, by go_grown⟩
theorem within_any (x lo hi : Int) (w : World) : Calls Tryz.prog 40 #[.int .i64 x, spV (lo, hi)] w fun e w' => e = .returned (.bool (inB x lo hi)) ∧ Below w.heap.size w w' := by
  unfold spV
  have HF : Hid (inB x lo hi = (decide (lo ≤ x) && decide (x ≤ hi))) := Lib.hid (by rw [Bool.eq_iff_iff, inB_iff]; simp)
  by_cases h1 : lo ≤ x
  · have HG : Hid (inB x lo hi = decide (x ≤ hi)) := Lib.hid (by rw [HF.out, decide_eq_true h1, Bool.true_and])
    go_enter Tryz.func40, Tryz.ntmps40
    go_wp2_with fail
    go_ret
    exact ⟨ret_bool HG.out.symm, by go_grown⟩
  · have HG : Hid (inB x lo hi = false) := Lib.hid (by rw [HF.out, decide_eq_false h1]; rfl)
    go_enter Tryz.func40, Tryz.ntmps40
    go_wp2_with fail
    go_ret
    exact ⟨ret_bool HG.out.symm, by go_grown⟩
end Go.Proofs.YtcdjoegihmfanaaGreat
namespace Go.Proofs.YtcdjoegihmfanaaGreat
open Go.RowKit
set_option linter.unusedVariables false
def twoP : List Pr := [⟨0, 10, 1000, 1003⟩, ⟨0, 50, 1000, 1006⟩, ⟨0, 90, 1000, 997⟩]
def twoT : List Tr := [⟨0, 20, 3000, 0, 30, 1200, 10⟩]
theorem Blk.rd {w : World} {b : Nat} {x : List Value} (h : Blk w b x) : Rd w w.heap.size (some ⟨b, 0, none⟩) x := fun _ => ⟨b, 0, rfl, h.lt, fun j u hu => by rw [Nat.zero_add]; exact h.cells j u hu⟩
set_option maxHeartbeats 1000000 in
theorem Two_any (w : World) : Calls Tryz.prog 83 #[] w fun e w' => (∃ A B, e = .returned (bkV 2 2 (.slice (some ⟨A, 0, none⟩) 3 3) (.slice (some ⟨B, 0, none⟩) 1 1)) ∧ w.heap.size ≤ A ∧ A < B ∧ BA w' (some ⟨A, 0, none⟩) (some ⟨B, 0, none⟩) 3 1 twoP twoT ∧ Blk w' B [.int .i64 0, .int .i64 20, .int .i64 3000, .int .i64 0, .int .i64 30, .int .i64 1200, .int .i64 10]) ∧ Below w.heap.size w w' := by
  go_enter Tryz.func83, Tryz.ntmps83
  go_wp2_with fail
  have b0 := below_new w (.cells #[.int .i64 2, .int .i64 2, .slice (some ⟨w.heap.size + 1, 0, none⟩) 3 3, .slice (some ⟨w.heap.size + 1 + 1, 0, none⟩) 1 1] 26)
  have B0 := Blk.new w [.int .i64 2, .int .i64 2, .slice (some ⟨w.heap.size + 1, 0, none⟩) 3 3, .slice (some ⟨w.heap.size + 1 + 1, 0, none⟩) 1 1] 26
  change Blk (w.alloc (.cells #[.int .i64 2, .int .i64 2, .slice (some ⟨w.heap.size + 1, 0, none⟩) 3 3, .slice (some ⟨w.heap.size + 1 + 1, 0, none⟩) 1 1] 26)) _ _ at B0
  have hs0 : (w.alloc (.cells #[.int .i64 2, .int .i64 2, .slice (some ⟨w.heap.size + 1, 0, none⟩) 3 3, .slice (some ⟨w.heap.size + 1 + 1, 0, none⟩) 1 1] 26)).heap.size = w.heap.size + 1 := by simp
  generalize w.alloc _ = W0 at b0 B0 hs0 ⊢
  have b1 := below_new W0 (.cells #[.int .i64 0, .int .i64 10, .int .i64 1000, .int .i64 1003, .int .i64 0, .int .i64 50, .int .i64 1000, .int .i64 1006, .int .i64 0, .int .i64 90, .int .i64 1000, .int .i64 997] 57)
  have B1 := Blk.new W0 [.int .i64 0, .int .i64 10, .int .i64 1000, .int .i64 1003, .int .i64 0, .int .i64 50, .int .i64 1000, .int .i64 1006, .int .i64 0, .int .i64 90, .int .i64 1000, .int .i64 997] 57
  change Blk (W0.alloc (.cells #[.int .i64 0, .int .i64 10, .int .i64 1000, .int .i64 1003, .int .i64 0, .int .i64 50, .int .i64 1000, .int .i64 1006, .int .i64 0, .int .i64 90, .int .i64 1000, .int .i64 997] 57)) _ _ at B1
  have hs1 : (W0.alloc (.cells #[.int .i64 0, .int .i64 10, .int .i64 1000, .int .i64 1003, .int .i64 0, .int .i64 50, .int .i64 1000, .int .i64 1006, .int .i64 0, .int .i64 90, .int .i64 1000, .int .i64 997] 57)).heap.size = w.heap.size + 1 + 1 := by simp [hs0]
  rw [hs0] at B1
  generalize W0.alloc _ = W1 at b1 B1 hs1 ⊢
  have b2 := below_new W1 (.cells #[.int .i64 0, .int .i64 20, .int .i64 3000, .int .i64 0, .int .i64 30, .int .i64 1200, .int .i64 10] 120)
  have B2 := Blk.new W1 [.int .i64 0, .int .i64 20, .int .i64 3000, .int .i64 0, .int .i64 30, .int .i64 1200, .int .i64 10] 120
  change Blk (W1.alloc (.cells #[.int .i64 0, .int .i64 20, .int .i64 3000, .int .i64 0, .int .i64 30, .int .i64 1200, .int .i64 10] 120)) _ _ at B2
  rw [hs1] at B2
  generalize W1.alloc _ = W2 at b2 B2 ⊢
  have c := (B0.below b1).below b2
  have q0 := c.cells 0 _ rfl
  have q1 := c.cells 1 _ rfl
  have q2 := c.cells 2 _ rfl
  have q3 := c.cells 3 _ rfl
  have hb : Below w.heap.size w W2 := (b0.trans (b1.mono b0.size)).trans (b2.mono (Nat.le_trans b0.size b1.size))
  exact bodyPost_ret (v := bkV 2 2 (.slice (some ⟨w.heap.size + 1, 0, none⟩) 3 3) (.slice (some ⟨w.heap.size + 1 + 1, 0, none⟩) 1 1)) (by simp [results, Tryz.results83, go_sem, q0, q1, q2, q3, bkV]) rfl
    ⟨⟨w.heap.size + 1, w.heap.size + 1 + 1, rfl, by omega, by omega, ⟨(B1.below b2).rd, B2.rd, Nat.le_refl _, Nat.le_refl _, by decide, by decide⟩, B2⟩, hb⟩
end Go.Proofs.YtcdjoegihmfanaaGreat
namespace Go.Proofs.YtcdjoegihmfanaaGreat
open Go.RowKit
set_option linter.unusedVariables false
theorem Blk.block {w w' : World} {b : Nat} {x : List Value} (h : Blk w b x) (hs : w.heap.size ≤ w'.heap.size) (hb : w'.heap[b]? = w.heap[b]?) : Blk w' b x :=
  ⟨Nat.lt_of_lt_of_le h.lt hs, fun j u hu => (World.cell?_of_block (a := ⟨b, j, none⟩) hb).trans (h.cells j u hu), fun o => (World.frozen?_of_block (a := ⟨b, o, none⟩) hb).trans (h.free o)⟩
theorem Blk.grown {w w' : World} {b : Nat} {x : List Value} {r : Option Nat} (h : Blk w b x) (hg : w.grownBy w' r) (hr : some b ≠ r) : Blk w' b x := h.block hg.size (hg.block b h.lt hr)
theorem below_grown {W wr w' : World} {r : Nat} (h : Below W.heap.size W wr) (hg : wr.grownBy w' (some r)) (hr : W.heap.size ≤ r) : Below W.heap.size W w' :=
  ⟨hg.os.trans h.os, hg.tape.trans h.tape, hg.output.trans h.output, Nat.le_trans h.size hg.size, fun k hk => (hg.block k (Nat.lt_of_lt_of_le hk h.size) (by intro e; injection e with e; omega)).trans (h.block k hk)⟩
end Go.Proofs.YtcdjoegihmfanaaGreat
