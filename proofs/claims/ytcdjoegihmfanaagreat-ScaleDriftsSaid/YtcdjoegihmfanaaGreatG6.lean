/- The iterator over a book's proofs: those of one bridge, by their minutes, with their indices. (*desk).proofs: the iterator as a value. A region in a round of a range over a function, of operations that defer nothing: what is proved of it outside a fence holds there. A range over the proofs of a bridge: what its body keeps, and where it leads. order: the indices of one bridge's proofs, by their minutes. -/
import Derived.Test.YtcdjoegihmfanaaGreatG5
import Derived.Shelf.SlSortCmp.NoneTotal
import Derived.Test.YtcdjoegihmfanaaGreatG1
import Derived.Maps.OwnIn
namespace Go.Proofs.YtcdjoegihmfanaaGreat
open Go.RowKit Go.Shelf
set_option linter.unusedVariables false
attribute [local go_sem] Oper.semAt_some
/-- What the iterator reads: the desk by its box, the number of the bridge, the book's proofs. -/
structure ItE (w : World) (bx g bn : Nat) (n : Int) (A : Option Addr) (c : Nat) (ps : List Pr) (B : Nat) : Prop where
  cx : w.cell? ⟨bx, 0, none⟩ = some (.pointer (some ⟨g, 0, none⟩))
  cp : w.cell? ⟨g, 2, none⟩ = some (.slice A ps.length c)
  cn : w.cell? ⟨bn, 0, none⟩ = some (.int .i64 n)
  rp : Rd w B A (prs ps)
  hx : bx < B
  hg : g < B
  hn : bn < B
  hB : B ≤ w.heap.size
theorem ItE.below {w w' : World} {bx g bn : Nat} {n : Int} {A : Option Addr} {c : Nat} {ps : List Pr} {B : Nat} (h : ItE w bx g bn n A c ps B) (hb : Below w.heap.size w w') : ItE w' bx g bn n A c ps B :=
  ⟨(hb.cell (p := ⟨bx, 0, none⟩) (Nat.lt_of_lt_of_le h.hx h.hB)).trans h.cx, (hb.cell (p := ⟨g, 2, none⟩) (Nat.lt_of_lt_of_le h.hg h.hB)).trans h.cp, (hb.cell (p := ⟨bn, 0, none⟩) (Nat.lt_of_lt_of_le h.hn h.hB)).trans h.cn,
    h.rp.keep fun b o hlt => hb.cell (p := ⟨b, o, none⟩) (Nat.lt_of_lt_of_le hlt h.hB), h.hx, h.hg, h.hn, Nat.le_trans h.hB hb.size⟩
/-- It, with the box of a proof. -/
structure ItP (w : World) (bx g bn : Nat) (n : Int) (A : Option Addr) (c : Nat) (ps : List Pr) (B bp : Nat) (p : Pr) : Prop where
  cx : w.cell? ⟨bx, 0, none⟩ = some (.pointer (some ⟨g, 0, none⟩))
  cp : w.cell? ⟨g, 2, none⟩ = some (.slice A ps.length c)
  cn : w.cell? ⟨bn, 0, none⟩ = some (.int .i64 n)
  p0 : w.cell? ⟨bp, 0, none⟩ = some (.int .i64 p.b)
  p1 : w.cell? ⟨bp, 1, none⟩ = some (.int .i64 p.m)
  p2 : w.cell? ⟨bp, 2, none⟩ = some (.int .i64 p.k)
  p3 : w.cell? ⟨bp, 3, none⟩ = some (.int .i64 p.r)
  e : ItE w bx g bn n A c ps B
theorem by_any (w : World) : Calls Tryz.prog 165 #[.func (.func 166) #[] #[]] w fun e w' =>
    ∃ a, e = .returned (.func (.func 201) #[] #[.pointer (some ⟨a, 0, none⟩)]) ∧ w.heap.size ≤ a ∧ a < w'.heap.size ∧ w'.cell? ⟨a, 0, none⟩ = some (.func (.func 166) #[] #[]) ∧ Below w.heap.size w w' := by
  have B1 := Blk.new w [.func (.func 166) #[] #[]] 236
  go_enter Tryz.func165, Tryz.ntmps165
  go_wp2_with fail
  go_ret
  refine ⟨w.heap.size, rfl, Nat.le_refl _, by simp, ?_, below_new _ _⟩
  exact B1.cells 0 _ rfl
theorem rd_block {w w' : World} {S : Nat} {xs : List Value} (h : Rd w w.heap.size (some ⟨S, 0, none⟩) xs) (hh : w'.heap[S]? = w.heap[S]?) (hs : w.heap.size ≤ w'.heap.size) : Rd w' w'.heap.size (some ⟨S, 0, none⟩) xs := fun hn => by
  obtain ⟨b, off, e, hb, hc⟩ := h hn
  injection e with e
  injection e with e1 e2
  subst e1 e2
  exact ⟨S, 0, rfl, Nat.lt_of_lt_of_le hb hs, fun j u hu => (World.cell?_of_block (a := ⟨S, 0 + j, none⟩) hh).trans (hc j u hu)⟩
/-- The indices of the first k that are of the bridge. -/
def ordK (ps qs : List Pr) (n : Int) (k : Nat) : List Nat := ((qs.take k).filter fun p => p.b == n).map (idxP ps)
theorem ordK_zero (ps qs : List Pr) (n : Int) : ordK ps qs n 0 = [] := rfl
theorem ordK_succ {ps qs : List Pr} {n : Int} {k : Nat} (h : k < qs.length) : ordK ps qs n (k + 1) = if qs[k].b = n then ordK ps qs n k ++ [idxP ps qs[k]] else ordK ps qs n k := by
  unfold ordK
  rw [List.take_succ_eq_append_getElem h, List.filter_append, List.map_append]
  by_cases hb : qs[k].b = n <;> simp [hb]
theorem ordK_all {ps qs : List Pr} (ho : Once ps) (hs : SortedP ps qs) (n : Int) : ordK ps qs n qs.length = ordL ps n := by
  unfold ordK; rw [List.take_length]; exact ord_sorted ho hs n
theorem ordK_pre {ps qs : List Pr} (ho : Once ps) (hs : SortedP ps qs) (n : Int) (k : Nat) : ordK ps qs n k <+: ordL ps n := by
  rw [← ordK_all ho hs n]
  unfold ordK
  rw [List.take_length]
  exact ((List.take_prefix k qs).filter _).map _
theorem meas_next {a k : Nat} (h : k < a) : a - ((k : Int) + 1).toNat < a - (k : Int).toNat := by omega
set_option maxRecDepth 100000 in
set_option maxHeartbeats 1000000 in
theorem proofs1_any (w : World) (m l bx g bn : Nat) (n : Int) (A : Option Addr) (c : Nat) (ps : List Pr) (J : Nat → List Nat → World → Prop) (Jx : List Nat → World → Prop)
    (hE : ItE w bx g bn n A c ps w.heap.size) (h0 : 0 < ps.length) (hl : ps.length ≤ 10) (hm : ∀ p ∈ ps, 0 ≤ p.m ∧ p.m ≤ 10000) (ho : Once ps)
    (hJ0 : ∀ S W, w.heap.size ≤ S → S < W.heap.size → Below w.heap.size w W → J S [] W)
    (hJe : ∀ S pre W, J S pre W → ItE W bx g bn n A c ps w.heap.size)
    (hJb : ∀ S pre W W', J S pre W → Below W.heap.size W W' → J S pre W')
    (HY : ∀ S pre i W, J S pre W → (pre ++ [i]) <+: ordL ps n → YieldAt Fence.wide m Tryz.prog l #[.int .i64 (i : Nat), prV (pAt ps i)] W fun e W' =>
      W'.heap[S]? = W.heap[S]? ∧ W.heap.size ≤ W'.heap.size ∧ ((e = .returned (.bool true) ∧ J S (pre ++ [i]) W') ∨ (e = .returned (.bool false) ∧ Jx (pre ++ [i]) W'))) :
    Calls Tryz.prog 162 #[.func (.yield l) #[] #[], .pointer (some ⟨bx, 0, none⟩), .pointer (some ⟨bn, 0, none⟩)] w fun e W' => (∃ v, e = .returned v) ∧
      ((∃ S, J S (ordL ps n) W') ∨ ∃ pre, pre <+: ordL ps n ∧ Jx pre W') := by
  have HE := Lib.hid hE
  have cx := hE.cx
  have cp := hE.cp
  clear hE
  have H0 := Lib.hid h0
  have HL := Lib.hid hl
  have HO := Lib.hid ho
  have HC := Lib.hid (cloneProof_any A c ps w HE.out.rp (by omega) h0)
  clear h0 hl ho
  go_enter Tryz.func162, Tryz.ntmps162
  go_wp2_with fail
  refine HC.out.mono ?_
  rintro e w1 ⟨v, rfl, hown, hb1⟩
  rcases hown.2 with ⟨_, hlen⟩ | ⟨S, cap, cur, rfl, hbS, hgS, hcap, hmx, hs3, ht3⟩
  · exact absurd hlen (by have := H0.out; omega)
  have hSl : S < w1.heap.size := (Array.getElem?_eq_some_iff.1 hgS).1
  have HOW := Lib.hid hown
  clear HC hown hgS hcap hmx hs3 ht3
  go_wp2_with fail
  refine (by_any _).mono ?_
  rintro e w2 ⟨a, rfl, ha1, ha2, ha3, hb2⟩
  have how2 : w2.ownsRow w.heap.size 57 4 (.slice (some ⟨S, 0, none⟩) ps.length cap) ps.length (prs ps) := own_block HOW.out (fun k hk => by
    cases hk
    exact hb2.block S hSl)
  have hbw2 : Below w.heap.size w w2 := hb1.trans (hb2.mono hb1.size)
  have HS := Lib.hid (sort_any S cap a ps.length w.heap.size ps w2 rfl hm (by have := HL.out; omega) how2 hbS ha3 ha2 (by omega))
  clear how2 HOW
  go_wp2_with fail
  refine HS.out.mono ?_
  rintro e w3 ⟨rfl, qs, hqs, hrd, hgr⟩
  have hSl3 : S < w3.heap.size := Nat.lt_of_lt_of_le (Nat.lt_of_lt_of_le hSl hb2.size) hgr.size
  have hbw3 : Below w.heap.size w w3 := ⟨hgr.os.trans hbw2.os, hgr.tape.trans hbw2.tape, hgr.output.trans hbw2.output, Nat.le_trans hbw2.size hgr.size, fun k hk => (hgr.block k (Nat.lt_of_lt_of_le hk hbw2.size) (by intro e; injection e with e; omega)).trans (hbw2.block k hk)⟩
  have HJ := Lib.hid (hJ0 S w3 hbS hSl3 hbw3)
  have HQ := Lib.hid hqs
  have HR := Lib.hid hrd
  have hlen := hqs.1.length_eq
  clear HS hqs hrd hgr hbw2 hb1 hb2 ha3 hJ0 cx cp hbw3
  rw [← hlen]
  have HLEN := Lib.hid hlen
  clear hlen
  go_wp2_with fail
  go_loopw [18] (fun h wr => ∃ k : Nat, k ≤ qs.length ∧ h = .int .i64 k ∧ J S (ordK ps qs n k) wr ∧ wr.heap[S]? = w3.heap[S]? ∧ w3.heap.size ≤ wr.heap.size) (fun h _ => qs.length - (intOf h).toNat)
  case atStart => exact ⟨0, Nat.zero_le _, rfl, by rw [ordK_zero]; exact HJ.out, rfl, Nat.le_refl _⟩
  case round =>
    obtain ⟨k, hk, rfl, hj, hS, hsz⟩ := hrel
    have HJk := Lib.hid hj
    have HSk := Lib.hid hS
    have hrk := rd_block HR.out hS hsz
    clear hj hS
    by_cases hkl : k < qs.length
    · have hkl' : ¬ qs.length ≤ k := by omega
      obtain ⟨b, off, eb, hbb, c0, c1, c2, c3⟩ := hrk.proof hkl
      injection eb with eb
      injection eb with e1 e2
      subst e1 e2
      have BP := fun (W : World) => Blk.new W [.int .i64 qs[k].b, .int .i64 qs[k].m, .int .i64 qs[k].k, .int .i64 qs[k].r] 57
      rw [Nat.zero_add] at c0 c1 c2 c3
      clear hrk
      go_wp2_with fail
      have bq := BP wr
      have hbq := below_new wr (.cells #[.int .i64 qs[k].b, .int .i64 qs[k].m, .int .i64 qs[k].k, .int .i64 qs[k].r] 57)
      obtain ⟨Wp, hWp⟩ : ∃ Wp, wr.alloc (.cells #[.int .i64 qs[k].b, .int .i64 qs[k].m, .int .i64 qs[k].k, .int .i64 qs[k].r] 57) = Wp := ⟨_, rfl⟩
      rw [hWp] at bq hbq
      rw [hWp]
      have hSlr : S < wr.heap.size := Nat.lt_of_lt_of_le hSl3 hsz
      obtain ⟨bp, hbp⟩ : ∃ bp, wr.heap.size = bp := ⟨_, rfl⟩
      rw [hbp] at bq
      rw [hbp]
      have HJp := Lib.hid (hJb S _ wr Wp HJk.out hbq)
      have HSp : Hid (Wp.heap[S]? = w3.heap[S]?) := (hbq.block S hSlr).trans HSk.out
      have hszp : w3.heap.size ≤ Wp.heap.size := Nat.le_trans hsz hbq.size
      obtain ⟨p, hp⟩ : ∃ p, qs[k] = p := ⟨_, rfl⟩
      have hpm : p ∈ ps := HQ.out.1.mem_iff.1 (hp ▸ List.getElem_mem hkl)
      have hord := ordK_succ (ps := ps) (n := n) hkl
      have hpre := ordK_pre HO.out HQ.out n (k + 1)
      rw [hp] at hord bq
      rw [hp]
      have HP : ∀ x, Below Wp.heap.size Wp x → Hid (ItP x bx g bn n A c ps w.heap.size bp p) := fun x hb => by
        have b1 := bq.below hb
        have e1 := hJe _ _ _ (hJb S _ Wp x HJp.out hb)
        exact ⟨e1.cx, e1.cp, e1.cn, b1.cells 0 _ rfl, b1.cells 1 _ rfl, b1.cells 2 _ rfl, b1.cells 3 _ rfl, e1⟩
      have HX : ∀ x, Below Wp.heap.size Wp x → Calls Tryz.prog 167 #[.slice A ps.length c, .agg #[.int .i64 p.b, .int .i64 p.m, .int .i64 p.k, .int .i64 p.r]] x fun e w' => e = .returned (.int .i64 (idxP ps p : Nat)) ∧ Below x.heap.size x w' := fun x hb => by
        obtain ⟨hi, heq, hno⟩ := idxP_spec hpm
        have e1 := (HP x hb).out.e
        have := indexP_any A c ps (idxP ps p) hi (fun j hj => by rw [heq]; exact hno j hj) x (e1.rp.more e1.hB) (by have := HL.out; omega)
        rw [heq] at this
        exact this
      clear c0 c1 c2 c3 BP bq hbq hWp HJk HSk hbb
      have Q9 : Hid (wrap64 ((k : Int) + 1) = (k : Int) + 1) := by
        have h1 := HL.out
        have h2 := HLEN.out
        exact IntWalk.wrap64_in _ (by omega)
      by_cases hb : p.b = n
      · have Hb := Lib.hid hb
        rw [if_pos hb] at hord
        clear hb
        rw [hord] at hpre
        have HPRE := Lib.hid hpre
        have HORD := Lib.hid hord
        clear hpre hord
        have hpv : pAt ps (idxP ps p) = p := by
          obtain ⟨hi, heq, _⟩ := idxP_spec hpm
          rw [pAt_eq hi]; exact heq
        have HYp := fun W h => HY S (ordK ps qs n k) (idxP ps p) W h HPRE.out
        rw [hpv] at HYp
        have HYQ := Lib.hid HYp
        clear hpv HYp
        refine wp_invU (q := m + 1) 14 (by kernel_rfl) (by kernel_rfl) (by kernel_rfl) (by decide) (FL [PEq (.pointer (some ⟨bp, 0, none⟩)), PEq (.int .i64 p.b), PEq (.int .i64 n), PEq (.bool true), PEq (.bool true), PEq (.func (.yield l) #[] #[]), PEq (.pointer (some ⟨g, 0, none⟩)), PEq (.pointer (some ⟨g, 0, none⟩)), PEq (.pointer (some ⟨g, 0, none⟩)), PEq (.pointer (some ⟨g, 2, none⟩)), PEq (.slice A ps.length c), PEq (prV p), PEq (.int .i64 (idxP ps p : Nat)), PEq (prV p)])
          (fun x => Below Wp.heap.size Wp x) (fun x y => Below x.heap.size x y) (FL.keepB (by simp [stbB_eq])) (below_drew Wp) ?_ ?_
        · intro iq o hi' ho listed vals a w5 hdep hM hAt K hK
          have HI := Lib.hid hM.inv
          match iq, hi' with
          | 0, _ =>
            injection ho with ho
            subst ho
            rw [if_pos (wantedN rfl)]
            obtain ⟨e6, e6'⟩ := hAt.slot 6 (by kernel_rfl) (by rfl)
            go_simp
            exact hK _ w5 (Below.refl _ _) HI.out rfl
          | 1, _ =>
            injection ho with ho
            subst ho
            rw [if_pos (wantedN rfl)]
            have l0 := hdep ⟨0, .data⟩ (by simp) rfl
            obtain ⟨x0, x0'⟩ := hAt.dep 0 (d := 22) (by omega) l0 (by rfl) (hM.fact 0 (by omega) l0)
            have q0 := (HP w5 HI.out).out.p0
            go_simp
            exact hK _ w5 (Below.refl _ _) HI.out rfl
          | 2, _ =>
            injection ho with ho
            subst ho
            rw [if_pos (wantedN rfl)]
            obtain ⟨e2, e2'⟩ := hAt.slot 2 (by kernel_rfl) (by rfl)
            have q0 := (HP w5 HI.out).out.cn
            go_simp
            exact hK _ w5 (Below.refl _ _) HI.out rfl
          | 3, _ =>
            injection ho with ho
            subst ho
            rw [if_pos (wantedN rfl)]
            have l1 := hdep ⟨1, .data⟩ (by simp) rfl
            obtain ⟨x1, x1'⟩ := hAt.dep 1 (d := 23) (by omega) l1 (by rfl) (hM.fact 1 (by omega) l1)
            have l2 := hdep ⟨2, .data⟩ (by simp) rfl
            obtain ⟨x2, x2'⟩ := hAt.dep 2 (d := 24) (by omega) l2 (by rfl) (hM.fact 2 (by omega) l2)
            go_simp
            exact hK _ w5 (Below.refl _ _) HI.out (by have h := Hb.out; simp [PEq, FL, h])
          | 4, _ =>
            injection ho with ho
            subst ho
            rw [if_pos (wantedN rfl)]
            have l3 := hdep ⟨3, .data⟩ (by simp) rfl
            obtain ⟨x3, x3'⟩ := hAt.dep 3 (d := 25) (by omega) l3 (by rfl) (hM.fact 3 (by omega) l3)
            go_simp
            exact hK _ w5 (Below.refl _ _) HI.out rfl
          | 5, _ =>
            injection ho with ho
            subst ho
            have l4 := hdep ⟨4, .guard⟩ (by simp) rfl
            obtain ⟨x4, x4'⟩ := hAt.dep 4 (d := 26) (by omega) l4 (by rfl) (hM.fact 4 (by omega) l4)
            rw [if_pos (by rw [wantedG (g := 4) rfl (by rfl) x4]; rfl)]
            obtain ⟨e0, e0'⟩ := hAt.slot 0 (by kernel_rfl) (by rfl)
            go_simp
            exact hK _ w5 (Below.refl _ _) HI.out rfl
          | 6, _ =>
            injection ho with ho
            subst ho
            have l4 := hdep ⟨4, .guard⟩ (by simp) rfl
            obtain ⟨x4, x4'⟩ := hAt.dep 4 (d := 26) (by omega) l4 (by rfl) (hM.fact 4 (by omega) l4)
            rw [if_pos (by rw [wantedG (g := 4) rfl (by rfl) x4]; rfl)]
            obtain ⟨e1, e1'⟩ := hAt.slot 1 (by kernel_rfl) (by rfl)
            have q0 := (HP w5 HI.out).out.cx
            go_simp
            exact hK _ w5 (Below.refl _ _) HI.out rfl
          | 7, _ =>
            injection ho with ho
            subst ho
            have l4 := hdep ⟨4, .guard⟩ (by simp) rfl
            obtain ⟨x4, x4'⟩ := hAt.dep 4 (d := 26) (by omega) l4 (by rfl) (hM.fact 4 (by omega) l4)
            rw [if_pos (by rw [wantedG (g := 4) rfl (by rfl) x4]; rfl)]
            have l6 := hdep ⟨6, .data⟩ (by simp) rfl
            obtain ⟨x6, x6'⟩ := hAt.dep 6 (d := 28) (by omega) l6 (by rfl) (hM.fact 6 (by omega) l6)
            go_simp
            exact hK _ w5 (Below.refl _ _) HI.out rfl
          | 8, _ =>
            injection ho with ho
            subst ho
            have l4 := hdep ⟨4, .guard⟩ (by simp) rfl
            obtain ⟨x4, x4'⟩ := hAt.dep 4 (d := 26) (by omega) l4 (by rfl) (hM.fact 4 (by omega) l4)
            rw [if_pos (by rw [wantedG (g := 4) rfl (by rfl) x4]; rfl)]
            have l7 := hdep ⟨7, .data⟩ (by simp) rfl
            obtain ⟨x7, x7'⟩ := hAt.dep 7 (d := 29) (by omega) l7 (by rfl) (hM.fact 7 (by omega) l7)
            go_simp
            exact hK _ w5 (Below.refl _ _) HI.out rfl
          | 9, _ =>
            injection ho with ho
            subst ho
            have l4 := hdep ⟨4, .guard⟩ (by simp) rfl
            obtain ⟨x4, x4'⟩ := hAt.dep 4 (d := 26) (by omega) l4 (by rfl) (hM.fact 4 (by omega) l4)
            rw [if_pos (by rw [wantedG (g := 4) rfl (by rfl) x4]; rfl)]
            have l8 := hdep ⟨8, .data⟩ (by simp) rfl
            obtain ⟨x8, x8'⟩ := hAt.dep 8 (d := 30) (by omega) l8 (by rfl) (hM.fact 8 (by omega) l8)
            go_simp
            exact hK _ w5 (Below.refl _ _) HI.out rfl
          | 10, _ =>
            injection ho with ho
            subst ho
            have l4 := hdep ⟨4, .guard⟩ (by simp) rfl
            obtain ⟨x4, x4'⟩ := hAt.dep 4 (d := 26) (by omega) l4 (by rfl) (hM.fact 4 (by omega) l4)
            rw [if_pos (by rw [wantedG (g := 4) rfl (by rfl) x4]; rfl)]
            have l9 := hdep ⟨9, .data⟩ (by simp) rfl
            obtain ⟨x9, x9'⟩ := hAt.dep 9 (d := 31) (by omega) l9 (by rfl) (hM.fact 9 (by omega) l9)
            have q0 := (HP w5 HI.out).out.cp
            go_simp
            exact hK _ w5 (Below.refl _ _) HI.out rfl
          | 11, _ =>
            injection ho with ho
            subst ho
            have l4 := hdep ⟨4, .guard⟩ (by simp) rfl
            obtain ⟨x4, x4'⟩ := hAt.dep 4 (d := 26) (by omega) l4 (by rfl) (hM.fact 4 (by omega) l4)
            rw [if_pos (by rw [wantedG (g := 4) rfl (by rfl) x4]; rfl)]
            obtain ⟨e6, e6'⟩ := hAt.slot 6 (by kernel_rfl) (by rfl)
            have q0 := (HP w5 HI.out).out.p0
            have q1 := (HP w5 HI.out).out.p1
            have q2 := (HP w5 HI.out).out.p2
            have q3 := (HP w5 HI.out).out.p3
            go_simp
            exact hK _ w5 (Below.refl _ _) HI.out rfl
          | 12, _ =>
            injection ho with ho
            subst ho
            have l4 := hdep ⟨4, .guard⟩ (by simp) rfl
            obtain ⟨x4, x4'⟩ := hAt.dep 4 (d := 26) (by omega) l4 (by rfl) (hM.fact 4 (by omega) l4)
            rw [if_pos (by rw [wantedG (g := 4) rfl (by rfl) x4]; rfl)]
            have l10 := hdep ⟨10, .data⟩ (by simp) rfl
            obtain ⟨x10, x10'⟩ := hAt.dep 10 (d := 32) (by omega) l10 (by rfl) (hM.fact 10 (by omega) l10)
            have l11 := hdep ⟨11, .data⟩ (by simp) rfl
            obtain ⟨x11, x11'⟩ := hAt.dep 11 (d := 33) (by omega) l11 (by rfl) (hM.fact 11 (by omega) l11)
            go_simp
            refine (HX w5 HI.out).mono ?_
            rintro e w6 ⟨rfl, hb6⟩
            exact hK _ w6 hb6 (HI.out.trans (hb6.mono HI.out.size)) rfl
          | 13, _ =>
            injection ho with ho
            subst ho
            have l4 := hdep ⟨4, .guard⟩ (by simp) rfl
            obtain ⟨x4, x4'⟩ := hAt.dep 4 (d := 26) (by omega) l4 (by rfl) (hM.fact 4 (by omega) l4)
            rw [if_pos (by rw [wantedG (g := 4) rfl (by rfl) x4]; rfl)]
            obtain ⟨e6, e6'⟩ := hAt.slot 6 (by kernel_rfl) (by rfl)
            have q0 := (HP w5 HI.out).out.p0
            have q1 := (HP w5 HI.out).out.p1
            have q2 := (HP w5 HI.out).out.p2
            have q3 := (HP w5 HI.out).out.p3
            go_simp
            exact hK _ w5 (Below.refl _ _) HI.out rfl
          | jq + 14, hq => exact absurd hq (by omega)
        · intro vals w5 hM
          have HI := Lib.hid hM.inv
          have f0 : vals 0 = (.pointer (some ⟨bp, 0, none⟩)) := hM.all (by decide) 0 (by omega)
          have f1 : vals 1 = (.int .i64 p.b) := hM.all (by decide) 1 (by omega)
          have f2 : vals 2 = (.int .i64 n) := hM.all (by decide) 2 (by omega)
          have f3 : vals 3 = (.bool true) := hM.all (by decide) 3 (by omega)
          have f4 : vals 4 = (.bool true) := hM.all (by decide) 4 (by omega)
          have f5 : vals 5 = (.func (.yield l) #[] #[]) := hM.all (by decide) 5 (by omega)
          have f6 : vals 6 = (.pointer (some ⟨g, 0, none⟩)) := hM.all (by decide) 6 (by omega)
          have f7 : vals 7 = (.pointer (some ⟨g, 0, none⟩)) := hM.all (by decide) 7 (by omega)
          have f8 : vals 8 = (.pointer (some ⟨g, 0, none⟩)) := hM.all (by decide) 8 (by omega)
          have f9 : vals 9 = (.pointer (some ⟨g, 2, none⟩)) := hM.all (by decide) 9 (by omega)
          have f10 : vals 10 = (.slice A ps.length c) := hM.all (by decide) 10 (by omega)
          have f11 : vals 11 = (prV p) := hM.all (by decide) 11 (by omega)
          have f12 : vals 12 = (.int .i64 (idxP ps p : Nat)) := hM.all (by decide) 12 (by omega)
          have f13 : vals 13 = (prV p) := hM.all (by decide) 13 (by omega)
          clear hM
          simp only [putAll, List.range, List.range.loop, List.foldl_cons, List.foldl_nil, f0, f1, f2, f3, f4, f5, f6, f7, f8, f9, f10, f11, f12, f13]
          clear f0 f1 f2 f3 f4 f5 f6 f7 f8 f9 f10 f11 f12 f13
          change wpAnyIn _ _ _ _ _ _ _ _ (Act.put (Act.put (Act.put (Act.put (Act.put (Act.put (Act.put (Act.put (Act.put (Act.put (Act.put (Act.put (Act.put (Act.put _ (some 22) _) (some 23) _) (some 24) _) (some 25) _) (some 26) _) (some 27) _) (some 28) _) (some 29) _) (some 30) _) (some 31) _) (some 32) _) (some 33) _) (some 34) _) (some 35) _) _
          simp only [Act.put, List.setIfInBounds_toArray, List.set_cons_zero, List.set_cons_succ]
          obtain ⟨fn, tmps, assign, body, hy, hRd⟩ := HYQ.out w5 (hJb S _ Wp w5 HJp.out HI.out)
          have HRd := Lib.hid hRd
          clear hRd
          refine tailU_stepG 14 _ (by kernel_rfl) (by rfl) (by rw [wantedG (g := 4) (c := true) rfl (by rfl) (by rfl)]; rfl) ?_
          intro K hK
          refine ⟨fun _ _ => trivial, ?_⟩
          go_simp
          refine HRd.out.mono ?_
          rintro e W2 ⟨hS2, hs2, ⟨rfl, hj2⟩ | ⟨rfl, hj2⟩⟩
          · have HJ2 := Lib.hid hj2
            have HS2 : Hid (W2.heap[S]? = w3.heap[S]?) := hS2.trans ((HI.out.block S (Nat.lt_of_lt_of_le hSl3 hszp)).trans HSp.out)
            have hsz2 : w3.heap.size ≤ W2.heap.size := Nat.le_trans hszp (Nat.le_trans HI.out.size hs2)
            clear hj2 hS2 hy HRd hs2
            apply hK
            try simp only [Act.put, List.setIfInBounds_toArray, List.set_cons_zero, List.set_cons_succ]
            refine tailU_stepG 15 _ (by kernel_rfl) (by rfl) (by rw [wantedG (g := 4) (c := true) rfl (by rfl) (by rfl)]; rfl) ?_
            intro K2 hK2
            refine op_wide ?_
            go_simp
            apply hK2
            try simp only [Act.put, List.setIfInBounds_toArray, List.set_cons_zero, List.set_cons_succ]
            refine tailU_stepG 16 _ (by kernel_rfl) (by rfl) (wantedN rfl) ?_
            intro K3 hK3
            refine op_wide ?_
            go_simp
            apply hK3
            refine wpAnyIn_done (by kernel_rfl) ?_ 0
            go_wp2_with fail
            have hw := Q9.out
            refine ⟨⟨k + 1, hkl, ?_, ?_, HS2.out, hsz2⟩, ?_⟩
            · rw [hw]; rfl
            · rw [HORD.out]; exact HJ2.out
            · rw [hw]
              exact meas_next hkl
          · have HJ2 := Lib.hid hj2
            clear hj2 hS2 hy HRd hs2
            apply hK
            try simp only [Act.put, List.setIfInBounds_toArray, List.set_cons_zero, List.set_cons_succ]
            refine tailU_stepG 15 _ (by kernel_rfl) (by rfl) (by rw [wantedG (g := 4) (c := true) rfl (by rfl) (by rfl)]; rfl) ?_
            intro K2 hK2
            refine op_wide ?_
            go_simp
            apply hK2
            try simp only [Act.put, List.setIfInBounds_toArray, List.set_cons_zero, List.set_cons_succ]
            refine tailU_stepG 16 _ (by kernel_rfl) (by rfl) (wantedN rfl) ?_
            intro K3 hK3
            refine op_wide ?_
            go_simp
            apply hK3
            refine wpAnyIn_done (by kernel_rfl) ?_ 0
            go_wp2_with fail
            refine bodyPost_ret (results_none rfl _ _ _) rfl ?_
            exact ⟨⟨_, rfl⟩, .inr ⟨_, HPRE.out, HJ2.out⟩⟩
      · have Hb := Lib.hid hb
        rw [if_neg hb] at hord
        clear hb
        have HORD := Lib.hid hord
        clear hpre hord
        refine wp_invU (q := m + 1) 14 (by kernel_rfl) (by kernel_rfl) (by kernel_rfl) (by decide) (FL [PEq (.pointer (some ⟨bp, 0, none⟩)), PEq (.int .i64 p.b), PEq (.int .i64 n), PEq (.bool false), PEq (.bool false), PEq undef, PEq undef, PEq undef, PEq undef, PEq undef, PEq undef, PEq undef, PEq undef, PEq undef])
          (fun x => Below Wp.heap.size Wp x) (fun x y => Below x.heap.size x y) (FL.keepB (by simp [stbB_eq])) (below_drew Wp) ?_ ?_
        · intro iq o hi' ho listed vals a w5 hdep hM hAt K hK
          have HI := Lib.hid hM.inv
          match iq, hi' with
          | 0, _ =>
            injection ho with ho
            subst ho
            rw [if_pos (wantedN rfl)]
            obtain ⟨e6, e6'⟩ := hAt.slot 6 (by kernel_rfl) (by rfl)
            go_simp
            exact hK _ w5 (Below.refl _ _) HI.out rfl
          | 1, _ =>
            injection ho with ho
            subst ho
            rw [if_pos (wantedN rfl)]
            have l0 := hdep ⟨0, .data⟩ (by simp) rfl
            obtain ⟨x0, x0'⟩ := hAt.dep 0 (d := 22) (by omega) l0 (by rfl) (hM.fact 0 (by omega) l0)
            have q0 := (HP w5 HI.out).out.p0
            go_simp
            exact hK _ w5 (Below.refl _ _) HI.out rfl
          | 2, _ =>
            injection ho with ho
            subst ho
            rw [if_pos (wantedN rfl)]
            obtain ⟨e2, e2'⟩ := hAt.slot 2 (by kernel_rfl) (by rfl)
            have q0 := (HP w5 HI.out).out.cn
            go_simp
            exact hK _ w5 (Below.refl _ _) HI.out rfl
          | 3, _ =>
            injection ho with ho
            subst ho
            rw [if_pos (wantedN rfl)]
            have l1 := hdep ⟨1, .data⟩ (by simp) rfl
            obtain ⟨x1, x1'⟩ := hAt.dep 1 (d := 23) (by omega) l1 (by rfl) (hM.fact 1 (by omega) l1)
            have l2 := hdep ⟨2, .data⟩ (by simp) rfl
            obtain ⟨x2, x2'⟩ := hAt.dep 2 (d := 24) (by omega) l2 (by rfl) (hM.fact 2 (by omega) l2)
            go_simp
            exact hK _ w5 (Below.refl _ _) HI.out (by have h := Hb.out; simp [PEq, FL, h])
          | 4, _ =>
            injection ho with ho
            subst ho
            rw [if_pos (wantedN rfl)]
            have l3 := hdep ⟨3, .data⟩ (by simp) rfl
            obtain ⟨x3, x3'⟩ := hAt.dep 3 (d := 25) (by omega) l3 (by rfl) (hM.fact 3 (by omega) l3)
            go_simp
            exact hK _ w5 (Below.refl _ _) HI.out rfl
          | 5, _ =>
            injection ho with ho
            subst ho
            have l4 := hdep ⟨4, .guard⟩ (by simp) rfl
            obtain ⟨x4, x4'⟩ := hAt.dep 4 (d := 26) (by omega) l4 (by rfl) (hM.fact 4 (by omega) l4)
            rw [if_neg (by rw [wantedG (g := 4) rfl (by rfl) x4]; decide)]
            exact hK _ w5 (Below.refl _ _) HI.out rfl
          | 6, _ =>
            injection ho with ho
            subst ho
            have l4 := hdep ⟨4, .guard⟩ (by simp) rfl
            obtain ⟨x4, x4'⟩ := hAt.dep 4 (d := 26) (by omega) l4 (by rfl) (hM.fact 4 (by omega) l4)
            rw [if_neg (by rw [wantedG (g := 4) rfl (by rfl) x4]; decide)]
            exact hK _ w5 (Below.refl _ _) HI.out rfl
          | 7, _ =>
            injection ho with ho
            subst ho
            have l4 := hdep ⟨4, .guard⟩ (by simp) rfl
            obtain ⟨x4, x4'⟩ := hAt.dep 4 (d := 26) (by omega) l4 (by rfl) (hM.fact 4 (by omega) l4)
            rw [if_neg (by rw [wantedG (g := 4) rfl (by rfl) x4]; decide)]
            exact hK _ w5 (Below.refl _ _) HI.out rfl
          | 8, _ =>
            injection ho with ho
            subst ho
            have l4 := hdep ⟨4, .guard⟩ (by simp) rfl
            obtain ⟨x4, x4'⟩ := hAt.dep 4 (d := 26) (by omega) l4 (by rfl) (hM.fact 4 (by omega) l4)
            rw [if_neg (by rw [wantedG (g := 4) rfl (by rfl) x4]; decide)]
            exact hK _ w5 (Below.refl _ _) HI.out rfl
          | 9, _ =>
            injection ho with ho
            subst ho
            have l4 := hdep ⟨4, .guard⟩ (by simp) rfl
            obtain ⟨x4, x4'⟩ := hAt.dep 4 (d := 26) (by omega) l4 (by rfl) (hM.fact 4 (by omega) l4)
            rw [if_neg (by rw [wantedG (g := 4) rfl (by rfl) x4]; decide)]
            exact hK _ w5 (Below.refl _ _) HI.out rfl
          | 10, _ =>
            injection ho with ho
            subst ho
            have l4 := hdep ⟨4, .guard⟩ (by simp) rfl
            obtain ⟨x4, x4'⟩ := hAt.dep 4 (d := 26) (by omega) l4 (by rfl) (hM.fact 4 (by omega) l4)
            rw [if_neg (by rw [wantedG (g := 4) rfl (by rfl) x4]; decide)]
            exact hK _ w5 (Below.refl _ _) HI.out rfl
          | 11, _ =>
            injection ho with ho
            subst ho
            have l4 := hdep ⟨4, .guard⟩ (by simp) rfl
            obtain ⟨x4, x4'⟩ := hAt.dep 4 (d := 26) (by omega) l4 (by rfl) (hM.fact 4 (by omega) l4)
            rw [if_neg (by rw [wantedG (g := 4) rfl (by rfl) x4]; decide)]
            exact hK _ w5 (Below.refl _ _) HI.out rfl
          | 12, _ =>
            injection ho with ho
            subst ho
            have l4 := hdep ⟨4, .guard⟩ (by simp) rfl
            obtain ⟨x4, x4'⟩ := hAt.dep 4 (d := 26) (by omega) l4 (by rfl) (hM.fact 4 (by omega) l4)
            rw [if_neg (by rw [wantedG (g := 4) rfl (by rfl) x4]; decide)]
            exact hK _ w5 (Below.refl _ _) HI.out rfl
          | 13, _ =>
            injection ho with ho
            subst ho
            have l4 := hdep ⟨4, .guard⟩ (by simp) rfl
            obtain ⟨x4, x4'⟩ := hAt.dep 4 (d := 26) (by omega) l4 (by rfl) (hM.fact 4 (by omega) l4)
            rw [if_neg (by rw [wantedG (g := 4) rfl (by rfl) x4]; decide)]
            exact hK _ w5 (Below.refl _ _) HI.out rfl
          | jq + 14, hq => exact absurd hq (by omega)
        · intro vals w5 hM
          have HI := Lib.hid hM.inv
          have f0 : vals 0 = (.pointer (some ⟨bp, 0, none⟩)) := hM.all (by decide) 0 (by omega)
          have f1 : vals 1 = (.int .i64 p.b) := hM.all (by decide) 1 (by omega)
          have f2 : vals 2 = (.int .i64 n) := hM.all (by decide) 2 (by omega)
          have f3 : vals 3 = (.bool false) := hM.all (by decide) 3 (by omega)
          have f4 : vals 4 = (.bool false) := hM.all (by decide) 4 (by omega)
          have f5 : vals 5 = undef := hM.all (by decide) 5 (by omega)
          have f6 : vals 6 = undef := hM.all (by decide) 6 (by omega)
          have f7 : vals 7 = undef := hM.all (by decide) 7 (by omega)
          have f8 : vals 8 = undef := hM.all (by decide) 8 (by omega)
          have f9 : vals 9 = undef := hM.all (by decide) 9 (by omega)
          have f10 : vals 10 = undef := hM.all (by decide) 10 (by omega)
          have f11 : vals 11 = undef := hM.all (by decide) 11 (by omega)
          have f12 : vals 12 = undef := hM.all (by decide) 12 (by omega)
          have f13 : vals 13 = undef := hM.all (by decide) 13 (by omega)
          clear hM
          simp only [putAll, List.range, List.range.loop, List.foldl_cons, List.foldl_nil, f0, f1, f2, f3, f4, f5, f6, f7, f8, f9, f10, f11, f12, f13]
          clear f0 f1 f2 f3 f4 f5 f6 f7 f8 f9 f10 f11 f12 f13
          change wpAnyIn _ _ _ _ _ _ _ _ (Act.put (Act.put (Act.put (Act.put (Act.put (Act.put (Act.put (Act.put (Act.put (Act.put (Act.put (Act.put (Act.put (Act.put _ (some 22) _) (some 23) _) (some 24) _) (some 25) _) (some 26) _) (some 27) _) (some 28) _) (some 29) _) (some 30) _) (some 31) _) (some 32) _) (some 33) _) (some 34) _) (some 35) _) _
          simp only [Act.put, List.setIfInBounds_toArray, List.set_cons_zero, List.set_cons_succ]
          refine tailU_skip 14 _ (by kernel_rfl) (by rfl) (by rw [wantedG (g := 4) (c := false) rfl (by rfl) (by rfl)]; rfl) ?_
          simp only [Act.put, List.setIfInBounds_toArray]
          refine tailU_skip 15 _ (by kernel_rfl) (by rfl) (by rw [wantedG (g := 4) (c := false) rfl (by rfl) (by rfl)]; rfl) ?_
          simp only [Act.put]
          refine tailU_stepG 16 _ (by kernel_rfl) (by rfl) (wantedN rfl) ?_
          intro K hK
          refine op_wide ?_
          go_simp
          apply hK
          refine wpAnyIn_done (by kernel_rfl) ?_ 0
          have hszq : w3.heap.size ≤ w5.heap.size := Nat.le_trans hszp HI.out.size
          go_wp2_with fail
          have hw := Q9.out
          refine ⟨⟨k + 1, hkl, ?_, ?_, ?_, hszq⟩, ?_⟩
          · rw [hw]; rfl
          · rw [HORD.out]; exact hJb S _ Wp w5 HJp.out HI.out
          · exact (HI.out.block S (Nat.lt_of_lt_of_le hSl3 hszp)).trans HSp.out
          · rw [hw]
            exact meas_next hkl
    · have hke : k = qs.length := by omega
      subst hke
      clear hrk
      go_wp2_with fail
      go_end0
      exact ⟨⟨_, rfl⟩, .inl ⟨S, by rw [← ordK_all HO.out HQ.out n]; exact HJk.out⟩⟩
set_option maxRecDepth 100000 in
set_option maxHeartbeats 1000000 in
theorem proofs1_nil (w : World) (l bx g bn : Nat) (A : Option Addr) (c : Nat) (cx : w.cell? ⟨bx, 0, none⟩ = some (.pointer (some ⟨g, 0, none⟩))) (cp : w.cell? ⟨g, 2, none⟩ = some (.slice A 0 c)) :
    Calls Tryz.prog 162 #[.func (.yield l) #[] #[], .pointer (some ⟨bx, 0, none⟩), .pointer (some ⟨bn, 0, none⟩)] w fun e W' => (∃ v, e = .returned v) ∧ Below w.heap.size w W' := by
  have HC := Lib.hid (cloneNone_any A c w)
  go_enter Tryz.func162, Tryz.ntmps162
  go_wp2_with fail
  refine HC.out.mono ?_
  rintro e w1 ⟨⟨A', c', rfl⟩, hb1⟩
  go_wp2_with fail
  refine (by_any _).mono ?_
  rintro e w2 ⟨a, rfl, ha1, ha2, ha3, hb2⟩
  have hbw2 : Below w.heap.size w w2 := hb1.trans (hb2.mono hb1.size)
  clear hb1 hb2 ha1 ha2 ha3 HC cx cp
  have HS := Lib.hid (AnyF.slices_SortFunc_none Tryz.laysSortF A' c' (.func (.func 201) #[] #[.pointer (some ⟨a, 0, none⟩)]) w2)
  go_wp2_with fail
  refine HS.out.mono ?_
  rintro e w3 ⟨rfl, rfl⟩
  clear HS
  go_wp2_with fail
  go_loopw [18] (fun h wr => h = .int .i64 0 ∧ Below w.heap.size w wr) (fun _ _ => 0)
  case atStart => exact ⟨rfl, hbw2⟩
  case round =>
    obtain ⟨rfl, hb3⟩ := hrel
    go_wp2_with fail
    go_end0
    exact ⟨⟨_, rfl⟩, hb3⟩
end Go.Proofs.YtcdjoegihmfanaaGreat
namespace Go.Proofs.YtcdjoegihmfanaaGreat
open Go.RowKit Go.Shelf
set_option linter.unusedVariables false
/-- The iterator's value, with its boxes. -/
structure ItV (W : World) (v : Value) (base g : Nat) (n : Int) : Prop where
  val : v = .func (.func 162) #[] #[.pointer (some ⟨base, 0, none⟩), .pointer (some ⟨base + 1, 0, none⟩)]
  lt : base + 1 < W.heap.size
  cx : W.cell? ⟨base, 0, none⟩ = some (.pointer (some ⟨g, 0, none⟩))
  cn : W.cell? ⟨base + 1, 0, none⟩ = some (.int .i64 n)
theorem ItV.below {W W' : World} {v : Value} {base g : Nat} {n : Int} (h : ItV W v base g n) (hb : Below W.heap.size W W') : ItV W' v base g n :=
  ⟨h.val, Nat.lt_of_lt_of_le h.lt hb.size, (hb.cell (p := ⟨base, 0, none⟩) (Nat.lt_of_succ_lt h.lt)).trans h.cx, (hb.cell (p := ⟨base + 1, 0, none⟩) h.lt).trans h.cn⟩
theorem ItV.ite {W : World} {v : Value} {base g : Nat} {n : Int} {A : Option Addr} {c : Nat} {ps : List Pr} (h : ItV W v base g n) (hg : g < W.heap.size) (cp : W.cell? ⟨g, 2, none⟩ = some (.slice A ps.length c)) (hr : Rd W W.heap.size A (prs ps)) :
    ItE W base g (base + 1) n A c ps W.heap.size := ⟨h.cx, cp, h.cn, hr, Nat.lt_of_succ_lt h.lt, hg, h.lt, Nat.le_refl _⟩
theorem proofs_any (g : Nat) (n : Int) (w : World) : Calls Tryz.prog 114 #[.pointer (some ⟨g, 0, none⟩), .int .i64 n] w fun e w' => ∃ v base, e = .returned v ∧ w.heap.size ≤ base ∧ ItV w' v base g n ∧ Below w.heap.size w w' := by
  have B1 := Blk.new w [.pointer (some ⟨g, 0, none⟩)] 146
  have B2 := Blk.new (w.alloc (.cells #[.pointer (some ⟨g, 0, none⟩)] 146)) [.int .i64 n] 3
  go_enter Tryz.func114, Tryz.ntmps114
  go_wp2_with fail
  go_ret
  have B1' := B1.below (below_new (w.alloc (.cells #[.pointer (some ⟨g, 0, none⟩)] 146)) (.cells #[.int .i64 n] 3))
  have e1 : (w.alloc (.cells #[.pointer (some ⟨g, 0, none⟩)] 146)).heap.size = w.heap.size + 1 := by simp
  rw [e1] at B2
  refine ⟨_, w.heap.size, rfl, Nat.le_refl _, ⟨rfl, ?_, ?_, ?_⟩, ?_⟩
  · exact B2.lt
  · exact B1'.cells 0 _ rfl
  · exact B2.cells 0 _ rfl
  · exact (below_new _ _).trans ((below_new _ _).mono (by simp))
/-- One round of a range over a function, for a body whose assignment runs to a frame. -/
theorem yield_roundA {P : Program} {l m : Nat} {fn : FuncId} {tmps : Array Value} {ps : Array Tmp} {assign body : Code} {D : Nat} {args : Array Value} {W : World} {R : Ending → World → Prop} (a1 : Act)
    (hl : W.heap[l]? = some (.loop (recOf fn tmps ps assign body D .ready none))) (hs : args.size = ps.size)
    (ha : ∀ Q : Exit → Act → World → Prop, Q .normal a1 W → assign.wpIn (Fence.wide.inRound l) m P Q { tmps := (ps.zip args).foldl (fun t (p, v) => t.setIfInBounds p v) tmps, defers := [] } W)
    (hb : body.wpIn (Fence.wide.inRound l) m P (roundPost P l R) a1 (W.putObj l (.loop (recOf fn tmps ps assign body D .busy none)))) :
    YieldAt Fence.wide m P l args W R := by
  have hy := run_yield (P := P) (args := args) hl hs
  exact ⟨fn, _, assign, body, hy, roundIn_of_wpIn trivial (ha _ ⟨_, run_beginRound hl rfl, hb⟩)⟩
end Go.Proofs.YtcdjoegihmfanaaGreat
namespace Go.Proofs.YtcdjoegihmfanaaGreat
open Go.RowKit
set_option linter.unusedVariables false
theorem rows_round {P : Program} {l m : Nat} {row : String} {args : Array Value} {w : World} {R : Value → World → Prop} (h : Rows P row args w R) : RowsIn (Fence.wide.inRound l) m P row args w R :=
  fun c cs _ => let ⟨v, w', r, s⟩ := h c cs; ⟨v, w', r, stepsIn_wide.2 s⟩
theorem op_round {P : Program} {l q : Nat} {o : Oper} {a : Act} {w : World} {K : Act → World → Prop} {Q : Exit → Act → World → Prop} (hd : noDefer o) (h : o.wp P a w K Q) : o.wpIn (Fence.wide.inRound l) q P a w K Q := by
  refine ⟨fun _ _ => trivial, ?_⟩
  unfold Oper.wp at h
  rw [Oper.semAt_plain (Fence.wide.inRound l) _ o hd]
  generalize (execOp a.eval o).run P w = r at h
  have hno : (Fence.wide.inRound l).depth.isSome = true → 1 ≤ q := fun h => by simp [Fence.wide] at h
  cases r with
  | ok x w' =>
    cases x <;> simp only [Oper.upon] at h <;> simp only [Oper.uponIn]
    case value v => exact h
    case skip => exact h
    case defer d => exact h
    case enter f args => exact ⟨hno, CallsIn.inRound l (callsIn_wide.2 (h.mono fun e w'' he => by cases e <;> exact he))⟩
    case row row args => exact ⟨hno, rows_round h⟩
  | halt x w' => cases x <;> simp only [Oper.upon] at h <;> simp only [Oper.uponIn] <;> exact h
theorem any_round {P : Program} {md : Region.Mode} {l q : Nat} {ops : Array Oper} {Q : Exit → Act → World → Prop} (hd : ∀ o ∈ ops, noDefer o) (hq : ¬ LetsOut Q) : ∀ (fuel : Nat) (listed : Array Bool) (a : Act) (w : World), wpAny P md ops Q fuel listed a w → wpAnyIn (Fence.wide.inRound l) q P md ops Q fuel listed a w
  | 0, _, _, _, h => h
  | fuel + 1, listed, a, w, h => by
    refine ⟨h.1, fun i hi => ?_⟩
    have h2 := h.2 i hi
    unfold wpOp at h2
    unfold wpOpIn
    cases ho : ops[i]? with
    | none =>
      rw [ho] at h2
      exact any_round hd hq fuel _ _ _ h2
    | some o =>
      rw [ho] at h2
      simp only at h2 ⊢
      by_cases hw : Region.wanted o (yielded ops a.tmps) = true
      · rw [if_pos hw] at h2 ⊢
        exact op_round (hd o (Array.mem_of_getElem? ho)) (Oper.wp_mono (fun a' w' => any_round hd hq fuel _ a' w') (h2.resolve_right fun h3 => hq h3.2))
      · rw [if_neg hw] at h2 ⊢
        exact ⟨fun _ _ => trivial, any_round hd hq fuel _ _ _ h2⟩
def noDefB (ops : Array Oper) : Bool := ops.all fun o => match o.op with | .defer _ => false | _ => true
theorem noDefB_ok {ops : Array Oper} (h : noDefB ops = true) : ∀ o ∈ ops, noDefer o := by
  intro o ho c hc
  have := Array.all_eq_true_iff_forall_mem.1 h o ho
  rw [hc] at this
  cases this
/-- The rule, in a round. -/
theorem wp_invR {P : Program} {l q : Nat} {id : Nat} {ops : Array Oper} {Q : Exit → Act → World → Prop} {a0 : Act} {W1 : World} (n : Nat) (hm : P.follows .mixedOrders = true) (hd : noDefB ops = true) (hq : ¬ LetsOut Q) (hh : headOkT ops n a0.tmps.size = true) (ht : tailOkW ops n = true) (hn : n ≤ ops.size)
    (F : Nat → Value → World → Prop) (I : World → Prop) (R : World → World → Prop) (hF : ∀ i v w w', F i v w → R w w' → F i v w') (hI : I W1.drew)
    (step : ∀ i o, i < n → ops[i]? = some o → ∀ listed vals a w, (∀ e ∈ o.after, Region.binds .any e = true → listed.getD e.on false = true) → Hd F I n listed vals w → ActAt ops n a0 a listed vals →
      ∀ K : Act → World → Prop, (∀ v w', R w w' → I w' → F i v w' → K (a.put o.dst v) w') → if Region.wanted o (yielded ops a.tmps) = true then o.wp P a w K Q else K (a.put o.dst undef) w)
    (tail : ∀ vals w, Hd F I n (maskOf ops.size n) vals w → wpAny P .any ops Q (ops.size - n) (maskOf ops.size n) (putAll ops vals a0 n) w) : (Code.region id ops true).wpIn (Fence.wide.inRound l) q P Q a0 W1 := by
  refine wpIn_region_any hm (any_round (noDefB_ok hd) hq _ _ _ _ ?_)
  have hz : ∀ i, (Array.replicate ops.size false).getD i false = false := by
    intro i
    rw [Array.getD_eq_getD_getElem?]
    by_cases h : i < ops.size
    · simp [h]
    · simp [h]
  have hc : ∀ k, cnt (Array.replicate ops.size false) k = k := by
    intro k
    induction k with
    | zero => rfl
    | succ k ih => simp only [cnt, ih, hz]; simp
  have := invT_steps (Q := Q) (a0 := a0) hh ht hn F I R hF step tail n (Array.replicate ops.size false) (fun _ => undef) a0 W1.drew (by simp) (fun i _ => hz i) (fun k _ _ h => (by rw [hz] at h; cases h)) (hc n)
    ⟨hI, fun i _ h => (by rw [hz] at h; cases h)⟩ ⟨rfl, rfl, fun i _ _ h => (by rw [hz] at h; cases h), fun _ _ => rfl⟩
  rw [show n + (ops.size - n) = ops.size by omega] at this
  exact this
end Go.Proofs.YtcdjoegihmfanaaGreat
namespace Go.Proofs.YtcdjoegihmfanaaGreat
open Go.RowKit Go.Shelf
set_option linter.unusedVariables false
theorem cell_ne_loop {w : World} {b o l : Nat} {v : Value} {r : Loop} (h : w.cell? ⟨b, o, none⟩ = some v) (hl : w.heap[l]? = some (.loop r)) : b ≠ l := by
  rintro rfl
  unfold World.cell? at h
  rw [hl] at h
  cases h
/-- Where a body stands: the loop's record; all blocks that were there are as they were, but for some, and the record. -/
structure RgJ (W1 : World) (rec : LoopState → Option Code → Loop) (l : Nat) (X : Nat → Prop) (S : Nat) (st : LoopState) (pe : Option Code) (W : World) : Prop where
  loop : W.heap[l]? = some (.loop (rec st pe))
  lt : S < W.heap.size
  hS : W1.heap.size ≤ S
  size : W1.heap.size ≤ W.heap.size
  os : W.os = W1.os
  tape : W.tape = W1.tape
  output : W.output = W1.output
  far : ∀ k, k < W1.heap.size → ¬ X k → k ≠ l → W.heap[k]? = W1.heap[k]?
section
variable {W1 : World} {rec : LoopState → Option Code → Loop} {l : Nat} {X : Nat → Prop} {S : Nat} {st : LoopState} {pe : Option Code} {W W' : World}
theorem RgJ.step (h : RgJ W1 rec l X S st pe W) (hl : l < W1.heap.size) (hXl : ¬ X l) (h1 : W'.os = W.os) (h2 : W'.tape = W.tape) (h3 : W'.output = W.output) (hs : W.heap.size ≤ W'.heap.size) (hk : ∀ k, k < W1.heap.size → ¬ X k → W'.heap[k]? = W.heap[k]?) : RgJ W1 rec l X S st pe W' :=
  ⟨(hk l hl hXl).trans h.loop, Nat.lt_of_lt_of_le h.lt hs, h.hS, Nat.le_trans h.size hs, h1.trans h.os, h2.trans h.tape, h3.trans h.output, fun k a b c => (hk k a b).trans (h.far k a b c)⟩
theorem RgJ.below (h : RgJ W1 rec l X S st pe W) (hl : l < W1.heap.size) (hXl : ¬ X l) (hb : Below W.heap.size W W') : RgJ W1 rec l X S st pe W' :=
  h.step hl hXl hb.os hb.tape hb.output hb.size fun k hk _ => hb.block k (Nat.lt_of_lt_of_le hk h.size)
theorem RgJ.put (h : RgJ W1 rec l X S st pe W) (hl : l < W1.heap.size) (st' : LoopState) (pe' : Option Code) : RgJ W1 rec l X S st' pe' (W.putObj l (.loop (rec st' pe'))) :=
  ⟨World.putObj_heap_same (Nat.lt_of_lt_of_le hl h.size), by rw [putObj_size]; exact h.lt, h.hS, by rw [putObj_size]; exact h.size, h.os, h.tape, h.output, fun k a b c => (World.putObj_heap_other c).trans (h.far k a b c)⟩
theorem RgJ.cell (h : RgJ W1 rec l X S st pe W) {b o : Nat} (hb : b < W1.heap.size) (hX : ¬ X b) (hl : b ≠ l) : W.cell? ⟨b, o, none⟩ = W1.cell? ⟨b, o, none⟩ := World.cell?_of_block (a := ⟨b, o, none⟩) (h.far b hb hX hl)
theorem RgJ.frozen (h : RgJ W1 rec l X S st pe W) {b o : Nat} (hb : b < W1.heap.size) (hX : ¬ X b) (hl : b ≠ l) : W.frozen? ⟨b, o, none⟩ = W1.frozen? ⟨b, o, none⟩ := World.frozen?_of_block (a := ⟨b, o, none⟩) (h.far b hb hX hl)
end
/-- A round's end: the body has gone on, or returned. -/
def RgPost (W1 : World) (rec : LoopState → Option Code → Loop) (l : Nat) (X : Nat → Prop) (S : Nat) (W : World) (U Ux : World → Prop) : Exit → Act → World → Prop
  | .normal, _, w => RgJ W1 rec l X S .busy none w ∧ w.heap[S]? = W.heap[S]? ∧ W.heap.size ≤ w.heap.size ∧ U w
  | .ret, _, w => RgJ W1 rec l X S .busy none w ∧ w.heap[S]? = W.heap[S]? ∧ W.heap.size ≤ w.heap.size ∧ Ux w
  | _, _, _ => False
theorem rg_letsOut {W1 : World} {rec : LoopState → Option Code → Loop} {l : Nat} {X : Nat → Prop} {S : Nat} {W : World} {U Ux : World → Prop} : ¬ LetsOut (RgPost W1 rec l X S W U Ux) := by
  rintro ⟨a, w, h⟩; exact h
theorem range_proofs (W0 : World) (m : Nat) {gop : Operand} {prm : Array Tmp} {assign body : Code} {Q : Exit → Act → World → Prop} {a : Act} (base g : Nat) (n : Int) (A : Option Addr) (c : Nat) (ps : List Pr) (B0 : Nat)
    (hg : a.eval gop = .func (.func 162) #[] #[.pointer (some ⟨base, 0, none⟩), .pointer (some ⟨base + 1, 0, none⟩)]) (hprm : prm.size = 2)
    (cx : W0.cell? ⟨base, 0, none⟩ = some (.pointer (some ⟨g, 0, none⟩))) (cp : W0.cell? ⟨g, 2, none⟩ = some (.slice A ps.length c)) (cn : W0.cell? ⟨base + 1, 0, none⟩ = some (.int .i64 n)) (hr : Rd W0 B0 A (prs ps)) (hB0 : B0 ≤ W0.heap.size) (hbs : base + 1 < W0.heap.size) (hgw : g < W0.heap.size)
    (hl : ps.length ≤ 10) (hm : ∀ p ∈ ps, 0 ≤ p.m ∧ p.m ≤ 10000) (ho : Once ps)
    (X : Nat → Prop) (hX : ∀ k, X k → k < W0.heap.size ∧ B0 ≤ k ∧ k ≠ base ∧ k ≠ base + 1 ∧ k ≠ g)
    (U : Nat → List Nat → World → Prop) (Ux : List Nat → World → Prop)
    (hU : ∀ S pre W W', U S pre W → W.heap.size ≤ W'.heap.size → (∀ k, k ≠ W0.heap.size + 1 → k < W.heap.size → W'.heap[k]? = W.heap[k]?) → U S pre W')
    (hUx : ∀ pre W W', Ux pre W → W.heap.size ≤ W'.heap.size → (∀ k, k ≠ W0.heap.size + 1 → k < W.heap.size → W'.heap[k]? = W.heap[k]?) → Ux pre W')
    (hU0 : ∀ S W, W0.heap.size + 2 ≤ S → Below W0.heap.size W0 W → U S [] W)
    (hround : ∀ (W1 : World) (rec : LoopState → Option Code → Loop) S pre i W, W1.heap.size = W0.heap.size + 2 → Below W0.heap.size W0 W1 → RgJ W1 rec (W0.heap.size + 1) X S .ready none W → U S pre W → (pre ++ [i]) <+: ordL ps n →
      assign.wpIn (Fence.wide.inRound (W0.heap.size + 1)) m Tryz.prog (Exit.then (fun a1 w1 => RgJ W1 rec (W0.heap.size + 1) X S .ready none w1 ∧ w1.heap[S]? = W.heap[S]? ∧ W.heap.size ≤ w1.heap.size ∧
        body.wpIn (Fence.wide.inRound (W0.heap.size + 1)) m Tryz.prog (RgPost W1 rec (W0.heap.size + 1) X S w1 (U S (pre ++ [i])) (Ux (pre ++ [i]))) a1 (w1.putObj (W0.heap.size + 1) (.loop (rec .busy none)))) (fun _ _ _ => False))
        { tmps := (prm.zip #[.int .i64 (i : Nat), prV (pAt ps i)]).foldl (fun t (p, v) => t.setIfInBounds p v) a.tmps, defers := [] } W)
    (hdone : ∀ (W1 : World) S W', W1.heap.size = W0.heap.size + 2 → Below W0.heap.size W0 W1 → W0.heap.size ≤ W'.heap.size → W'.os = W0.os → W'.tape = W0.tape → W'.output = W0.output → (∀ k, k < W0.heap.size → ¬ X k → W'.heap[k]? = W0.heap[k]?) → W'.heap[W0.heap.size]? = some (.deferred (some [])) → U S (ordL ps n) W' →
      Q .normal { a with defers := [{ target := .collected W0.heap.size, args := #[] }] ++ a.defers } W')
    (hret : ∀ (W1 : World) pre W', W1.heap.size = W0.heap.size + 2 → Below W0.heap.size W0 W1 → W0.heap.size ≤ W'.heap.size → W'.os = W0.os → W'.tape = W0.tape → W'.output = W0.output → (∀ k, k < W0.heap.size → ¬ X k → W'.heap[k]? = W0.heap[k]?) → W'.heap[W0.heap.size]? = some (.deferred (some [])) → Ux pre W' →
      Code.ret.wpIn Fence.wide (m + 1) Tryz.prog Q { a with defers := [{ target := .collected W0.heap.size, args := #[] }] ++ a.defers } W') :
    (Code.rangeFunc gop prm assign body).wp Tryz.prog Q a W0 := by
  refine wp_range (m + 1) hg (Go.Proofs.enters_of Tryz.func162 (by kernel_rfl) rfl) ?_
  intro fn rec hrec
  have hbz : Below W0.heap.size W0 ((W0.alloc (.deferred (some []))).alloc (.loop (rec .ready none))) := (below_new _ _).trans ((below_new _ _).mono (by simp))
  have hl1 : ((W0.alloc (.deferred (some []))).alloc (.loop (rec .ready none))).heap[W0.heap.size + 1]? = some (.loop (rec .ready none)) := by
    have := World.alloc_heap_new (W0.alloc (.deferred (some []))) (.loop (rec .ready none)); rwa [World.size_alloc] at this
  have hd1 : ((W0.alloc (.deferred (some []))).alloc (.loop (rec .ready none))).heap[W0.heap.size]? = some (.deferred (some [])) := (Below.heap_alloc _ _ _ (by simp)).trans (World.alloc_heap_new W0 _)
  have hz1 : ((W0.alloc (.deferred (some []))).alloc (.loop (rec .ready none))).heap.size = W0.heap.size + 2 := by simp
  obtain ⟨W1, hW1⟩ : ∃ W1, (W0.alloc (.deferred (some []))).alloc (.loop (rec .ready none)) = W1 := ⟨_, rfl⟩
  rw [hW1] at hbz hl1 hd1 hz1
  rw [hW1]
  have hX1 : ∀ k, X k → k < W0.heap.size := fun k hk => (hX k hk).1
  have hXl : ¬ X (W0.heap.size + 1) := fun h => by have := hX1 _ h; omega
  have hXd : ¬ X W0.heap.size := fun h => by have := hX1 _ h; omega
  have hll : W0.heap.size + 1 < W1.heap.size := by omega
  -- behind the iterator
  have fin : ∀ (st : LoopState) (pe : Option Code) S W', RgJ W1 rec (W0.heap.size + 1) X S st pe W' → ∀ st' pe', W0.heap.size ≤ (W'.putObj (W0.heap.size + 1) (.loop (rec st' pe'))).heap.size ∧ (W'.putObj (W0.heap.size + 1) (.loop (rec st' pe'))).os = W0.os ∧ (W'.putObj (W0.heap.size + 1) (.loop (rec st' pe'))).tape = W0.tape ∧ (W'.putObj (W0.heap.size + 1) (.loop (rec st' pe'))).output = W0.output ∧
      (∀ k, k < W0.heap.size → ¬ X k → (W'.putObj (W0.heap.size + 1) (.loop (rec st' pe'))).heap[k]? = W0.heap[k]?) ∧ (W'.putObj (W0.heap.size + 1) (.loop (rec st' pe'))).heap[W0.heap.size]? = some (.deferred (some [])) := by
    intro st pe S W' h st' pe'
    have hs := h.size
    refine ⟨by rw [putObj_size]; omega, h.os.trans hbz.os, h.tape.trans hbz.tape, h.output.trans hbz.output, fun k hk hx => ?_, ?_⟩
    · exact (World.putObj_heap_other (by omega)).trans ((h.far k (by omega) hx (by omega)).trans (hbz.block k hk))
    · exact (World.putObj_heap_other (by omega)).trans ((h.far _ (by omega) hXd (by omega)).trans hd1)
  by_cases h0 : 0 < ps.length
  · have hite : ∀ S st pe W, RgJ W1 rec (W0.heap.size + 1) X S st pe W → ItE W base g (base + 1) n A c ps W1.heap.size := fun S st pe W h => by
      have q1 := h.cell (b := base) (o := 0) (by omega) (fun hx => (hX _ hx).2.2.1 rfl) (by omega)
      have q2 := h.cell (b := base + 1) (o := 0) (by omega) (fun hx => (hX _ hx).2.2.2.1 rfl) (by omega)
      have q3 := h.cell (b := g) (o := 2) (by omega) (fun hx => (hX _ hx).2.2.2.2 rfl) (by omega)
      refine ⟨q1.trans ((hbz.cell (p := ⟨base, 0, none⟩) (by show base < _; omega)).trans cx), q3.trans ((hbz.cell (p := ⟨g, 2, none⟩) hgw).trans cp), q2.trans ((hbz.cell (p := ⟨base + 1, 0, none⟩) hbs).trans cn), ?_, by omega, by omega, by omega, h.size⟩
      refine (hr.keep fun b o hb => ?_).more (by omega)
      exact (h.cell (b := b) (o := o) (by omega) (fun hx => by have := (hX _ hx).2.1; omega) (by omega)).trans (hbz.cell (p := ⟨b, o, none⟩) (by show b < _; omega))
    have hJ1 : ∀ S W, W1.heap.size ≤ S → S < W.heap.size → Below W1.heap.size W1 W → RgJ W1 rec (W0.heap.size + 1) X S .ready none W := fun S W hS hSW hb =>
      ⟨(hb.block _ hll).trans hl1, hSW, hS, hb.size, hb.os, hb.tape, hb.output, fun k hk _ _ => hb.block k hk⟩
    have hE1 : ItE W1 base g (base + 1) n A c ps W1.heap.size := by
      refine ⟨(hbz.cell (p := ⟨base, 0, none⟩) (by show base < _; omega)).trans cx, (hbz.cell (p := ⟨g, 2, none⟩) hgw).trans cp, (hbz.cell (p := ⟨base + 1, 0, none⟩) hbs).trans cn, ?_, by omega, by omega, by omega, Nat.le_refl _⟩
      exact (hr.keep fun b o hb => hbz.cell (p := ⟨b, o, none⟩) (by show b < _; omega)).more (by omega)
    refine (proofs1_any W1 m (W0.heap.size + 1) base g (base + 1) n A c ps (fun S pre W => RgJ W1 rec (W0.heap.size + 1) X S .ready none W ∧ U S pre W) (fun pre W => ∃ S, RgJ W1 rec (W0.heap.size + 1) X S .done (some .ret) W ∧ Ux pre W)
      hE1 h0 hl hm ho ?_ (fun S pre W h => hite S _ _ W h.1) ?_ ?_).mono ?_
    · intro S W hS hSW hb
      exact ⟨hJ1 S W hS hSW hb, hU0 S W (by omega) (hbz.trans (hb.mono hbz.size))⟩
    · intro S pre W W' h hb
      exact ⟨h.1.below hll hXl hb, hU S pre W W' h.2 hb.size fun k _ hk => hb.block k hk⟩
    · intro S pre i W h hpre
      have hR := hround W1 rec S pre i W hz1 hbz h.1 h.2 hpre
      have hloop := h.1.loop
      rw [hrec] at hloop
      have hy := run_yield (P := Tryz.prog) (args := #[.int .i64 (i : Nat), prV (pAt ps i)]) hloop (by simp [recOf, hprm])
      refine ⟨fn, _, assign, body, hy, roundIn_of_wpIn trivial ?_⟩
      refine wpIn_mono hR ?_
      intro e a1 w1 he
      cases e with
      | normal =>
        obtain ⟨hj1, hs1, hz, hb⟩ := he
        have hlp := hj1.loop
        rw [hrec] at hlp
        have hbeg := run_beginRound (P := Tryz.prog) hlp rfl
        refine ⟨_, hbeg, ?_⟩
        have e2 : ({ recOf fn a.tmps prm assign body W0.heap.size .ready none with state := .busy } : Loop) = rec .busy none := by rw [hrec]; rfl
        rw [e2]
        refine wpIn_mono hb ?_
        intro e a2 w2 hp
        cases e with
        | normal =>
          obtain ⟨p1, p2, p3, p4⟩ := hp
          have hend := run_endRound (P := Tryz.prog) none p1.loop
          refine ⟨_, _, hend, ?_⟩
          have e3 : ({ rec .busy none with state := .ready, pending := none } : Loop) = rec .ready none := by rw [hrec]; rfl
          have e4 : ({ rec .busy none with state := (if (none : Option Code).isNone then .ready else .done), pending := none } : Loop) = rec .ready none := e3
          rw [e4]
          have hSl : S ≠ W0.heap.size + 1 := by have := p1.hS; omega
          refine ⟨(World.putObj_heap_other hSl).trans (p2.trans hs1), by rw [putObj_size]; exact Nat.le_trans hz p3, .inl ⟨rfl, p1.put hll .ready none, ?_⟩⟩
          exact hU S _ w2 _ p4 (by rw [putObj_size]; exact Nat.le_refl _) fun k hk _ => World.putObj_heap_other hk
        | ret =>
          obtain ⟨p1, p2, p3, p4⟩ := hp
          have hend := run_endRound (P := Tryz.prog) (some .ret) p1.loop
          refine ⟨_, _, hend, ?_⟩
          have e4 : ({ rec .busy none with state := (if (some Code.ret : Option Code).isNone then .ready else .done), pending := some .ret } : Loop) = rec .done (some .ret) := by rw [hrec]; rfl
          rw [e4]
          have hSl : S ≠ W0.heap.size + 1 := by have := p1.hS; omega
          refine ⟨(World.putObj_heap_other hSl).trans (p2.trans hs1), by rw [putObj_size]; exact Nat.le_trans hz p3, .inr ⟨rfl, S, p1.put hll .done (some .ret), ?_⟩⟩
          exact hUx _ w2 _ p4 (by rw [putObj_size]; exact Nat.le_refl _) fun k hk _ => World.putObj_heap_other hk
        | exit id => exact hp.elim
        | goto t => exact hp.elim
        | panic ch => exact hp.elim
        | outgrown => exact hp.elim
      | exit id => exact he
      | goto t => exact he
      | ret => exact he
      | panic ch => exact he
      | outgrown => exact he
    · rintro e W' ⟨hv, ⟨S, hJ, hUU⟩ | ⟨pre, hpre, S, hJ, hUU⟩⟩
      · refine ⟨hv, .ready, none, by simp, hJ.loop, ?_⟩
        obtain ⟨f1, f2, f3, f4, f5, f6⟩ := fin _ _ S W' hJ .exhausted none
        exact hdone W1 S _ hz1 hbz f1 f2 f3 f4 f5 f6 (hU S _ W' _ hUU (by rw [putObj_size]; exact Nat.le_refl _) fun k hk _ => World.putObj_heap_other hk)
      · refine ⟨hv, .done, some .ret, by simp, hJ.loop, ?_⟩
        obtain ⟨f1, f2, f3, f4, f5, f6⟩ := fin _ _ S W' hJ .exhausted (some .ret)
        exact hret W1 pre _ hz1 hbz f1 f2 f3 f4 f5 f6 (hUx pre W' _ hUU (by rw [putObj_size]; exact Nat.le_refl _) fun k hk _ => World.putObj_heap_other hk)
  · have hp0 : ps = [] := List.eq_nil_of_length_eq_zero (by omega)
    subst hp0
    refine (proofs1_nil W1 (W0.heap.size + 1) base g (base + 1) A c ((hbz.cell (p := ⟨base, 0, none⟩) (by show base < _; omega)).trans cx) ((hbz.cell (p := ⟨g, 2, none⟩) hgw).trans cp)).mono ?_
    rintro e W' ⟨hv, hb⟩
    refine ⟨hv, .ready, none, by simp, (hb.block _ hll).trans hl1, ?_⟩
    have hs := hb.size
    have hu := hU0 (W0.heap.size + 2) W' (Nat.le_refl _) (hbz.trans (hb.mono hbz.size))
    refine hdone W1 (W0.heap.size + 2) _ hz1 hbz (by rw [putObj_size]; omega) (hb.os.trans hbz.os) (hb.tape.trans hbz.tape) (hb.output.trans hbz.output) (fun k hk hx => ?_) ?_ ?_
    · exact (World.putObj_heap_other (by omega)).trans ((hb.block k (by omega)).trans (hbz.block k hk))
    · exact (World.putObj_heap_other (by omega)).trans ((hb.block _ (by omega)).trans hd1)
    · exact hU (W0.heap.size + 2) [] W' _ hu (by rw [putObj_size]; exact Nat.le_refl _) fun k hk _ => World.putObj_heap_other hk
end Go.Proofs.YtcdjoegihmfanaaGreat
namespace Go.Proofs.YtcdjoegihmfanaaGreat
open Go.RowKit Go.Shelf
set_option linter.unusedVariables false
attribute [local go_sem] Oper.semAt_some
theorem insI_length (ps : List Pr) (i : Nat) : ∀ l : List Nat, (insI ps i l).length = l.length + 1
  | [] => rfl
  | j :: t => by
    simp only [insI]
    split
    · rfl
    · simp [insI_length ps i t]
theorem ordL_length (ps : List Pr) (n : Int) : (ordL ps n).length ≤ ps.length := by
  unfold ordL
  have h : ∀ s : List Nat, (s.foldr (insI ps) []).length = s.length := by
    intro s
    induction s with
    | nil => rfl
    | cons a s ih => rw [List.foldr_cons, insI_length, ih]; rfl
  rw [h]
  have := List.length_filter_le (fun i => (pAt ps i).b == n) (List.range ps.length)
  simpa using this
/-- Indices as cells. -/
def nums (l : List Nat) : List Value := ints (l.map fun i : Nat => (i : Int))
theorem nums_length (l : List Nat) : (nums l).length = l.length := by simp [nums, ints]
theorem nums_snoc (l : List Nat) (i : Nat) : nums (l ++ [i]) = nums l ++ [.int .i64 (i : Int)] := by simp [nums, ints]
/-- The list so far, in the box bo. -/
def OrdU (B bo : Nat) (S : Nat) (pre : List Nat) (W : World) : Prop :=
  ∃ vo, W.cell? ⟨bo, 0, none⟩ = some vo ∧ W.frozen? ⟨bo, 0, none⟩ = false ∧ W.ownsRow (B + 2) 3 1 vo pre.length (nums pre) ∧ vo.ownBlock ≠ some S ∧ bo < B ∧ bo < W.heap.size
theorem own_lt {w : World} {base : Nat} {E : TypeId} {size n : Nat} {v : Value} {xs : List Value} (h : w.ownsRow base E size v n xs) : ∀ k, v.ownBlock = some k → base ≤ k ∧ k < w.heap.size := by
  intro k hk
  rcases h.2 with ⟨e, _⟩ | ⟨g', cap, cur, e, hg1, hg, _⟩
  · rw [e] at hk; cases hk
  · rw [e] at hk; injection hk with hk; subst hk
    exact ⟨hg1, (Array.getElem?_eq_some_iff.1 hg).1⟩
theorem grown_block {Wb w3 : World} {o : Obj} {row : Option Nat} {bo : Nat} (hg : (Wb.alloc o).grownBy w3 row) (hb : bo < Wb.heap.size) (hne : row = some bo → False) : w3.heap[bo]? = Wb.heap[bo]? :=
  (hg.block bo (by simp; omega) (fun e => hne e.symm)).trans ((below_new Wb o).block bo hb)
theorem OrdU.keep {B bo S : Nat} {pre : List Nat} {W W' : World} (h : OrdU B bo S pre W) (hs : W.heap.size ≤ W'.heap.size) (hk : ∀ k, k ≠ B + 1 → k < W.heap.size → W'.heap[k]? = W.heap[k]?) : OrdU B bo S pre W' := by
  obtain ⟨vo, h1, h2, h3, h4, h5, h6⟩ := h
  have hb := hk bo (by omega) h6
  exact ⟨vo, (World.cell?_of_block (a := ⟨bo, 0, none⟩) hb).trans h1, (World.frozen?_of_block (a := ⟨bo, 0, none⟩) hb).trans h2, own_block h3 (fun k e => by obtain ⟨a, b⟩ := own_lt h3 k e; exact hk k (by omega) b), h4, h5, by omega⟩
/-- Behind a range whose body has changed blocks of the call's own alone. -/
theorem below_range {w W0 W' : World} {X : Nat → Prop} (hbw : Below w.heap.size w W0) (hs : W0.heap.size ≤ W'.heap.size) (h1 : W'.os = W0.os) (h2 : W'.tape = W0.tape) (h3 : W'.output = W0.output) (h4 : ∀ k, k < W0.heap.size → ¬ X k → W'.heap[k]? = W0.heap[k]?) (hX : ∀ k, X k → w.heap.size ≤ k) {o : Obj} :
    Below w.heap.size w (W'.putObj W0.heap.size o) := by
  have hz := hbw.size
  exact ⟨h1.trans hbw.os, h2.trans hbw.tape, h3.trans hbw.output, by rw [putObj_size]; omega, fun k hk => (World.putObj_heap_other (by omega)).trans ((h4 k (by omega) (fun hx => by have := hX k hx; omega)).trans (hbw.block k hk))⟩
set_option maxRecDepth 100000 in
set_option maxHeartbeats 1000000 in
theorem order_any (w : World) (g : Nat) (n : Int) (A : Option Addr) (c : Nat) (ps : List Pr) (hg : g < w.heap.size) (cp : w.cell? ⟨g, 2, none⟩ = some (.slice A ps.length c)) (hr : Rd w w.heap.size A (prs ps))
    (hl : ps.length ≤ 10) (hm : ∀ p ∈ ps, 0 ≤ p.m ∧ p.m ≤ 10000) (ho : Once ps) :
    Calls Tryz.prog 97 #[.pointer (some ⟨g, 0, none⟩), .int .i64 n] w (RetOwn 3 1 (ordL ps n).length (nums (ordL ps n)) w) := by
  have HP := fun W => Lib.hid (proofs_any g n W)
  have HCP := Lib.hid cp
  have HR := Lib.hid hr
  clear cp hr
  refine callsIn_wide.1 (callsIn_of_wp_marks (F := Fence.wide) (n := 4) Tryz.func97 rfl trivial ?_)
  refine wpIn_wide.2 ?_
  simp only [Tryz.ntmps97, List.size_toArray, List.length_cons, List.length_nil, Nat.reduceAdd, Nat.reduceSub, Array.replicate_succ, Array.replicate_zero, List.push_toArray, List.append_toArray, List.nil_append, List.cons_append]
  go_wp2_with fail
  refine (HP _).out.mono ?_
  rintro e w1 ⟨v, base, rfl, hbase, hit, hb1⟩
  go_wp2_with fail
  obtain ⟨hv, hlt, hcx, hcn⟩ := hit
  subst hv
  have hgw : g < w1.heap.size := Nat.lt_of_lt_of_le hg (Nat.le_trans (by simp) hb1.size)
  have cp1 : w1.cell? ⟨g, 2, none⟩ = some (.slice A ps.length c) := by
    refine (hb1.cell (p := ⟨g, 2, none⟩) (Nat.lt_of_lt_of_le hg (by simp))).trans ?_
    exact (World.cell?_alloc_lt _ _ ⟨g, 2, none⟩ hg).trans HCP.out
  have cb1 : w1.cell? ⟨w.heap.size, 0, none⟩ = some (.slice none 0 0) := by
    refine (hb1.cell (p := ⟨w.heap.size, 0, none⟩) (by simp)).trans ?_
    exact (Blk.new w [.slice none 0 0] 41).cells 0 _ rfl
  have cf1 : w1.frozen? ⟨w.heap.size, 0, none⟩ = false := by
    refine (hb1.frozen (p := ⟨w.heap.size, 0, none⟩) (by simp)).trans ?_
    exact (Blk.new w [.slice none 0 0] 41).free 0
  have hbw : Below w.heap.size w w1 := (below_new _ _).trans (hb1.mono (by simp))
  have hr1 : Rd w1 w.heap.size A (prs ps) := HR.out.below hbw
  have hbs0 : w.heap.size + 1 ≤ base := by simpa using hbase
  have hbz0 : w.heap.size < w1.heap.size := by omega
  clear hb1
  refine range_proofs w1 3 base g n A c ps w.heap.size (by rfl) (by rfl) hcx cp1 hcn hr1 hbw.size hlt hgw hl hm ho (fun k => k = w.heap.size) (fun k hk => by subst hk; omega) (OrdU w1.heap.size w.heap.size) (fun _ _ => False) (fun S pre W W' h hs hk => h.keep hs hk) (fun _ _ _ h => h.elim) ?_ ?_ ?_ ?_
  · intro S W hS hb
    exact ⟨.slice none 0 0, (hb.cell (p := ⟨w.heap.size, 0, none⟩) hbz0).trans cb1, (hb.frozen (p := ⟨w.heap.size, 0, none⟩) hbz0).trans cf1, ⟨rfl, .inl ⟨rfl, rfl⟩⟩, by simp [Value.ownBlock], hbz0, Nat.lt_of_lt_of_le hbz0 hb.size⟩
  · intro W1 rec S pre i W hz1 hbz hJ hU hpre
    have HJ := Lib.hid hJ
    gi_wp2
    refine ⟨HJ.out, by first | rfl | trivial, Nat.le_refl _, ?_⟩
    have hJb := HJ.out.put (by omega) .busy none
    have hUb : OrdU w1.heap.size w.heap.size S pre (W.putObj (w1.heap.size + 1) (.loop (rec .busy none))) := hU.keep (by rw [putObj_size]; exact Nat.le_refl _) fun k hk _ => World.putObj_heap_other hk
    have hSb : (W.putObj (w1.heap.size + 1) (.loop (rec .busy none))).heap[S]? = W.heap[S]? := World.putObj_heap_other (by have := HJ.out.hS; omega)
    have hzb : (W.putObj (w1.heap.size + 1) (.loop (rec .busy none))).heap.size = W.heap.size := putObj_size _ _ _
    generalize W.putObj (w1.heap.size + 1) (.loop (rec .busy none)) = Wb at *
    have hp10 : pre.length ≤ 10 := by
      have h1 := hpre.length_le
      rw [List.length_append] at h1
      have h2 := ordL_length ps n
      simp at h1; omega
    obtain ⟨vo, ho1, ho2, ho3, ho4, ho5, ho6⟩ := hUb
    have hB : w1.heap.size + 2 ≤ Wb.heap.size := by have := hJb.size; omega
    obtain ⟨i0, hi, hz0, hz1', hz2⟩ := info_parts infoInt
    have HSb := Lib.hid hSb
    have HZb := Lib.hid hzb
    have hov := own_lt ho3
    have HOV := Lib.hid hov
    have HO4 := Lib.hid ho4
    have HJB := Lib.hid hJb
    generalize prV (pAt ps i) = pv
    clear hSb hzb hov ho4 hJb hU hJ hpre
    gi_wp2_with (gi_at_builtin; refine wpListIn_append_own_at _ rfl _ _ 41 rfl (w1.heap.size + 2) 3 i0 (.int .i64 0) 1 8 Tryz.underlying41 hi hz0 hz1' hz2 rfl (by decide) _ _ _ rfl (ho3.alloc _) ⟨Wb.heap.size, 0, none⟩ 1 1 [.int .i64 i] rfl rfl (cell_one_new _ _ _) (by simp [Value.oneCell']) (by unfold maxLen; omega) (by omega) (by simp; omega) ?_; intro v' w3 hown' hgrow hnil hat; obtain ⟨A2, c2, rfl, hc2, _⟩ := own_slice hown'; have hg3 := grown_block hgrow ho6 (fun e => by have := (HOV.out _ e).1; omega); have hb3 := (World.cell?_of_block (a := ⟨w.heap.size, 0, none⟩) hg3).trans ho1; have hf3 := (World.frozen?_of_block (a := ⟨w.heap.size, 0, none⟩) hg3).trans ho2)
    have hne : ∀ k, k < w1.heap.size + 2 → w3.heap[k]? = Wb.heap[k]? := fun k hk => grown_block hgrow (by omega) (fun e => by have := (HOV.out _ e).1; omega)
    have hsz : Wb.heap.size ≤ w3.heap.size := Nat.le_trans (by simp) hgrow.size
    have hW : ∀ k, k ≠ w.heap.size → (w3.setCell ⟨w.heap.size, 0, none⟩ (.slice A2 (pre.length + 1) c2)).heap[k]? = w3.heap[k]? := fun k hk => heap_far hk
    have hS1 := HJB.out.hS
    have hS2 := HJB.out.lt
    have hS3 : w3.heap[S]? = Wb.heap[S]? := grown_block hgrow hS2 HO4.out
    refine ⟨HJB.out.step (by omega) (by omega) hgrow.os hgrow.tape hgrow.output (by simpa [World.setCell] using hsz) (fun k hk hx => (hW k hx).trans (hne k (by omega))), ?_, ?_, ?_⟩
    · exact (hW S (by omega)).trans (hS3.trans HSb.out)
    · have := HZb.out
      simpa [World.setCell, ← this] using hsz
    · refine ⟨_, World.cell?_setCell_same _ _ _ hb3, by simpa using hf3, ?_, ?_, ho5, by simp [World.setCell]; omega⟩
      · have := own_block (w' := w3.setCell ⟨w.heap.size, 0, none⟩ (.slice A2 (pre.length + 1) c2)) hown' (fun k hk => hW k (by have := (own_lt hown' k hk).1; omega))
        rw [nums_snoc, List.length_append]
        exact this
      · rcases hat with h | h
        · rw [h]; exact HO4.out
        · rw [h]; intro e; injection e with e; simp at e; omega
  · intro W1 S W' hz1 hbz hs h1 h2 h3 h4 h5 hU
    obtain ⟨vo, ho1, ho2, ho3, ho4, ho5, ho6⟩ := hU
    have H5 := Lib.hid h5
    have HO := Lib.hid ho3
    obtain ⟨A2, c2, rfl, hc2, _⟩ := own_slice ho3
    clear ho3 h5
    go_wp2_with fail
    refine ⟨by simp, .inl ⟨_, _, rfl, run_takeDeferred H5.out, ?_⟩⟩
    refine ⟨_, results_tmp rfl _ _ _, ?_⟩
    refine ⟨_, rfl, (own_block HO.out (fun k hk => World.putObj_heap_other (by have := (own_lt HO.out k hk).1; omega))).base_ (by omega), ?_⟩
    exact below_range hbw hs h1 h2 h3 h4 (fun k hk => by omega)
  · intro W1 pre W' _ _ _ _ _ _ _ _ h
    exact h.elim
end Go.Proofs.YtcdjoegihmfanaaGreat
