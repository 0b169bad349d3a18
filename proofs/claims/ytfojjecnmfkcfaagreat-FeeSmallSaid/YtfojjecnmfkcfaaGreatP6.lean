/- bid: pours pennies until the bill is paid, on a desk with at most six houses that are right. list: what houses pay, in a block of its own, on a desk with at most six houses. with: a desk with another value for a house, at most six houses that are right. Bids and asked: the shares by bids, or the error, at every bill of at most 1000 houses. Appeal: the shares by bids with another value, and how much less, or the error, at every bill of at most 1000 houses. -/
import Derived.Test.YtfojjecnmfkcfaaGreatP5
import Derived.Shelf.Abstract
import Derived.Laws.CopyOwn
import Derived.Test.YtfojjecnmfkcfaaGreatP2
namespace Go.Proofs.YtfojjecnmfkcfaaGreat
open Go.RowKit
set_option linter.unusedVariables false
attribute [local go_sem] Oper.semAt_some
attribute [local simp, local go_sem] wide_fn wide_fn' wide_depth
def leastsK (hs : List (Int × Int × Int)) (k : Nat) : List Int := (List.range 6).map fun i => if i < k then (hs.getD i (0, 0, 0)).2.1 else 0
theorem leastsK_len (hs : List (Int × Int × Int)) (k : Nat) : (leastsK hs k).length = 6 := by simp [leastsK]
theorem leastsK_get (hs : List (Int × Int × Int)) (k i : Nat) : (leastsK hs k).getD i 0 = if i < 6 ∧ i < k then (hs.getD i (0, 0, 0)).2.1 else 0 := by
  unfold leastsK
  rw [List.getD_eq_getElem?_getD, List.getElem?_map]
  by_cases h : i < 6
  · rw [List.getElem?_range h]; simp [h]
  · rw [List.getElem?_eq_none (by simp; omega)]; simp [h]
theorem leastsK_set (hs : List (Int × Int × Int)) (k : Nat) (h : k < hs.length) (h6 : k < 6) : (leastsK hs k).set k hs[k].2.1 = leastsK hs (k + 1) := by
  apply List.ext_getElem?
  intro i
  rw [List.getElem?_set]
  unfold leastsK
  rw [List.getElem?_map, List.getElem?_map]
  by_cases e : k = i
  · subst e
    rw [if_pos rfl, if_pos (by simp; omega), List.getElem?_range h6]
    simp [List.getD_eq_getElem?_getD, List.getElem?_eq_getElem h]
  · rw [if_neg e]
    by_cases h2 : i < 6
    · rw [List.getElem?_range h2]
      have : (i < k) = (i < k + 1) := by rw [eq_iff_iff]; omega
      simp [this]
    · rw [List.getElem?_eq_none (by simp; omega)]; simp
theorem leastsK_zero (hs : List (Int × Int × Int)) : leastsK hs 0 = [0, 0, 0, 0, 0, 0] := by simp [leastsK, List.range, List.range.loop]
def bidPs (hs : List (Int × Int × Int)) (p : Int) : List Int := pour hs (p - (leastsK hs hs.length).sum).toNat (leastsK hs hs.length)
def bidOk (hs : List (Int × Int × Int)) (p : Int) : Bool := (bidPs hs p).sum == p
theorem paysOk_leasts {hs : List (Int × Int × Int)} (ho : housesOk hs) (k : Nat) : paysOk hs (leastsK hs k) := by
  refine ⟨leastsK_len hs k, fun i => ?_⟩
  rw [leastsK_get]
  split
  · by_cases h : i < hs.length
    · rw [List.getD_eq_getElem?_getD, List.getElem?_eq_getElem h, Option.getD_some]
      have := ho.2 hs[i] (List.getElem_mem _)
      omega
    · rw [List.getD_eq_getElem?_getD, List.getElem?_eq_none (by omega)]; simp
  · omega
theorem paysOk_pour {hs : List (Int × Int × Int)} (ho : housesOk hs) : ∀ (n : Nat) (ps : List Int), paysOk hs ps → paysOk hs (pour hs n ps) := by
  intro n
  induction n with
  | zero => intro ps h; exact h
  | succ n ih =>
    intro ps h
    simp only [pour]
    split
    · exact h
    · rename_i hb
      rcases bestK_cases hs ps hs.length with h1 | ⟨j, hj, h1⟩
      · exact absurd h1 hb
      · rw [h1, Int.toNat_natCast]
        exact ih _ (paysOk_bump ho h hj (bestK_can hs ps _ j h1))
theorem sum6_any {w : World} {g : Nat} {p : Int} {A : Option Addr} {n c : Nat} {hs : List (Int × Int × Int)} {ps : List Int} (hd : Desk w g p A n c ps) (hp : paysOk hs ps) :
    Calls Tryz.prog 82 #[.slice (some ⟨g, 2, none⟩) 6 6] w fun e w' => e = .returned (.int .i64 ps.sum) ∧ w' = w := by
  have hr : Rd w w.heap.size (some ⟨g, 2, none⟩) (ints ps) := fun _ => ⟨g, 2, rfl, hd.lt, fun j u hu => by
    simp only [ints, List.getElem?_map, Option.map_eq_some_iff] at hu
    obtain ⟨a, ha, rfl⟩ := hu
    exact hd.pays j a ha⟩
  have h := sum_any (some ⟨g, 2, none⟩) 6 ps w hr (by rw [hd.len]; omega) (fun z hz => by have := paysOk_mem hp z hz; omega)
  rw [hd.len] at h
  exact h.mono fun e w' ⟨a, b⟩ => ⟨a, b.symm⟩
theorem sum_paysOk {hs : List (Int × Int × Int)} {ps : List Int} (h : paysOk hs ps) : 0 ≤ ps.sum ∧ ps.sum ≤ 3600 := by
  have h1 := sum_le 600 ps (fun z hz => by have := paysOk_mem h z hz; omega)
  have h2 : 0 ≤ ps.sum := by
    have : ∀ l : List Int, (∀ x ∈ l, 0 ≤ x) → 0 ≤ l.sum := by
      intro l
      induction l with
      | nil => intro _; simp
      | cons a l ih => intro hh; have := ih (fun x hx => hh x (List.mem_cons_of_mem _ hx)); have := hh a List.mem_cons_self; simp; omega
    exact this ps fun x hx => (paysOk_mem h x hx).1
  rw [h.1] at h1
  omega
theorem only_drewN {a w : World} {row : Option Nat} (h : a.grownBy w row) (n : Nat) : a.grownBy (w.drewN n) row := ⟨h.os, h.tape, h.output, h.size, h.block⟩
theorem only_allocg {a w : World} {row : Option Nat} (h : a.grownBy w row) (o : Obj) : a.grownBy (w.alloc o) row := grown_below h (below_new w o)
theorem only_setg {a w : World} {g : Nat} (h : a.grownBy w (some g)) (o : Nat) (u : Value) : a.grownBy (w.setCell ⟨g, o, none⟩ u) (some g) :=
  ⟨h.os, h.tape, h.output, by simpa [World.setCell] using h.size, fun k hk hn => (Below.heap_setCell w ⟨g, o, none⟩ u k (fun e => hn (by rw [e]))).trans (h.block k hk hn)⟩
/-- 'bid' has gone through its first loop. -/
def BidPost (g : Nat) (p : Int) (A : Option Addr) (c : Nat) (hs : List (Int × Int × Int)) (w : World) (e : Ending) (w' : World) : Prop :=
  e = .returned (.bool (bidOk hs p)) ∧ Desk w' g p A hs.length c (bidPs hs p) ∧ w.grownBy w' (some g)
theorem pennies_any (g : Nat) (w : World) : Calls Tryz.prog 110 #[.pointer (some ⟨g, 0, none⟩)] w fun e w' => e = .returned (.func (.func 124) #[] #[.pointer (some ⟨w.heap.size, 0, none⟩)]) ∧ w.alloc (.cells #[.pointer (some ⟨g, 0, none⟩)] 112) = w' := by
  go_enter Tryz.func110, Tryz.ntmps110
  go_wp2_with fail
  go_ret
  exact ⟨rfl, rfl⟩
set_option maxHeartbeats 1000000 in
theorem bid_any (g : Nat) (p : Int) (A : Option Addr) (c : Nat) (hs : List (Int × Int × Int)) (w : World) (hd : Desk w g p A hs.length c [0, 0, 0, 0, 0, 0]) (hr : Rd w g A (trips hs)) (ho : housesOk hs) (hp0 : 0 ≤ p) (hp : p ≤ 500) :
    Calls Tryz.prog 60 #[.pointer (some ⟨g, 0, none⟩)] w (BidPost g p A c hs w) := by
  have hl := ho.1
  refine callsIn_wide.1 (callsIn_of_wp_marks (F := Fence.wide) (n := 4) Tryz.func60 rfl trivial ?_)
  refine wpIn_wide.2 ?_
  simp only [Tryz.ntmps60, List.size_toArray, List.length_cons, List.length_nil, Nat.reduceAdd, Nat.reduceSub, Array.replicate_succ, Array.replicate_zero, List.push_toArray, List.append_toArray, List.nil_append, List.cons_append]
  have hh := hd.houses
  have hgl := hd.lt
  rw [← leastsK_zero hs] at hd
  have hne : w.heap.size ≠ g := by omega
  go_wp2_with fail
  go_loopw [3, 4, 11] (fun _ _ i wr => ∃ k : Nat, k ≤ hs.length ∧ i = .int .i64 k ∧ Desk wr g p A hs.length c (leastsK hs k) ∧ wr.cell? ⟨w.heap.size, 0, none⟩ = some (.pointer (some ⟨g, 0, none⟩)) ∧ w.heap.size < wr.heap.size ∧ w.grownBy wr (some g)) (fun _ _ i _ => hs.length - (intOf i).toNat)
  case atStart => exact ⟨0, by omega, rfl, hd.alloc _, by simp, by simp, World.grownBy_alloc _ _ _⟩
  case round =>
    obtain ⟨k, hk, rfl, hdk, hbx, hbs, hgr⟩ := hrel
    have hrw := hr.grown hgr (Nat.le_refl _) (Nat.le_of_lt hgl)
    by_cases hlt : k < hs.length
    · obtain ⟨b, off, rfl, hbb, hc1, hc2, hc3⟩ := hrw.trip hlt
      have hbg : b < wr.heap.size := by have := hdk.lt; omega
      have hpk := hdk.at_ (i := k) (by omega)
      have hfz := hdk.free (2 + k)
      have hgw := hdk.lt
      have hk6 : (k : Int) < 6 := by omega
      have hS := leastsK_set hs k hlt (by omega)
      have HS := Lib.hid hS
      clear hS
      go_wp2_with fail
      go_region
      all_goals go_wp2_with fail
      go_roundw
      case rel =>
        refine ⟨k + 1, by omega, by go_num, ?_, ?_, ?_, ?_⟩
        · have h := hdk.bump (j := k) (by omega) hs[k].2.1
          rw [HS.out] at h
          exact (h.alloc _).drewN 1
        · refine (World.cell?_alloc_lt _ _ ⟨w.heap.size, 0, none⟩ (by simpa [World.setCell] using hbs)).trans ?_
          rw [World.cell?_setCell_other _ _ _ _ (by intro e; injection e with e1 _; exact hne e1.symm)]
          exact hbx
        · simp [World.setCell]; omega
        · exact only_drewN (only_allocg (only_setg hgr _ _) _) 1
      case measure => simp [intOf]; omega
    · have hkk : k = hs.length := by omega
      subst hkk
      have hpo := paysOk_leasts ho hs.length
      have hsb := sum_paysOk hpo
      have hpe := hdk.pence
      have hgw := hdk.lt
      have HSum : ∀ n, Hid (Calls Tryz.prog 82 #[.slice (some ⟨g, 2, none⟩) 6 6] (wr.drewN n) fun e w' => e = .returned (.int .i64 (leastsK hs hs.length).sum) ∧ w' = wr.drewN n) := fun n => sum6_any (hs := hs) (hdk.drewN n) hpo
      by_cases hlt2 : (leastsK hs hs.length).sum < p
      · go_wp2_with fail
        go_quiet ((go_at_call 82; exact Calls.quiet_of_same (HSum _).out))
        go_wp2_with fail
        refine (pennies_any _ _).mono ?_
        rintro e w1 ⟨rfl, rfl⟩
        go_wp2_with fail
        obtain ⟨W0, hW0⟩ : ∃ W0, W0 = (wr.drewN nq).alloc (.cells #[.pointer (some ⟨g, 0, none⟩)] 112) := ⟨_, rfl⟩
        rw [← hW0]
        have kfr : w.grownBy W0 (some g) := by rw [hW0]; exact only_allocg (only_drewN hgr _) _
        have kdk : Desk W0 g p A hs.length c (leastsK hs hs.length) := by rw [hW0]; exact (hdk.drewN _).alloc _
        have kbx : W0.cell? ⟨wr.heap.size, 0, none⟩ = some (.pointer (some ⟨g, 0, none⟩)) := by rw [hW0]; show ((wr.drewN nq).alloc _).cell? ⟨(wr.drewN nq).heap.size, 0, none⟩ = _; rw [World.cell?_alloc_new]; rfl
        have kbx2 : W0.cell? ⟨w.heap.size, 0, none⟩ = some (.pointer (some ⟨g, 0, none⟩)) := by rw [hW0]; exact (World.cell?_alloc_lt _ _ ⟨w.heap.size, 0, none⟩ hbs).trans hbx
        have ksz : W0.heap.size = wr.heap.size + 1 := by rw [hW0]; simp
        have Ksz := Lib.hid ksz
        have ksz1 : wr.heap.size < W0.heap.size := by omega
        have krd : Rd W0 g A (trips hs) := hr.grown kfr (Nat.le_refl _) (Nat.le_of_lt hgl)
        clear hW0 HSum ksz
        refine wp_range 4 rfl (Go.Proofs.enters_of Tryz.func124 (by kernel_rfl) rfl) ?_
        intro fn rec hrec
        have Hrec := Lib.hid hrec
        clear hrec
        refine (pennies1_any W0 3 g (W0.heap.size + 1) W0.heap.size wr.heap.size rec p A c hs ho krd (by omega) (by omega) (by omega) kbx (by omega) (by omega) ?_ _ (leastsK hs hs.length) ?_ hpo hlt2 hp).mono ?_
        · intro h ps W hbd hps
          have hrec := Hrec.out
          have hB0 := hbd.put (by omega) (by omega) (by omega) .busy none
          have hsum := sum_paysOk hps
          have hpeb := hB0.desk.pence
          have hbxb : (W.putObj (W0.heap.size + 1) (.loop (rec .busy none))).cell? ⟨w.heap.size, 0, none⟩ = some (.pointer (some ⟨g, 0, none⟩)) :=
            (World.cell?_of_block (a := ⟨w.heap.size, 0, none⟩) (hB0.fr.block w.heap.size (by omega) (by intro e; injection e with e; omega))).trans kbx2
          have hgwb := hB0.desk.lt
          have HB0 := Lib.hid hB0
          clear hB0
          subst hrec
          refine yield_round hbd.loop rfl ?_
          have HSum2 : ∀ n, Hid (Calls Tryz.prog 82 #[.slice (some ⟨g, 2, none⟩) 6 6] ((W.putObj (W0.heap.size + 1) (.loop (recOf fn _ _ .skip _ _ .busy none))).drewN n) fun e w' => e = .returned (.int .i64 ps.sum) ∧ w' = (W.putObj (W0.heap.size + 1) (.loop (recOf fn _ _ .skip _ _ .busy none))).drewN n) := fun n => sum6_any (hs := hs) (HB0.out.desk.drewN n) hps
          generalize hWb : W.putObj (W0.heap.size + 1) _ = Wb at *
          clear hWb
          by_cases hq : ps.sum = p
          · have hq1 : (ps.sum == p) = true := by simpa using hq
            have Hq := Lib.hid hq
            clear hq
            gi_wp2
            refine round_region ?_ (by kernel_rfl) (by kernel_rfl) ?_
            · intro o ho c
              simp at ho
              rcases ho with rfl | rfl | rfl | rfl | rfl | rfl | rfl | rfl | rfl | rfl | rfl <;> simp
            repeat (gi_big_quiet_step ((gi_at_call 82; exact CallsIn.quiet_round (HSum2 _).out)))
            refine wpQuietIn_nil ?_
            rintro w' ⟨nq2, rfl⟩
            gi_wp2
            refine ⟨_, _, run_endRound (some (.exit 2)) HB0.out.loop, .inr ⟨Hq.out, rfl, ?_⟩⟩
            exact (HB0.out.below (below_drewN (Below.refl _ _) nq2)).put (by omega) (by omega) (by omega) .done (some (.exit 2))
          · have hq1 : (ps.sum == p) = false := by simpa using hq
            have Hq := Lib.hid hq
            clear hq
            gi_wp2
            refine round_region ?_ (by kernel_rfl) (by kernel_rfl) ?_
            · intro o ho c
              simp at ho
              rcases ho with rfl | rfl | rfl | rfl | rfl | rfl | rfl | rfl | rfl | rfl | rfl <;> simp
            repeat (gi_big_quiet_step ((gi_at_call 82; exact CallsIn.quiet_round (HSum2 _).out)))
            refine wpQuietIn_nil ?_
            rintro w' ⟨nq2, rfl⟩
            gi_wp2
            refine ⟨_, _, run_endRound none HB0.out.loop, .inl ⟨Hq.out, rfl, ?_⟩⟩
            exact (HB0.out.below (below_drewN (Below.refl _ _) nq2)).put (by omega) (by omega) (by omega) .ready none
        · have hl1 : ((W0.alloc (.deferred (some []))).alloc (.loop (rec .ready none))).heap[W0.heap.size + 1]? = some (.loop (rec .ready none)) := by
            have := World.alloc_heap_new (W0.alloc (.deferred (some []))) (.loop (rec .ready none)); rwa [World.size_alloc] at this
          exact ⟨only_allocg (only_allocg (World.grownBy.refl _ _) _) _, (kdk.alloc _).alloc _, hl1, (Below.heap_alloc _ _ _ (by simp)).trans (World.alloc_heap_new W0 _)⟩
        · rintro e W2 ⟨hv, st, pe, hbd, hcase⟩
          refine ⟨hv, st, pe, ?_, hbd.loop, ?_⟩
          · rcases hcase with ⟨rfl, _⟩ | ⟨rfl, _⟩ <;> simp
          · have hB3 := hbd.put (by omega) (by omega) (by omega) .exhausted pe
            have HB3 := Lib.hid hB3
            clear hB3 hbd
            have hbp : bidPs hs p = pour hs (p - (leastsK hs hs.length).sum).toNat (leastsK hs hs.length) := rfl
            rw [← hbp] at HB3
            clear hbp
            have hpo3 := paysOk_pour ho (p - (leastsK hs hs.length).sum).toNat _ hpo
            have hpo4 : paysOk hs (bidPs hs p) := hpo3
            clear hpo3
            have hsb3 := sum_paysOk hpo4
            obtain ⟨W3, hW3⟩ : ∃ W3, W3 = W2.putObj (W0.heap.size + 1) (.loop (rec .exhausted pe)) := ⟨_, rfl⟩
            rw [← hW3] at HB3
            have HSum3 : ∀ n, Hid (Calls Tryz.prog 82 #[.slice (some ⟨g, 2, none⟩) 6 6] (W3.drewN n) fun e w' => e = .returned (.int .i64 (bidPs hs p).sum) ∧ w' = W3.drewN n) := fun n => sum6_any (hs := hs) (HB3.out.desk.drewN n) hpo4
            have hpe3 := HB3.out.desk.pence
            have hbx3 : W3.cell? ⟨w.heap.size, 0, none⟩ = some (.pointer (some ⟨g, 0, none⟩)) :=
              (World.cell?_of_block (a := ⟨w.heap.size, 0, none⟩) (HB3.out.fr.block w.heap.size (by omega) (by intro e; injection e with e; omega))).trans kbx2
            have hgw3 := HB3.out.desk.lt
            have Hfin : ∀ n, Hid (BidPost g p A c hs w (.returned (.bool ((bidPs hs p).sum == p))) ((W3.drewN n).putObj W0.heap.size (.deferred none))) := by
              intro n
              have hz := (Array.getElem?_eq_some_iff.1 HB3.out.coll).1
              refine ⟨rfl, HB3.out.desk.of_cells (by rw [putObj_size]; exact HB3.out.desk.lt) (World.putObj_heap_other (by omega)), ?_⟩
              refine ⟨HB3.out.fr.os.trans kfr.os, HB3.out.fr.tape.trans kfr.tape, HB3.out.fr.output.trans kfr.output, by rw [putObj_size]; exact Nat.le_trans kfr.size HB3.out.fr.size, fun k hk hn => ?_⟩
              have e0 := kfr.size
              exact (World.putObj_heap_other (w := W3.drewN n) (by omega)).trans ((HB3.out.fr.block k (by omega) hn).trans (kfr.block k hk hn))
            have HK3 : ∀ n, Hid ((W3.drewN n).heap[W0.heap.size]? = some (.deferred (some []))) := fun n => HB3.out.coll
            have hpos : 0 < w.heap.size ∨ w.heap.size = 0 := by omega
            rcases hcase with ⟨rfl, rfl⟩ | ⟨rfl, rfl⟩
            · rw [← hW3]
              clear hW3
              go_wp2_with fail
              go_quiet ((go_at_call 82; exact Calls.quiet_of_same (HSum3 _).out))
              go_wp2_with fail
              refine ⟨by simp, .inl ⟨_, _, rfl, run_takeDeferred (HK3 _).out, ?_⟩⟩
              refine ⟨_, results_tmp rfl _ _ _, ?_⟩
              exact (Hfin nq).out
            · refine wpIn_exit ?_
              rw [← hW3]
              clear hW3
              go_wp2_with fail
              go_quiet ((go_at_call 82; exact Calls.quiet_of_same (HSum3 _).out))
              go_wp2_with fail
              refine ⟨by simp, .inl ⟨_, _, rfl, run_takeDeferred (HK3 _).out, ?_⟩⟩
              refine ⟨_, results_tmp rfl _ _ _, ?_⟩
              exact (Hfin nq).out
      · have hnone : (p - (leastsK hs hs.length).sum).toNat = 0 := by omega
        have hbp : bidPs hs p = leastsK hs hs.length := by unfold bidPs; rw [hnone]; rfl
        have Hbp := Lib.hid hbp
        clear hnone hbp
        go_wp2_with fail
        go_quiet ((go_at_call 82; exact Calls.quiet_of_same (HSum _).out))
        go_wp2_with fail
        have HSum4 : ∀ n, Hid (Calls Tryz.prog 82 #[.slice (some ⟨g, 2, none⟩) 6 6] ((wr.drewN nq).drewN n) fun e w' => e = .returned (.int .i64 (leastsK hs hs.length).sum) ∧ w' = (wr.drewN nq).drewN n) := fun n => sum6_any (hs := hs) ((hdk.drewN nq).drewN n) hpo
        obtain ⟨W4, hW4⟩ : ∃ W4, W4 = wr.drewN nq := ⟨_, rfl⟩
        have hd4 : Desk W4 g p A hs.length c (leastsK hs hs.length) := by rw [hW4]; exact hdk.drewN nq
        have hf4 : w.grownBy W4 (some g) := by rw [hW4]; exact only_drewN hgr nq
        have hbx4 : W4.cell? ⟨w.heap.size, 0, none⟩ = some (.pointer (some ⟨g, 0, none⟩)) := by rw [hW4]; exact hbx
        have hpe4 := hd4.pence
        have hgw4 := hd4.lt
        rw [← hW4] at HSum4 ⊢
        clear hW4 HSum
        go_quiet ((go_at_call 82; exact Calls.quiet_of_same (HSum4 _).out))
        go_wp2_with fail
        refine ⟨_, results_tmp rfl _ _ _, ?_⟩
        exact ⟨by unfold bidOk; rw [Hbp.out]; rfl, by rw [Hbp.out]; exact hd4.drewN _, only_drewN hf4 _⟩
end Go.Proofs.YtfojjecnmfkcfaaGreat
namespace Go.Proofs.YtfojjecnmfkcfaaGreat
open Go.RowKit
set_option linter.unusedVariables false
theorem infoIntL : (Tryz.prog.info? 3).map (fun i => (i.zero, i.size, i.bytes)) = some (some (.int .i64 0), 1, 8) := by kernel_rfl
theorem sizeIntL : (Tryz.prog.info? 3).map (·.size) = some 1 := by kernel_rfl
def zerosA (n : Nat) : Array Value := (List.replicate n (Value.int .i64 0)).toArray
theorem made_ints (n : Nat) (W : World) (hn : n ≤ 1000000) : (Instr.makeSlice 22 (.int .i64 (n : Int)) (.int .i64 (n : Int))).run Tryz.prog W = .ok (.slice (some ⟨W.heap.size, 0, none⟩) n n) (W.alloc (.cells (zerosA n) 3)) := by
  obtain ⟨i0, hi, hz0, hz1, hz2⟩ := info_parts infoIntL
  have h := run_make (P := Tryz.prog) (w := W) 22 3 i0 (.int .i64 0) Tryz.underlying22 hi hz0 .i64 .i64 n n (by omega) (by omega) (by rw [hz2]; omega) (by omega)
  simp only [Int.toNat_natCast, hz1, Nat.mul_one] at h
  have e : madeCells (Value.int .i64 0).cells n = zerosA n := by
    apply Array.ext'
    show (madeCells #[Value.int .i64 0] n).toList = _
    rw [toList_madeCells_one]; rfl
  rw [h, e]
/-- A block whose first cells are these is an owned row. -/
theorem own_of_block {w : World} {base g : Nat} {e : TypeId} {n : Nat} {xs : List Value} (hb : base ≤ g) (hg : w.heap[g]? = some (.cells xs.toArray e (0, 0))) (hn : xs.length = n) (hm : n ≤ maxLen) : w.ownsRow base e 1 (.slice (some ⟨g, 0, none⟩) n n) n xs :=
  ⟨by rw [hn, Nat.mul_one], .inr ⟨g, n, xs.toArray, rfl, hb, hg, Nat.le_refl _, hm, by simp [hn], by simp [← hn]⟩⟩
set_option maxHeartbeats 400000 in
theorem list_any (g : Nat) (p : Int) (A : Option Addr) (n c : Nat) (ps : List Int) (w : World) (hd : Desk w g p A n c ps) (hn : n ≤ 6) :
    Calls Tryz.prog 61 #[.pointer (some ⟨g, 0, none⟩)] w (RetOwn 3 1 n (ints (ps.take n)) w) := by
  have hh := hd.houses
  have hgl := hd.lt
  have hmk := fun W => made_ints n W (by omega)
  have hcs : (ints (ps.take n)).length = n := by rw [ints_length, List.length_take, hd.len]; omega
  have Hcs := Lib.hid hcs
  clear hcs
  go_enter Tryz.func61, Tryz.ntmps61
  go_wp2_with (with_reducible refine wpList_copy_splice rfl _ _ 22 22 rfl 3 Tryz.underlying22 sizeIntL _ _ n n 6 6 rfl rfl w.heap.size 0 (List.replicate n (Value.int .i64 0)) 3 (heap_alloc_new w _) (ints (ps.take n)) ?_ ?_ ?_ (ints_one _) w.heap.size w (below_new w _) (Nat.le_refl _) ?_)
  · rw [Hcs.out]; exact (Nat.min_eq_right hn).symm
  · intro _
    intro j v hv
    simp only [ints, List.getElem?_map, Option.map_eq_some_iff] at hv
    obtain ⟨u, hu, rfl⟩ := hv
    rw [List.getElem?_take] at hu
    split at hu
    · exact hd.pays j u hu
    · cases hu
  · rw [Hcs.out]; simp
  · intro w2 HG hB
    have hsp : splice (List.replicate n (Value.int .i64 0)) 0 (ints (ps.take n)) = ints (ps.take n) := by
      unfold splice
      rw [List.take_zero, List.nil_append, List.drop_eq_nil_of_le (by rw [Hcs.out]; simp), List.append_nil]
    have hO : w2.ownsRow w.heap.size 3 1 (.slice (some ⟨w.heap.size, 0, none⟩) n n) n (ints (ps.take n)) := by
      have h := HG.out
      rw [hsp] at h
      exact own_of_block (Nat.le_refl _) h Hcs.out (by simp only [maxLen]; omega)
    have HO := Lib.hid hO
    clear hO hsp
    go_wp2_with fail
    go_ret
    exact ⟨_, rfl, HO.out, hB⟩
end Go.Proofs.YtfojjecnmfkcfaaGreat
namespace Go.Proofs.YtfojjecnmfkcfaaGreat
open Go.RowKit
set_option linter.unusedVariables false
theorem run_copy_full {P : Program} (w : World) (dT sT ty elem : TypeId) (g n size dCap sCap : Nat) (a : Addr) (cur : Array Value) (t : TypeId) (cs : List Value)
    (hu : P.underlying dT = some (.slice elem)) (hs : (P.info? elem).map (·.size) = some size)
    (hg : w.heap[g]? = some (.cells cur t (0, 0))) (hn : cs.length = n * size) (hsrc : ∀ j v, cs[j]? = some v → w.cell? (a.add j) = some v) (hfit : cur.size = n * size) (h1 : ∀ v ∈ cs, v.oneCell' = true) :
    (Builtin.copy_ #[dT, sT] ty #[.slice (some ⟨g, 0, none⟩) n dCap, .slice (some a) n sCap]).run P w = .ok (goInt n) (w.setRow g cs.toArray) := by
  have hl := run_loadCells_list (P := P) w a cs hsrc
  have hst := run_storeCells_at P g 0 t cs 0 cur w hg (by simp; omega) h1
  rw [hn] at hl
  have e : (cur.toList.take (0 + 0) ++ cs ++ cur.toList.drop (0 + 0 + cs.length)).toArray = cs.toArray := by
    rw [List.drop_eq_nil_of_le (by simp; omega)]; simp
  rw [e] at hst
  cases hq : P.info? elem with
  | none => simp [hq] at hs
  | some i =>
    have hi : i.size = size := by simpa [hq] using hs
    simp [Builtin.copy_, run_underlying hu, Builtin.lenOf, Builtin.firstCells, sizeOf, typeInfo, hq, hi, hl, hst]
theorem wpList_copy_full {P : Program} {w : World} {ops : Array Oper} {rest : List Oper} {o : Oper} {a : Act} {Q : Exit → Act → World → Prop} (hgd : o.guard = none) (d s : Operand) (dT sT : TypeId)
    (ho : o.op = .call { callee := .builtin .copy, args := #[d, s], argTypes := #[dT, sT] }) (elem : TypeId) (size : Nat) (hu : P.underlying dT = some (.slice elem)) (hsz : (P.info? elem).map (·.size) = some size)
    (g n dCap sCap : Nat) (ad : Addr) (hd : a.eval d = .slice (some ⟨g, 0, none⟩) n dCap) (hs : a.eval s = .slice (some ad) n sCap)
    (cur : Array Value) (t : TypeId) (hg : w.heap[g]? = some (.cells cur t (0, 0))) (cs : List Value) (hn : cs.length = n * size) (hsrc : ∀ j v, cs[j]? = some v → w.cell? (ad.add j) = some v) (hfit : cur.size = n * size) (h1 : ∀ v ∈ cs, v.oneCell' = true)
    (h : ∀ w', Hid (w'.heap[g]? = some (.cells cs.toArray t (0, 0))) → Hid (w.grownBy w' (some g)) → wpList P ops Q rest (a.put o.dst (goInt n)) w') : wpList P ops Q (o :: rest) a w := by
  refine wpList_plain hgd fun K hK => ?_
  have hrun := run_copy_full (P := P) w dT sT o.type elem g n size dCap sCap ad cur t cs hu hsz hg hn hsrc hfit h1
  unfold Oper.wp
  simp [execOp, ho, resolve, invoke, builtin, hd, hs, hrun, Result.andThen]
  exact hK _ _ (h _ (setRow_heap w g cur _ t _ hg) ⟨rfl, rfl, rfl, by simp [World.setRow], fun k hk hne => setRow_other w g k _ (fun e => hne (by rw [e]))⟩)
theorem infoHouseW : (Tryz.prog.info? 37).map (fun i => (i.zero, i.size, i.bytes)) = some (some (.agg #[.int .i64 0, .int .i64 0, .int .i64 0]), 3, 24) := by kernel_rfl
theorem sizeHouseW : (Tryz.prog.info? 37).map (·.size) = some 3 := by kernel_rfl
def zerosH (n : Nat) : Array Value := madeCells #[.int .i64 0, .int .i64 0, .int .i64 0] (n * 3)
theorem zerosH_size (n : Nat) : (zerosH n).size = n * 3 := by unfold zerosH; simp [madeCells]
theorem made_houses (n : Nat) (W : World) (hn : n ≤ 1000000) : (Instr.makeSlice 25 (.int .i64 (n : Int)) (.int .i64 (n : Int))).run Tryz.prog W = .ok (.slice (some ⟨W.heap.size, 0, none⟩) n n) (W.alloc (.cells (zerosH n) 37)) := by
  obtain ⟨i0, hi, hz0, hz1, hz2⟩ := info_parts infoHouseW
  have h := run_make (P := Tryz.prog) (w := W) 25 37 i0 _ Tryz.underlying25 hi hz0 .i64 .i64 n n (by omega) (by omega) (by rw [hz2]; omega) (by omega)
  simp only [Int.toNat_natCast, hz1] at h
  exact h
/-- The houses with another value for one of them. -/
def revalue (hs : List (Int × Int × Int)) (j : Nat) (v : Int) : List (Int × Int × Int) := hs.set j (v, (hs.getD j (0, 0, 0)).2.1, (hs.getD j (0, 0, 0)).2.2)
theorem revalue_length (hs : List (Int × Int × Int)) (j : Nat) (v : Int) : (revalue hs j v).length = hs.length := by simp [revalue]
theorem trips_revalue (hs : List (Int × Int × Int)) : ∀ (j : Nat) (v : Int), j < hs.length → trips (revalue hs j v) = (trips hs).set (j * 3) (.int .i64 v) := by
  induction hs with
  | nil => intro j v h; simp at h
  | cons a hs ih =>
    intro j v h
    cases j with
    | zero => simp [revalue, trips]
    | succ j =>
      have e := ih j v (by simpa using h)
      have e2 : revalue (a :: hs) (j + 1) v = a :: revalue hs j v := by simp [revalue]
      rw [e2]
      show [_, _, _] ++ trips (revalue hs j v) = ([_, _, _] ++ trips hs).set _ _
      rw [e, show (j + 1) * 3 = j * 3 + 3 from by omega]
      rfl
theorem Desk.new (W : World) (p : Int) (A : Option Addr) (n c : Nat) (t : TypeId) {H : Nat} (hH : W.heap.size = H) :
    Desk (W.alloc (.cells #[.int .i64 p, .slice A n c, .int .i64 0, .int .i64 0, .int .i64 0, .int .i64 0, .int .i64 0, .int .i64 0] t)) H p A n c [0, 0, 0, 0, 0, 0] := by
  subst hH
  refine ⟨by simp, by rw [World.cell?_alloc_new]; rfl, by rw [World.cell?_alloc_new]; rfl, rfl, fun i u hu => ?_, fun o => by simp⟩
  rw [World.cell?_alloc_new]
  match i with
  | 0 | 1 | 2 | 3 | 4 | 5 => simp at hu; subst hu; rfl
  | i + 6 => simp at hu
def WithPost (p : Int) (hs : List (Int × Int × Int)) (W : World) (e : Ending) (w' : World) : Prop :=
  ∃ g A, e = .returned (.pointer (some ⟨g, 0, none⟩)) ∧ W.heap.size ≤ g ∧ Desk w' g p A hs.length hs.length [0, 0, 0, 0, 0, 0] ∧ Rd w' g A (trips hs) ∧ Below W.heap.size W w'
set_option maxHeartbeats 1000000 in
theorem with_any (g : Nat) (p : Int) (A : Option Addr) (c : Nat) (hs : List (Int × Int × Int)) (ps : List Int) (j : Nat) (v : Int) (w : World) (hd : Desk w g p A hs.length c ps) (hr : Rd w w.heap.size A (trips hs)) (hl : hs.length ≤ 6) (hj : j < hs.length) :
    Calls Tryz.prog 107 #[.pointer (some ⟨g, 0, none⟩), .int .i64 j, .int .i64 v] w (WithPost p (revalue hs j v) w) := by
  have hh := hd.houses
  have hpe := hd.pence
  have hgl := hd.lt
  have hmk := fun W => made_houses hs.length W (by omega)
  obtain ⟨b, off, rfl, hbb, _⟩ := hr.trip hj
  have HN := Lib.hid (hr.alloc (.cells (zerosH hs.length) 37)).news
  have hjl : (j : Int) < hs.length := by omega
  have hj0 : (0 : Int) ≤ (j : Int) := by omega
  go_enter Tryz.func107, Tryz.ntmps107
  go_wp2_with (with_reducible refine wpList_copy_full rfl _ _ 25 25 rfl 37 3 Tryz.underlying25 sizeHouseW w.heap.size hs.length _ _ _ rfl rfl (zerosH hs.length) 37 (heap_alloc_new w _) (trips hs) (trips_length hs) HN.out (zerosH_size _) (trips_one hs) ?_)
  intro w2 HG HB
  have hs2 := HB.out.size
  simp at hs2
  have hblk : w2.heap[w.heap.size]? = some (.cells (trips hs).toArray 37 (0, 0)) := HG.out
  have hcell : w2.cell? ⟨w.heap.size, j * 3, none⟩ = some (.int .i64 hs[j].1) := by
    rw [cell_of_row w2 w.heap.size (j * 3) _ _ _ hblk]
    simpa using (trips_get hs j hj).1
  have hfz : w2.frozen? ⟨w.heap.size, j * 3, none⟩ = false := by simp [World.frozen?, hblk]
  have hB2 : Below w.heap.size w w2 := (below_new w _).grown HB.out (by simp) (fun k hk => by injection hk with hk; omega)
  have hd2 := hd.below hB2
  have hh2 := hd2.houses
  have hpe2 := hd2.pence
  have hblk3 : (w2.setCell ⟨w.heap.size, j * 3, none⟩ (.int .i64 v)).heap[w.heap.size]? = some (.cells (trips (revalue hs j v)).toArray 37 (0, 0)) := by
    rw [trips_revalue hs j v hj]
    simp [World.setCell, Array.getElem?_modify, hblk]
  have Hblk3 := Lib.hid hblk3
  have hlen := revalue_length hs j v
  have Hlen := Lib.hid hlen
  clear hblk hblk3 hlen hmk
  go_wp2_with fail
  go_ret
  refine ⟨w2.heap.size, some ⟨w.heap.size, 0, none⟩, by simp, by omega, ?_, ?_, ?_⟩
  · rw [Hlen.out]
    exact Desk.new _ _ _ _ _ _ (by simp)
  · intro _
    refine ⟨w.heap.size, 0, rfl, by omega, fun i u hu => ?_⟩
    rw [World.cell?_alloc_lt _ _ _ (by simp [World.setCell]; omega), cell_of_row _ w.heap.size _ _ _ _ Hblk3.out]
    simpa using hu
  · exact (hB2.setCell (p := ⟨w.heap.size, j * 3, none⟩) (Nat.le_refl _) _).alloc (by simp [World.setCell]; omega) _
end Go.Proofs.YtfojjecnmfkcfaaGreat
namespace Go.Proofs.YtfojjecnmfkcfaaGreat
open Go.RowKit
set_option linter.unusedVariables false
theorem housesOk_of {p : Int} {hs : List (Int × Int × Int)} (h : ckBill p hs = 0) : housesOk hs := by
  obtain ⟨_, _, _, h4, h5⟩ := ckBill_ok h
  exact ⟨h4, h5⟩
/-- The call returns a slice of its own, and an error. -/
def RetOwnE (E : TypeId) (size n : Nat) (cells : List Value) (code : Int) (W : World) (e : Ending) (w' : World) : Prop :=
  ∃ v, e = .returned (.tuple #[v, .int .i64 code]) ∧ w'.ownsRow W.heap.size E size v n cells ∧ Below W.heap.size W w'
def bidsCode (p : Int) (hs : List (Int × Int × Int)) : Int := if ckBill p hs = 0 then (if bidOk hs p then 0 else 1) else ckBill p hs
def bidsL (p : Int) (hs : List (Int × Int × Int)) : List Int := if bidsCode p hs = 0 then (bidPs hs p).take hs.length else []
theorem bidPs_len {hs : List (Int × Int × Int)} (ho : housesOk hs) (p : Int) : (bidPs hs p).length = 6 := (paysOk_pour ho _ _ (paysOk_leasts ho _)).1
set_option maxHeartbeats 400000 in
theorem Bids_any (A : Option Addr) (c : Nat) (p : Int) (hs : List (Int × Int × Int)) (w : World) (hr : Rd w w.heap.size A (trips hs)) (hl : hs.length ≤ 1000) :
    Calls Tryz.prog 12 #[.agg #[.int .i64 p, .slice A hs.length c]] w (RetOwnE 3 1 (bidsL p hs).length (ints (bidsL p hs)) (bidsCode p hs) w) := by
  have HO := fun w1 (hb : Below w.heap.size w w1) => Lib.hid (opened_any A c p hs w1 (hr.next hb) hl)
  by_cases h0 : ckBill p hs = 0
  · have ho := housesOk_of h0
    obtain ⟨p0, p1, _⟩ := ckBill_ok h0
    by_cases hk : bidOk hs p = true
    · have hc : bidsCode p hs = 0 := by unfold bidsCode; rw [if_pos h0, if_pos hk]
      have hL : bidsL p hs = (bidPs hs p).take hs.length := by unfold bidsL; rw [if_pos hc]
      have hL2 : (bidsL p hs).length = hs.length := by rw [hL, List.length_take, bidPs_len ho]; have := ho.1; omega
      rw [hc, hL2, hL]
      have H0 := Lib.hid h0
      clear h0 hc hL hL2
      go_enter Tryz.func12, Tryz.ntmps12
      go_wp2_with fail
      refine (HO _ (by go_grown)).out.mono ?_
      rintro e w1 (⟨_, g, rfl, hg, hd, hb1⟩ | ⟨hne, _⟩)
      · have hbw : Below w.heap.size w w1 := Below.trans (by go_grown) (hb1.mono (by simp))
        simp at hg
        go_wp2_with fail
        refine (bid_any g p A c hs w1 hd ((hr.below hbw).more (by omega)) ho p0 p1).mono ?_
        rintro e w2 ⟨rfl, hd2, hg2⟩
        have hbw2 : Below w.heap.size w w2 := hbw.grown hg2 hbw.size (fun k hk => by injection hk with hk; omega)
        go_wp2_with fail
        refine (list_any g p A hs.length c _ w2 hd2 ho.1).mono ?_
        rintro e w3 ⟨v, rfl, hown, hb3⟩
        have HO3 := Lib.hid hown
        clear hown
        go_wp2_with fail
        go_ret2
        exact ⟨v, rfl, HO3.out.base_ hbw2.size, hbw2.trans (hb3.mono hbw2.size)⟩
      · exact absurd H0.out hne
    · have hc : bidsCode p hs = 1 := by unfold bidsCode; rw [if_pos h0, if_neg hk]
      have hL : bidsL p hs = [] := by unfold bidsL; rw [hc]; rfl
      have hk' : bidOk hs p = false := by simpa using hk
      rw [hc, hL]
      have H0 := Lib.hid h0
      clear h0 hc hL hk
      go_enter Tryz.func12, Tryz.ntmps12
      go_wp2_with fail
      refine (HO _ (by go_grown)).out.mono ?_
      rintro e w1 (⟨_, g, rfl, hg, hd, hb1⟩ | ⟨hne, _⟩)
      · have hbw : Below w.heap.size w w1 := Below.trans (by go_grown) (hb1.mono (by simp))
        simp at hg
        go_wp2_with fail
        refine (bid_any g p A c hs w1 hd ((hr.below hbw).more (by omega)) ho p0 p1).mono ?_
        rintro e w2 ⟨rfl, hd2, hg2⟩
        have hbw2 : Below w.heap.size w w2 := hbw.grown hg2 hbw.size (fun k hk => by injection hk with hk; omega)
        go_wp2_with fail
        go_ret2
        exact ⟨_, rfl, World.ownsRow_nil _ _ _ _, hbw2⟩
      · exact absurd H0.out hne
  · have hc : bidsCode p hs = ckBill p hs := by unfold bidsCode; rw [if_neg h0]
    have hL : bidsL p hs = [] := by unfold bidsL; rw [hc, if_neg h0]
    rw [hc, hL]
    have h0' : (ckBill p hs == 0) = false := by simpa using h0
    have h0'' : (ckBill p hs != 0) = true := by simpa using h0
    have H0 := Lib.hid h0
    clear h0 hc hL
    go_enter Tryz.func12, Tryz.ntmps12
    go_wp2_with fail
    refine (HO _ (by go_grown)).out.mono ?_
    rintro e w1 (⟨hz, _⟩ | ⟨_, rfl, hb1⟩)
    · exact absurd hz H0.out
    · have hbw : Below w.heap.size w w1 := Below.trans (by go_grown) (hb1.mono (by simp))
      go_wp2_with fail
      go_ret2
      exact ⟨_, rfl, World.ownsRow_nil _ _ _ _, hbw⟩
def askCode (p : Int) (hs : List (Int × Int × Int)) (house : Int) (so : Bool) : Int :=
  if ckBill p hs = 0 then (if inB house 0 ((hs.length : Int) - 1) then (if so then (if bidOk hs p then 0 else 1) else 4) else 2) else ckBill p hs
/-- The call has the shares by bids on a desk, or returns an error. -/
def Asked (p : Int) (A : Option Addr) (c : Nat) (hs : List (Int × Int × Int)) (code : Int) (W : World) (e : Ending) (w' : World) : Prop :=
  (code = 0 ∧ ∃ g, e = .returned (.tuple #[.pointer (some ⟨g, 0, none⟩), .int .i64 0]) ∧ W.heap.size ≤ g ∧ Desk w' g p A hs.length c (bidPs hs p) ∧ Below W.heap.size W w') ∨
  (code ≠ 0 ∧ e = .returned (.tuple #[.pointer none, .int .i64 code]) ∧ Below W.heap.size W w')
set_option maxHeartbeats 1000000 in
theorem asked_any (A : Option Addr) (c : Nat) (p : Int) (hs : List (Int × Int × Int)) (house : Int) (so : Bool) (w : World) (hr : Rd w w.heap.size A (trips hs)) (hl : hs.length ≤ 1000) :
    Calls Tryz.prog 106 #[.agg #[.int .i64 p, .slice A hs.length c], .int .i64 house, .bool so] w (Asked p A c hs (askCode p hs house so) w) := by
  have HO := fun w1 (hb : Below w.heap.size w w1) => Lib.hid (opened_any A c p hs w1 (hr.next hb) hl)
  by_cases h0 : ckBill p hs = 0
  · have ho := housesOk_of h0
    obtain ⟨p0, p1, l1, _⟩ := ckBill_ok h0
    have H0 := Lib.hid h0
    by_cases hh : inB house 0 ((hs.length : Int) - 1) = true
    · cases so with
      | true =>
        by_cases hk : bidOk hs p = true
        · have hc : askCode p hs house true = 0 := by unfold askCode; rw [if_pos h0, if_pos hh, if_pos rfl, if_pos hk]
          rw [hc]
          clear hc h0
          go_enter Tryz.func106, Tryz.ntmps106
          go_wp2_with fail
          refine (HO _ (by go_grown)).out.mono ?_
          rintro e w1 (⟨_, g, rfl, hg, hd, hb1⟩ | ⟨hne, _⟩)
          · have hbw : Below w.heap.size w w1 := Below.trans (by go_grown) (hb1.mono (by simp))
            have hcx := hb1.cell (p := ⟨w.heap.size, 1, none⟩) (by simp)
            simp at hg hcx
            go_wp2_with fail
            refine (in_any _ _ _ _).mono ?_
            rintro e w2 ⟨rfl, rfl⟩
            go_wp2_with fail
            refine (bid_any g p A c hs w1 hd ((hr.below hbw).more (by omega)) ho p0 p1).mono ?_
            rintro e w2 ⟨rfl, hd2, hg2⟩
            have hbw2 : Below w.heap.size w w2 := hbw.grown hg2 hbw.size (fun k hk => by injection hk with hk; omega)
            go_wp2_with fail
            go_ret2
            exact .inl ⟨rfl, g, rfl, by omega, hd2, hbw2⟩
          · exact absurd H0.out hne
        · have hc : askCode p hs house true = 1 := by unfold askCode; rw [if_pos h0, if_pos hh, if_pos rfl, if_neg hk]
          have hk' : bidOk hs p = false := by simpa using hk
          rw [hc]
          clear hc h0 hk
          go_enter Tryz.func106, Tryz.ntmps106
          go_wp2_with fail
          refine (HO _ (by go_grown)).out.mono ?_
          rintro e w1 (⟨_, g, rfl, hg, hd, hb1⟩ | ⟨hne, _⟩)
          · have hbw : Below w.heap.size w w1 := Below.trans (by go_grown) (hb1.mono (by simp))
            have hcx := hb1.cell (p := ⟨w.heap.size, 1, none⟩) (by simp)
            simp at hg hcx
            go_wp2_with fail
            refine (in_any _ _ _ _).mono ?_
            rintro e w2 ⟨rfl, rfl⟩
            go_wp2_with fail
            refine (bid_any g p A c hs w1 hd ((hr.below hbw).more (by omega)) ho p0 p1).mono ?_
            rintro e w2 ⟨rfl, hd2, hg2⟩
            have hbw2 : Below w.heap.size w w2 := hbw.grown hg2 hbw.size (fun k hk => by injection hk with hk; omega)
            go_wp2_with fail
            go_ret2
            exact .inr ⟨by omega, rfl, hbw2⟩
          · exact absurd H0.out hne
      | false =>
        have hc : askCode p hs house false = 4 := by unfold askCode; rw [if_pos h0, if_pos hh, if_neg (by simp)]
        rw [hc]
        clear hc h0
        go_enter Tryz.func106, Tryz.ntmps106
        go_wp2_with fail
        refine (HO _ (by go_grown)).out.mono ?_
        rintro e w1 (⟨_, g, rfl, hg, hd, hb1⟩ | ⟨hne, _⟩)
        · have hbw : Below w.heap.size w w1 := Below.trans (by go_grown) (hb1.mono (by simp))
          have hcx := hb1.cell (p := ⟨w.heap.size, 1, none⟩) (by simp)
          simp at hg hcx
          go_wp2_with fail
          refine (in_any _ _ _ _).mono ?_
          rintro e w2 ⟨rfl, rfl⟩
          go_wp2_with fail
          go_ret2
          exact .inr ⟨by omega, rfl, hbw⟩
        · exact absurd H0.out hne
    · have hc : askCode p hs house so = 2 := by unfold askCode; rw [if_pos h0, if_neg hh]
      have hh' : inB house 0 ((hs.length : Int) - 1) = false := by simpa using hh
      rw [hc]
      clear hc h0 hh
      go_enter Tryz.func106, Tryz.ntmps106
      go_wp2_with fail
      refine (HO _ (by go_grown)).out.mono ?_
      rintro e w1 (⟨_, g, rfl, hg, hd, hb1⟩ | ⟨hne, _⟩)
      · have hbw : Below w.heap.size w w1 := Below.trans (by go_grown) (hb1.mono (by simp))
        have hcx := hb1.cell (p := ⟨w.heap.size, 1, none⟩) (by simp)
        simp at hg hcx
        go_wp2_with fail
        refine (in_any _ _ _ _).mono ?_
        rintro e w2 ⟨rfl, rfl⟩
        go_wp2_with fail
        go_ret2
        exact .inr ⟨by omega, rfl, hbw⟩
      · exact absurd H0.out hne
  · have hc : askCode p hs house so = ckBill p hs := by unfold askCode; rw [if_neg h0]
    rw [hc]
    have h0' : (ckBill p hs == 0) = false := by simpa using h0
    have h0'' : (ckBill p hs != 0) = true := by simpa using h0
    have H0 := Lib.hid h0
    clear h0 hc
    go_enter Tryz.func106, Tryz.ntmps106
    go_wp2_with fail
    refine (HO _ (by go_grown)).out.mono ?_
    rintro e w1 (⟨hz, _⟩ | ⟨_, rfl, hb1⟩)
    · exact absurd hz H0.out
    · have hbw : Below w.heap.size w w1 := Below.trans (by go_grown) (hb1.mono (by simp))
      go_wp2_with fail
      go_ret2
      exact .inr ⟨H0.out, rfl, hbw⟩
end Go.Proofs.YtfojjecnmfkcfaaGreat
namespace Go.Proofs.YtfojjecnmfkcfaaGreat
open Go.RowKit
set_option linter.unusedVariables false
theorem housesOk_revalue {hs : List (Int × Int × Int)} (ho : housesOk hs) (j : Nat) (v : Int) (h0 : 0 ≤ v) (h1 : v ≤ 1000) : housesOk (revalue hs j v) := by
  refine ⟨by rw [revalue_length]; exact ho.1, fun x hx => ?_⟩
  unfold revalue at hx
  rcases List.mem_or_eq_of_mem_set hx with h | rfl
  · exact ho.2 x h
  · by_cases hj : j < hs.length
    · have := ho.2 hs[j] (List.getElem_mem _)
      simp only [List.getD_eq_getElem?_getD, List.getElem?_eq_getElem hj, Option.getD_some]
      omega
    · simp only [List.getD_eq_getElem?_getD, List.getElem?_eq_none (Nat.le_of_not_lt hj), Option.getD_none]
      omega
theorem keep2' {w0 w1 w2 : World} {b1 o1 b2 o2 : Nat} {v1 v2 : Value} (hB : b1 < w0.heap.size) (hB2 : b2 < w0.heap.size) (h : w1.cell? ⟨b1, o1, none⟩ = some v1 ∧ w1.cell? ⟨b2, o2, none⟩ = some v2 ∧ Below w0.heap.size w0 w1)
    (hb : Below w1.heap.size w1 w2) : w2.cell? ⟨b1, o1, none⟩ = some v1 ∧ w2.cell? ⟨b2, o2, none⟩ = some v2 ∧ Below w0.heap.size w0 w2 := by
  obtain ⟨h1, h2, h5⟩ := h
  exact ⟨(hb.cell (p := ⟨b1, o1, none⟩) (Nat.lt_of_lt_of_le hB h5.size)).trans h1, (hb.cell (p := ⟨b2, o2, none⟩) (Nat.lt_of_lt_of_le hB2 h5.size)).trans h2, h5.trans (hb.mono h5.size)⟩
theorem and3' {a b c : Prop} (h : a ∧ b ∧ c) : c := h.2.2
def AskedYes (B : Nat) (p : Int) (A : Option Addr) (c : Nat) (hs : List (Int × Int × Int)) (W : World) (e : Ending) (w' : World) : Prop :=
  ∃ g, e = .returned (.tuple #[.pointer (some ⟨g, 0, none⟩), .int .i64 0]) ∧ B ≤ g ∧ Desk w' g p A hs.length c (bidPs hs p) ∧ Below W.heap.size W w'
def AskedNo (code : Int) (W : World) (e : Ending) (w' : World) : Prop := e = .returned (.tuple #[.pointer none, .int .i64 code]) ∧ Below W.heap.size W w'
theorem Asked.yes {p : Int} {A : Option Addr} {c : Nat} {hs : List (Int × Int × Int)} {W : World} {e : Ending} {w' : World} {B : Nat} (hB : B ≤ W.heap.size) (h : Asked p A c hs 0 W e w') : AskedYes B p A c hs W e w' := by
  rcases h with ⟨_, g, h1, h2, h3⟩ | ⟨h, _⟩
  · exact ⟨g, h1, Nat.le_trans hB h2, h3⟩
  · exact absurd rfl h
theorem Asked.no {p : Int} {A : Option Addr} {c : Nat} {hs : List (Int × Int × Int)} {code : Int} (hc : code ≠ 0) {W : World} {e : Ending} {w' : World} (h : Asked p A c hs code W e w') : AskedNo code W e w' := by
  rcases h with ⟨h, _⟩ | ⟨_, h⟩
  · exact absurd h hc
  · exact h
def appealCode (p : Int) (hs : List (Int × Int × Int)) (house value : Int) : Int := askCode p hs house (inB value 0 1000)
def appealL (p : Int) (hs : List (Int × Int × Int)) (house value : Int) : List Int := if appealCode p hs house value = 0 then (bidPs (revalue hs house.toNat value) p).take hs.length else []
def appealD (p : Int) (hs : List (Int × Int × Int)) (house value : Int) : Int := if appealCode p hs house value = 0 then (bidPs hs p).getD house.toNat 0 - (bidPs (revalue hs house.toNat value) p).getD house.toNat 0 else 0
theorem askCode_ok {p : Int} {hs : List (Int × Int × Int)} {house : Int} {so : Bool} (h : askCode p hs house so = 0) : ckBill p hs = 0 ∧ 0 ≤ house ∧ house < hs.length ∧ so = true ∧ bidOk hs p = true := by
  unfold askCode at h
  split at h
  · split at h
    · split at h
      · split at h
        · rename_i h1 h2 h3 h4
          have := inB_iff.1 h2
          exact ⟨h1, by omega, by omega, h3, h4⟩
        · omega
      · omega
    · omega
  · rename_i h1; exact absurd h h1
def RetApp (E : TypeId) (xs : List Int) (d code : Int) (W : World) (e : Ending) (w' : World) : Prop :=
  ∃ v, e = .returned (.tuple #[v, .int .i64 d, .int .i64 code]) ∧ w'.ownsRow W.heap.size E 1 v xs.length (ints xs) ∧ Below W.heap.size W w'
def ListAt (E : TypeId) (B : Nat) (xs : List Int) (W : World) (e : Ending) (w' : World) : Prop := ∃ v, e = .returned v ∧ w'.ownsRow B E 1 v xs.length (ints xs) ∧ Below W.heap.size W w'
set_option maxHeartbeats 1000000 in
theorem Appeal_any (A : Option Addr) (c : Nat) (p : Int) (hs : List (Int × Int × Int)) (house value : Int) (w : World) (hr : Rd w w.heap.size A (trips hs)) (hl : hs.length ≤ 1000) :
    Calls Tryz.prog 55 #[.agg #[.int .i64 p, .slice A hs.length c], .int .i64 house, .int .i64 value] w (RetApp 3 (appealL p hs house value) (appealD p hs house value) (appealCode p hs house value) w) := by
  have HA : ∀ w1, Below w.heap.size w w1 → Hid (Calls Tryz.prog 106 #[.agg #[.int .i64 p, .slice A hs.length c], .int .i64 house, .bool (inB value 0 1000)] w1 (Asked p A c hs (appealCode p hs house value) w1)) := fun w1 hb => asked_any A c p hs house (inB value 0 1000) w1 (hr.next hb) hl
  by_cases h0 : appealCode p hs house value = 0
  · obtain ⟨a1, a2, a3, a4, a5⟩ := askCode_ok h0
    have ho := housesOk_of a1
    obtain ⟨p0, p1, _⟩ := ckBill_ok a1
    obtain ⟨v0, v1⟩ := inB_iff.1 a4
    obtain ⟨j, rfl⟩ := Int.eq_ofNat_of_zero_le a2
    have hj : j < hs.length := by omega
    have ho2 := housesOk_revalue ho j value v0 v1
    have hlr := revalue_length hs j value
    have hL : appealL p hs j value = (bidPs (revalue hs j value) p).take hs.length := by unfold appealL; rw [if_pos h0, Int.toNat_natCast]
    have hD : appealD p hs j value = (bidPs hs p).getD j 0 - (bidPs (revalue hs j value) p).getD j 0 := by unfold appealD; rw [if_pos h0, Int.toNat_natCast]
    have q1 := paysOk_pour ho (p - (leastsK hs hs.length).sum).toNat _ (paysOk_leasts ho hs.length)
    have q2 := paysOk_pour ho2 (p - (leastsK (revalue hs j value) (revalue hs j value).length).sum).toNat _ (paysOk_leasts ho2 (revalue hs j value).length)
    have q1' : paysOk hs (bidPs hs p) := q1
    have q2' : paysOk (revalue hs j value) (bidPs (revalue hs j value) p) := q2
    have z1 := q1'.2 j
    have z2 := q2'.2 j
    have hj6 : j < 6 := by have := ho.1; omega
    have hL2 : (appealL p hs j value).length = hs.length := by rw [hL, List.length_take, q2'.1]; have := ho.1; omega
    have HL : Hid (∀ w3 w', RetOwn 3 1 (revalue hs j value).length (ints ((bidPs (revalue hs j value) p).take (revalue hs j value).length)) w3 (.returned w') w → True) := fun _ _ _ => trivial
    rw [h0] at HA ⊢
    have HA2 : ∀ w1, Below w.heap.size w w1 → Hid (Calls Tryz.prog 106 #[.agg #[.int .i64 p, .slice A hs.length c], .int .i64 j, .bool (inB value 0 1000)] w1 (AskedYes w.heap.size p A c hs w1)) := fun w1 hb => (HA w1 hb).out.mono fun _ _ h => h.yes hb.size
    rw [a4] at HA2
    clear HA
    rw [hD]
    have e1 : (bidPs hs p).getD j 0 = (bidPs hs p)[j]'(by rw [q1'.1]; exact hj6) := by simp [List.getD_eq_getElem?_getD, List.getElem?_eq_getElem (show j < (bidPs hs p).length by rw [q1'.1]; exact hj6)]
    have e2 : (bidPs (revalue hs j value) p).getD j 0 = (bidPs (revalue hs j value) p)[j]'(by rw [q2'.1]; exact hj6) := by simp [List.getD_eq_getElem?_getD, List.getElem?_eq_getElem (show j < (bidPs (revalue hs j value) p).length by rw [q2'.1]; exact hj6)]
    rw [e1] at z1 ⊢
    rw [e2] at z2 ⊢
    obtain ⟨z1, z1'⟩ := z1
    obtain ⟨z2, z2'⟩ := z2
    have Hlr := Lib.hid hlr
    have HL1 := Lib.hid hL
    have HL2 := Lib.hid hL2
    have Ha4 := Lib.hid a4
    clear h0 hL hD hL2 e1 e2 q1 q2 hlr HL a1 a4 a5
    have hj0 : (0 : Int) ≤ (j : Int) := by omega
    have hj7 : (j : Int) < 6 := by omega
    go_enter Tryz.func55, Tryz.ntmps55
    go_wp2_with fail
    have hin : ∀ W : World, Hid (Calls Tryz.prog 62 #[.int .i64 value, .int .i64 0, .int .i64 1000] W fun e w' => e = .returned (.bool true) ∧ W = w') := fun W => by
      have := in_any value 0 1000 W
      rwa [Ha4.out] at this
    obtain ⟨W1, hW1⟩ : ∃ W1, W1 = w.alloc (.cells #[.int .i64 p, .slice A hs.length c] 27) := ⟨_, rfl⟩
    rw [← hW1]
    have k1 : W1.cell? ⟨w.heap.size, 0, none⟩ = some (.int .i64 p) := by rw [hW1]; simp
    have k2 : W1.cell? ⟨w.heap.size, 1, none⟩ = some (.slice A hs.length c) := by rw [hW1]; simp
    have k3 : Below w.heap.size w W1 := by rw [hW1]; go_grown
    have k4 : w.heap.size < W1.heap.size := by rw [hW1]; simp
    clear hW1
    go_region_held3 (fun w' => w'.cell? ⟨w.heap.size, 0, none⟩ = some (.int .i64 p) ∧ w'.cell? ⟨w.heap.size, 1, none⟩ = some (.slice A hs.length c) ∧ Below W1.heap.size W1 w') (first | exact ⟨k1, k2, (Below.refl _ _).drew⟩ | exact keep2' k4 k4 (by assumption) (by assumption) | assumption | trivial)
      (first | (go_at_call 62; refine (hin _).out.mono ?_; rintro e w' ⟨rfl, rfl⟩) | (go_at_call 106; refine ((HA2 _ (k3.trans (Below.mono (and3' (by assumption)) k3.size))).out).mono ?_; rintro e w' ⟨g, rfl, hg, hd, hb1⟩))
    have hbw : Below w.heap.size w _ := k3.trans (Below.mono (and3' (by assumption)) k3.size)
    have hcc : World.cell? _ ⟨w.heap.size, 0, none⟩ = some (.int .i64 p) := And.left (by assumption)
    go_wp2_with fail
    refine (with_any g p A c hs _ j value _ hd (hr.next hbw) ho.1 hj).mono ?_
    rintro e w3 ⟨g2, A2, rfl, hg2, hd2, hr2, hb3⟩
    have hbw3 := hbw.trans (hb3.mono hbw.size)
    have hds := hd.below hb3
    have hsz3 := hbw.size
    go_wp2_with fail
    refine (bid_any g2 p A2 _ (revalue hs j value) w3 hd2 hr2 ho2 p0 p1).mono ?_
    rintro e w4 ⟨rfl, hd4, hg4⟩
    have hbw4 : Below w.heap.size w w4 := hbw3.grown hg4 hbw3.size (fun k hk => by injection hk with hk; omega)
    have hgg : g < g2 := by have := hd.lt; omega
    have hds4 : Desk w4 g p A hs.length c (bidPs hs p) := hds.of_cells (Nat.lt_of_lt_of_le hds.lt hg4.size) (hg4.block g hds.lt (by intro e; injection e; omega))
    have hc1 := hds4.at_ hj6
    have hc2 := hd4.at_ hj6
    have hl1 := hds4.lt
    have hl2 := hd4.lt
    have HLst : ∀ w5, Below w4.heap.size w4 w5 → Hid (Calls Tryz.prog 61 #[.pointer (some ⟨g2, 0, none⟩)] w5 (ListAt 3 w.heap.size (appealL p hs j value) w5)) := by
      intro w5 hb
      refine (list_any g2 p A2 (revalue hs j value).length _ _ w5 (hd4.below hb) ho2.1).mono ?_
      rintro e w6 ⟨v, rfl, ho, hb6⟩
      refine ⟨v, rfl, ?_, hb6⟩
      rw [HL2.out, HL1.out]
      rw [Hlr.out] at ho
      exact ho.base_ (Nat.le_trans hbw4.size hb.size)
    go_wp2_with fail
    have e3 : IntKind.i64.wrap ((bidPs hs p)[j]'(by rw [q1'.1]; exact hj6) - (bidPs (revalue hs j value) p)[j]'(by rw [q2'.1]; exact hj6)) = (bidPs hs p)[j]'(by rw [q1'.1]; exact hj6) - (bidPs (revalue hs j value) p)[j]'(by rw [q2'.1]; exact hj6) := IntWalk.i64_in _ (by omega)
    go_region_held3 (fun w' => w'.cell? ⟨g, 2 + j, none⟩ = some (.int .i64 ((bidPs hs p)[j]'(by rw [q1'.1]; exact hj6))) ∧ w'.cell? ⟨g2, 2 + j, none⟩ = some (.int .i64 ((bidPs (revalue hs j value) p)[j]'(by rw [q2'.1]; exact hj6))) ∧ Below w4.heap.size w4 w') (first | exact ⟨hc1, hc2, (Below.refl _ _).drew⟩ | exact keep2' hl1 hl2 (by assumption) (by assumption) | assumption | trivial)
      (first | (go_at_call 61; refine ((HLst _ (and3' (by assumption))).out).mono ?_; rintro e w' ⟨v, rfl, hown, hb5⟩))
    have HO := Lib.hid hown
    have hbw5 : Below w4.heap.size w4 _ := and3' (by assumption)
    clear hown e3
    go_wp2_with fail
    go_ret3
    exact ⟨v, rfl, HO.out, hbw4.trans (hbw5.mono hbw4.size)⟩
  · have hL : appealL p hs house value = [] := by unfold appealL; rw [if_neg h0]
    have hD : appealD p hs house value = 0 := by unfold appealD; rw [if_neg h0]
    have h0' : (appealCode p hs house value == 0) = false := by simpa using h0
    have h0'' : (appealCode p hs house value != 0) = true := by simpa using h0
    have HA2 : ∀ w1, Below w.heap.size w w1 → Hid (Calls Tryz.prog 106 #[.agg #[.int .i64 p, .slice A hs.length c], .int .i64 house, .bool (inB value 0 1000)] w1 (AskedNo (appealCode p hs house value) w1)) := fun w1 hb => (HA w1 hb).out.mono fun _ _ h => h.no h0
    rw [hL, hD]
    clear HA h0 hL hD
    go_enter Tryz.func55, Tryz.ntmps55
    go_wp2_with fail
    obtain ⟨W1, hW1⟩ : ∃ W1, W1 = w.alloc (.cells #[.int .i64 p, .slice A hs.length c] 27) := ⟨_, rfl⟩
    rw [← hW1]
    have k1 : W1.cell? ⟨w.heap.size, 0, none⟩ = some (.int .i64 p) := by rw [hW1]; simp
    have k2 : W1.cell? ⟨w.heap.size, 1, none⟩ = some (.slice A hs.length c) := by rw [hW1]; simp
    have k3 : Below w.heap.size w W1 := by rw [hW1]; go_grown
    have k4 : w.heap.size < W1.heap.size := by rw [hW1]; simp
    clear hW1
    go_region_held3 (fun w' => w'.cell? ⟨w.heap.size, 0, none⟩ = some (.int .i64 p) ∧ w'.cell? ⟨w.heap.size, 1, none⟩ = some (.slice A hs.length c) ∧ Below W1.heap.size W1 w') (first | exact ⟨k1, k2, (Below.refl _ _).drew⟩ | exact keep2' k4 k4 (by assumption) (by assumption) | assumption | trivial)
      (first | (go_at_call 62; refine (in_any _ _ _ _).mono ?_; rintro e w' ⟨rfl, rfl⟩) | (go_at_call 106; refine ((HA2 _ (k3.trans (Below.mono (and3' (by assumption)) k3.size))).out).mono ?_; rintro e w' ⟨rfl, hb1⟩))
    have hbw : Below w.heap.size w _ := k3.trans (Below.mono (and3' (by assumption)) k3.size)
    go_wp2_with fail
    go_ret3
    exact ⟨_, rfl, World.ownsRow_nil _ _ _ _, hbw⟩
end Go.Proofs.YtfojjecnmfkcfaaGreat
