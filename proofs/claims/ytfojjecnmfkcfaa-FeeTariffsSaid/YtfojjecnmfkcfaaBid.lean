/- bid: pours pennies until the bill is paid, on a desk with at most six houses that are right. -/
import Derived.Test.YtfojjecnmfkcfaaPennies
import Derived.Shelf.Abstract
import Derived.Test.YtfojjecnmfkcfaaRound
namespace Go.Proofs.Ytfojjecnmfkcfaa
open Go.RowKit
set_option linter.unusedVariables false
attribute [local go_sem] Oper.semAt_some
attribute [local simp, local go_sem] wide_fn wide_fn' wide_depth
def leastsK (hs : List (Int × Int × Int)) (k : Nat) : List Int := (List.range 6).map fun i => if i < k then (hs.getD i (0, 0, 0)).2.1 else 0
theorem leastsK_len (hs : List (Int × Int × Int)) (k : Nat) : (leastsK hs k).length = 6 := by simp [leastsK]
theorem leastsK_get (hs : List (Int × Int × Int)) (k i : Nat) : (leastsK hs k).getD i 0 = if i < 6 ∧ i < k then (hs.getD i (0, 0, 0)).2.1 else 0 := by
  unfold leastsK
  rw [List.getD_eq_getElem?_getD, List.getElem?_map]
  by_cases h : i < 6
  · rw [List.getElem?_range h]; simp [h]
  · rw [List.getElem?_eq_none (by simp; omega)]; simp [h]
theorem leastsK_set (hs : List (Int × Int × Int)) (k : Nat) (h : k < hs.length) (h6 : k < 6) : (leastsK hs k).set k hs[k].2.1 = leastsK hs (k + 1) := by
  apply List.ext_getElem?
  intro i
  rw [List.getElem?_set]
  unfold leastsK
  rw [List.getElem?_map, List.getElem?_map]
  by_cases e : k = i
  · subst e
    rw [if_pos rfl, if_pos (by simp; omega), List.getElem?_range h6]
    simp [List.getD_eq_getElem?_getD, List.getElem?_eq_getElem h]
  · rw [if_neg e]
    by_cases h2 : i < 6
    · rw [List.getElem?_range h2]
      have : (i < k) = (i < k + 1) := by rw [eq_iff_iff]; omega
      simp [this]
    · rw [List.getElem?_eq_none (by simp; omega)]; simp
theorem leastsK_zero (hs : List (Int × Int × Int)) : leastsK hs 0 = [0, 0, 0, 0, 0, 0] := by simp [leastsK, List.range, List.range.loop]
def bidPs (hs : List (Int × Int × Int)) (p : Int) : List Int := pour hs (p - (leastsK hs hs.length).sum).toNat (leastsK hs hs.length)
def bidOk (hs : List (Int × Int × Int)) (p : Int) : Bool := (bidPs hs p).sum == p
theorem paysOk_leasts {hs : List (Int × Int × Int)} (ho : housesOk hs) (k : Nat) : paysOk hs (leastsK hs k) := by
  refine ⟨leastsK_len hs k, fun i => ?_⟩
  rw [leastsK_get]
  split
  · by_cases h : i < hs.length
    · rw [List.getD_eq_getElem?_getD, List.getElem?_eq_getElem h, Option.getD_some]
      have := ho.2 hs[i] (List.getElem_mem _)
      omega
    · rw [List.getD_eq_getElem?_getD, List.getElem?_eq_none (by omega)]; simp
  · omega
theorem paysOk_pour {hs : List (Int × Int × Int)} (ho : housesOk hs) : ∀ (n : Nat) (ps : List Int), paysOk hs ps → paysOk hs (pour hs n ps) := by
  intro n
  induction n with
  | zero => intro ps h; exact h
  | succ n ih =>
    intro ps h
    simp only [pour]
    split
    · exact h
    · rename_i hb
      rcases bestK_cases hs ps hs.length with h1 | ⟨j, hj, h1⟩
      · exact absurd h1 hb
      · rw [h1, Int.toNat_natCast]
        exact ih _ (paysOk_bump ho h hj (bestK_can hs ps _ j h1))
theorem sum6_any {w : World} {g : Nat} {p : Int} {A : Option Addr} {n c : Nat} {hs : List (Int × Int × Int)} {ps : List Int} (hd : Desk w g p A n c ps) (hp : paysOk hs ps) :
    Calls Try.prog 112 #[.slice (some ⟨g, 2, none⟩) 6 6] w fun e w' => e = .returned (.int .i64 ps.sum) ∧ w' = w := by
  have hr : Rd w w.heap.size (some ⟨g, 2, none⟩) (ints ps) := fun _ => ⟨g, 2, rfl, hd.lt, fun j u hu => by
    simp only [ints, List.getElem?_map, Option.map_eq_some_iff] at hu
    obtain ⟨a, ha, rfl⟩ := hu
    exact hd.pays j a ha⟩
  have h := sum_any (some ⟨g, 2, none⟩) 6 ps w hr (by rw [hd.len]; omega) (fun z hz => by have := paysOk_mem hp z hz; omega)
  rw [hd.len] at h
  exact h.mono fun e w' ⟨a, b⟩ => ⟨a, b.symm⟩
theorem sum_paysOk {hs : List (Int × Int × Int)} {ps : List Int} (h : paysOk hs ps) : 0 ≤ ps.sum ∧ ps.sum ≤ 3600 := by
  have h1 := sum_le 600 ps (fun z hz => by have := paysOk_mem h z hz; omega)
  have h2 : 0 ≤ ps.sum := by
    have : ∀ l : List Int, (∀ x ∈ l, 0 ≤ x) → 0 ≤ l.sum := by
      intro l
      induction l with
      | nil => intro _; simp
      | cons a l ih => intro hh; have := ih (fun x hx => hh x (List.mem_cons_of_mem _ hx)); have := hh a List.mem_cons_self; simp; omega
    exact this ps fun x hx => (paysOk_mem h x hx).1
  rw [h.1] at h1
  omega
theorem only_drewN {a w : World} {row : Option Nat} (h : a.grownBy w row) (n : Nat) : a.grownBy (w.drewN n) row := ⟨h.os, h.tape, h.output, h.size, h.block⟩
theorem only_allocg {a w : World} {row : Option Nat} (h : a.grownBy w row) (o : Obj) : a.grownBy (w.alloc o) row := grown_below h (below_new w o)
theorem only_setg {a w : World} {g : Nat} (h : a.grownBy w (some g)) (o : Nat) (u : Value) : a.grownBy (w.setCell ⟨g, o, none⟩ u) (some g) :=
  ⟨h.os, h.tape, h.output, by simpa [World.setCell] using h.size, fun k hk hn => (Below.heap_setCell w ⟨g, o, none⟩ u k (fun e => hn (by rw [e]))).trans (h.block k hk hn)⟩
/-- 'bid' has gone through its first loop. -/
def BidPost (g : Nat) (p : Int) (A : Option Addr) (c : Nat) (hs : List (Int × Int × Int)) (w : World) (e : Ending) (w' : World) : Prop :=
  e = .returned (.bool (bidOk hs p)) ∧ Desk w' g p A hs.length c (bidPs hs p) ∧ w.grownBy w' (some g)
theorem pennies_any (g : Nat) (w : World) : Calls Try.prog 140 #[.pointer (some ⟨g, 0, none⟩)] w fun e w' => e = .returned (.func (.func 153) #[] #[.pointer (some ⟨w.heap.size, 0, none⟩)]) ∧ w.alloc (.cells #[.pointer (some ⟨g, 0, none⟩)] 144) = w' := by
  go_enter Try.func140, Try.ntmps140
  go_wp2_with fail
  go_ret
  exact ⟨rfl, rfl⟩
set_option maxHeartbeats 1000000 in
theorem bid_any (g : Nat) (p : Int) (A : Option Addr) (c : Nat) (hs : List (Int × Int × Int)) (w : World) (hd : Desk w g p A hs.length c [0, 0, 0, 0, 0, 0]) (hr : Rd w g A (trips hs)) (ho : housesOk hs) (hp0 : 0 ≤ p) (hp : p ≤ 500) :
    Calls Try.prog 97 #[.pointer (some ⟨g, 0, none⟩)] w (BidPost g p A c hs w) := by
  have hl := ho.1
  refine callsIn_wide.1 (callsIn_of_wp_marks (F := Fence.wide) (n := 4) Try.func97 rfl trivial ?_)
  refine wpIn_wide.2 ?_
  simp only [Try.ntmps97, List.size_toArray, List.length_cons, List.length_nil, Nat.reduceAdd, Nat.reduceSub, Array.replicate_succ, Array.replicate_zero, List.push_toArray, List.append_toArray, List.nil_append, List.cons_append]
  have hh := hd.houses
  have hgl := hd.lt
  rw [← leastsK_zero hs] at hd
  have hne : w.heap.size ≠ g := by omega
  go_wp2_with fail
  go_loopw [3, 4, 11] (fun _ _ i wr => ∃ k : Nat, k ≤ hs.length ∧ i = .int .i64 k ∧ Desk wr g p A hs.length c (leastsK hs k) ∧ wr.cell? ⟨w.heap.size, 0, none⟩ = some (.pointer (some ⟨g, 0, none⟩)) ∧ w.heap.size < wr.heap.size ∧ w.grownBy wr (some g)) (fun _ _ i _ => hs.length - (intOf i).toNat)
  case atStart => exact ⟨0, by omega, rfl, hd.alloc _, by simp, by simp, World.grownBy_alloc _ _ _⟩
  case round =>
    obtain ⟨k, hk, rfl, hdk, hbx, hbs, hgr⟩ := hrel
    have hrw := hr.grown hgr (Nat.le_refl _) (Nat.le_of_lt hgl)
    by_cases hlt : k < hs.length
    · obtain ⟨b, off, rfl, hbb, hc1, hc2, hc3⟩ := hrw.trip hlt
      have hbg : b < wr.heap.size := by have := hdk.lt; omega
      have hpk := hdk.at_ (i := k) (by omega)
      have hfz := hdk.free (2 + k)
      have hgw := hdk.lt
      have hk6 : (k : Int) < 6 := by omega
      have hS := leastsK_set hs k hlt (by omega)
      have HS := Lib.hid hS
      clear hS
      go_wp2_with fail
      go_region
      all_goals go_wp2_with fail
      go_roundw
      case rel =>
        refine ⟨k + 1, by omega, by go_num, ?_, ?_, ?_, ?_⟩
        · have h := hdk.bump (j := k) (by omega) hs[k].2.1
          rw [HS.out] at h
          exact (h.alloc _).drewN 1
        · refine (World.cell?_alloc_lt _ _ ⟨w.heap.size, 0, none⟩ (by simpa [World.setCell] using hbs)).trans ?_
          rw [World.cell?_setCell_other _ _ _ _ (by intro e; injection e with e1 _; exact hne e1.symm)]
          exact hbx
        · simp [World.setCell]; omega
        · exact only_drewN (only_allocg (only_setg hgr _ _) _) 1
      case measure => simp [intOf]; omega
    · have hkk : k = hs.length := by omega
      subst hkk
      have hpo := paysOk_leasts ho hs.length
      have hsb := sum_paysOk hpo
      have hpe := hdk.pence
      have hgw := hdk.lt
      have HSum : ∀ n, Hid (Calls Try.prog 112 #[.slice (some ⟨g, 2, none⟩) 6 6] (wr.drewN n) fun e w' => e = .returned (.int .i64 (leastsK hs hs.length).sum) ∧ w' = wr.drewN n) := fun n => sum6_any (hs := hs) (hdk.drewN n) hpo
      by_cases hlt2 : (leastsK hs hs.length).sum < p
      · go_wp2_with fail
        go_quiet ((go_at_call 112; exact Calls.quiet_of_same (HSum _).out))
        go_wp2_with fail
        refine (pennies_any _ _).mono ?_
        rintro e w1 ⟨rfl, rfl⟩
        go_wp2_with fail
        obtain ⟨W0, hW0⟩ : ∃ W0, W0 = (wr.drewN nq).alloc (.cells #[.pointer (some ⟨g, 0, none⟩)] 144) := ⟨_, rfl⟩
        rw [← hW0]
        have kfr : w.grownBy W0 (some g) := by rw [hW0]; exact only_allocg (only_drewN hgr _) _
        have kdk : Desk W0 g p A hs.length c (leastsK hs hs.length) := by rw [hW0]; exact (hdk.drewN _).alloc _
        have kbx : W0.cell? ⟨wr.heap.size, 0, none⟩ = some (.pointer (some ⟨g, 0, none⟩)) := by rw [hW0]; show ((wr.drewN nq).alloc _).cell? ⟨(wr.drewN nq).heap.size, 0, none⟩ = _; rw [World.cell?_alloc_new]; rfl
        have kbx2 : W0.cell? ⟨w.heap.size, 0, none⟩ = some (.pointer (some ⟨g, 0, none⟩)) := by rw [hW0]; exact (World.cell?_alloc_lt _ _ ⟨w.heap.size, 0, none⟩ hbs).trans hbx
        have ksz : W0.heap.size = wr.heap.size + 1 := by rw [hW0]; simp
        have Ksz := Lib.hid ksz
        have ksz1 : wr.heap.size < W0.heap.size := by omega
        have krd : Rd W0 g A (trips hs) := hr.grown kfr (Nat.le_refl _) (Nat.le_of_lt hgl)
        clear hW0 HSum ksz
        refine wp_range 4 rfl (Go.Proofs.enters_of Try.func153 (by kernel_rfl) rfl) ?_
        intro fn rec hrec
        have Hrec := Lib.hid hrec
        clear hrec
        refine (pennies1_any W0 3 g (W0.heap.size + 1) W0.heap.size wr.heap.size rec p A c hs ho krd (by omega) (by omega) (by omega) kbx (by omega) (by omega) ?_ _ (leastsK hs hs.length) ?_ hpo hlt2 hp).mono ?_
        · intro h ps W hbd hps
          have hrec := Hrec.out
          have hB0 := hbd.put (by omega) (by omega) (by omega) .busy none
          have hsum := sum_paysOk hps
          have hpeb := hB0.desk.pence
          have hbxb : (W.putObj (W0.heap.size + 1) (.loop (rec .busy none))).cell? ⟨w.heap.size, 0, none⟩ = some (.pointer (some ⟨g, 0, none⟩)) :=
            (World.cell?_of_block (a := ⟨w.heap.size, 0, none⟩) (hB0.fr.block w.heap.size (by omega) (by intro e; injection e with e; omega))).trans kbx2
          have hgwb := hB0.desk.lt
          have HB0 := Lib.hid hB0
          clear hB0
          subst hrec
          refine yield_round hbd.loop rfl ?_
          have HSum2 : ∀ n, Hid (Calls Try.prog 112 #[.slice (some ⟨g, 2, none⟩) 6 6] ((W.putObj (W0.heap.size + 1) (.loop (recOf fn _ _ .skip _ _ .busy none))).drewN n) fun e w' => e = .returned (.int .i64 ps.sum) ∧ w' = (W.putObj (W0.heap.size + 1) (.loop (recOf fn _ _ .skip _ _ .busy none))).drewN n) := fun n => sum6_any (hs := hs) (HB0.out.desk.drewN n) hps
          generalize hWb : W.putObj (W0.heap.size + 1) _ = Wb at *
          clear hWb
          by_cases hq : ps.sum = p
          · have hq1 : (ps.sum == p) = true := by simpa using hq
            have Hq := Lib.hid hq
            clear hq
            gi_wp2
            refine round_region ?_ (by kernel_rfl) (by kernel_rfl) ?_
            · intro o ho c
              simp at ho
              rcases ho with rfl | rfl | rfl | rfl | rfl | rfl | rfl | rfl | rfl | rfl | rfl <;> simp
            repeat (gi_big_quiet_step ((gi_at_call 112; exact CallsIn.quiet_round (HSum2 _).out)))
            refine wpQuietIn_nil ?_
            rintro w' ⟨nq2, rfl⟩
            gi_wp2
            refine ⟨_, _, run_endRound (some (.exit 2)) HB0.out.loop, .inr ⟨Hq.out, rfl, ?_⟩⟩
            exact (HB0.out.below (below_drewN (Below.refl _ _) nq2)).put (by omega) (by omega) (by omega) .done (some (.exit 2))
          · have hq1 : (ps.sum == p) = false := by simpa using hq
            have Hq := Lib.hid hq
            clear hq
            gi_wp2
            refine round_region ?_ (by kernel_rfl) (by kernel_rfl) ?_
            · intro o ho c
              simp at ho
              rcases ho with rfl | rfl | rfl | rfl | rfl | rfl | rfl | rfl | rfl | rfl | rfl <;> simp
            repeat (gi_big_quiet_step ((gi_at_call 112; exact CallsIn.quiet_round (HSum2 _).out)))
            refine wpQuietIn_nil ?_
            rintro w' ⟨nq2, rfl⟩
            gi_wp2
            refine ⟨_, _, run_endRound none HB0.out.loop, .inl ⟨Hq.out, rfl, ?_⟩⟩
            exact (HB0.out.below (below_drewN (Below.refl _ _) nq2)).put (by omega) (by omega) (by omega) .ready none
        · have hl1 : ((W0.alloc (.deferred (some []))).alloc (.loop (rec .ready none))).heap[W0.heap.size + 1]? = some (.loop (rec .ready none)) := by
            have := World.alloc_heap_new (W0.alloc (.deferred (some []))) (.loop (rec .ready none)); rwa [World.size_alloc] at this
          exact ⟨only_allocg (only_allocg (World.grownBy.refl _ _) _) _, (kdk.alloc _).alloc _, hl1, (Below.heap_alloc _ _ _ (by simp)).trans (World.alloc_heap_new W0 _)⟩
        · rintro e W2 ⟨hv, st, pe, hbd, hcase⟩
          refine ⟨hv, st, pe, ?_, hbd.loop, ?_⟩
          · rcases hcase with ⟨rfl, _⟩ | ⟨rfl, _⟩ <;> simp
          · have hB3 := hbd.put (by omega) (by omega) (by omega) .exhausted pe
            have HB3 := Lib.hid hB3
            clear hB3 hbd
            have hbp : bidPs hs p = pour hs (p - (leastsK hs hs.length).sum).toNat (leastsK hs hs.length) := rfl
            rw [← hbp] at HB3
            clear hbp
            have hpo3 := paysOk_pour ho (p - (leastsK hs hs.length).sum).toNat _ hpo
            have hpo4 : paysOk hs (bidPs hs p) := hpo3
            clear hpo3
            have hsb3 := sum_paysOk hpo4
            obtain ⟨W3, hW3⟩ : ∃ W3, W3 = W2.putObj (W0.heap.size + 1) (.loop (rec .exhausted pe)) := ⟨_, rfl⟩
            rw [← hW3] at HB3
            have HSum3 : ∀ n, Hid (Calls Try.prog 112 #[.slice (some ⟨g, 2, none⟩) 6 6] (W3.drewN n) fun e w' => e = .returned (.int .i64 (bidPs hs p).sum) ∧ w' = W3.drewN n) := fun n => sum6_any (hs := hs) (HB3.out.desk.drewN n) hpo4
            have hpe3 := HB3.out.desk.pence
            have hbx3 : W3.cell? ⟨w.heap.size, 0, none⟩ = some (.pointer (some ⟨g, 0, none⟩)) :=
              (World.cell?_of_block (a := ⟨w.heap.size, 0, none⟩) (HB3.out.fr.block w.heap.size (by omega) (by intro e; injection e with e; omega))).trans kbx2
            have hgw3 := HB3.out.desk.lt
            have Hfin : ∀ n, Hid (BidPost g p A c hs w (.returned (.bool ((bidPs hs p).sum == p))) ((W3.drewN n).putObj W0.heap.size (.deferred none))) := by
              intro n
              have hz := (Array.getElem?_eq_some_iff.1 HB3.out.coll).1
              refine ⟨rfl, HB3.out.desk.of_cells (by rw [putObj_size]; exact HB3.out.desk.lt) (World.putObj_heap_other (by omega)), ?_⟩
              refine ⟨HB3.out.fr.os.trans kfr.os, HB3.out.fr.tape.trans kfr.tape, HB3.out.fr.output.trans kfr.output, by rw [putObj_size]; exact Nat.le_trans kfr.size HB3.out.fr.size, fun k hk hn => ?_⟩
              have e0 := kfr.size
              exact (World.putObj_heap_other (w := W3.drewN n) (by omega)).trans ((HB3.out.fr.block k (by omega) hn).trans (kfr.block k hk hn))
            have HK3 : ∀ n, Hid ((W3.drewN n).heap[W0.heap.size]? = some (.deferred (some []))) := fun n => HB3.out.coll
            have hpos : 0 < w.heap.size ∨ w.heap.size = 0 := by omega
            rcases hcase with ⟨rfl, rfl⟩ | ⟨rfl, rfl⟩
            · rw [← hW3]
              clear hW3
              go_wp2_with fail
              go_quiet ((go_at_call 112; exact Calls.quiet_of_same (HSum3 _).out))
              go_wp2_with fail
              refine ⟨by simp, .inl ⟨_, _, rfl, run_takeDeferred (HK3 _).out, ?_⟩⟩
              refine ⟨_, results_tmp rfl _ _ _, ?_⟩
              exact (Hfin nq).out
            · refine wpIn_exit ?_
              rw [← hW3]
              clear hW3
              go_wp2_with fail
              go_quiet ((go_at_call 112; exact Calls.quiet_of_same (HSum3 _).out))
              go_wp2_with fail
              refine ⟨by simp, .inl ⟨_, _, rfl, run_takeDeferred (HK3 _).out, ?_⟩⟩
              refine ⟨_, results_tmp rfl _ _ _, ?_⟩
              exact (Hfin nq).out
      · have hnone : (p - (leastsK hs hs.length).sum).toNat = 0 := by omega
        have hbp : bidPs hs p = leastsK hs hs.length := by unfold bidPs; rw [hnone]; rfl
        have Hbp := Lib.hid hbp
        clear hnone hbp
        go_wp2_with fail
        go_quiet ((go_at_call 112; exact Calls.quiet_of_same (HSum _).out))
        go_wp2_with fail
        have HSum4 : ∀ n, Hid (Calls Try.prog 112 #[.slice (some ⟨g, 2, none⟩) 6 6] ((wr.drewN nq).drewN n) fun e w' => e = .returned (.int .i64 (leastsK hs hs.length).sum) ∧ w' = (wr.drewN nq).drewN n) := fun n => sum6_any (hs := hs) ((hdk.drewN nq).drewN n) hpo
        obtain ⟨W4, hW4⟩ : ∃ W4, W4 = wr.drewN nq := ⟨_, rfl⟩
        have hd4 : Desk W4 g p A hs.length c (leastsK hs hs.length) := by rw [hW4]; exact hdk.drewN nq
        have hf4 : w.grownBy W4 (some g) := by rw [hW4]; exact only_drewN hgr nq
        have hbx4 : W4.cell? ⟨w.heap.size, 0, none⟩ = some (.pointer (some ⟨g, 0, none⟩)) := by rw [hW4]; exact hbx
        have hpe4 := hd4.pence
        have hgw4 := hd4.lt
        rw [← hW4] at HSum4 ⊢
        clear hW4 HSum
        go_quiet ((go_at_call 112; exact Calls.quiet_of_same (HSum4 _).out))
        go_wp2_with fail
        refine ⟨_, results_tmp rfl _ _ _, ?_⟩
        exact ⟨by unfold bidOk; rw [Hbp.out]; rfl, by rw [Hbp.out]; exact hd4.drewN _, only_drewN hf4 _⟩
end Go.Proofs.Ytfojjecnmfkcfaa
