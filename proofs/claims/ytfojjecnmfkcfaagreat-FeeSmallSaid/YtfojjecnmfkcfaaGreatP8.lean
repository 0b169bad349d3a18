/- Accounts: sums up to a day, rising days, the error of an account, and of a day. The error of shares; 'copy' of shares onto a desk. Which houses outbid which ones. -/
import Derived.Test.YtfojjecnmfkcfaaGreatP4
import Derived.Test.YtfojjecnmfkcfaaGreatP1
import Derived.Test.YtfojjecnmfkcfaaGreatP6
import Derived.Test.YtfojjecnmfkcfaaGreatP7
import Derived.Test.YtfojjecnmfkcfaaGreatP3
namespace Go.Proofs.YtfojjecnmfkcfaaGreat
open Go.RowKit
set_option linter.unusedVariables false
def uptoF (l : List (Int × Int)) (d : Int) : Int := ((l.filter fun e => decide (e.1 ≤ d)).map (·.2)).sum
theorem uptoF_succ (l : List (Int × Int)) (d : Int) (k : Nat) (h : k < l.length) : uptoF (l.take (k + 1)) d = uptoF (l.take k) d + (if l[k].1 ≤ d then l[k].2 else 0) := by
  unfold uptoF
  rw [List.take_succ_eq_append_getElem h, List.filter_append, List.map_append, List.sum_append]
  by_cases hd : l[k].1 ≤ d <;> simp [hd]
theorem uptoF_bd {l : List (Int × Int)} (hp : ∀ e ∈ l, 0 ≤ e.2 ∧ e.2 ≤ 10000) (d : Int) : 0 ≤ uptoF l d ∧ uptoF l d ≤ 10000 * l.length := by
  unfold uptoF
  induction l with
  | nil => simp
  | cons a l ih =>
    have h1 := ih (fun e he => hp e (List.mem_cons_of_mem _ he))
    have h2 := hp a List.mem_cons_self
    by_cases hd : a.1 ≤ d
    · rw [List.filter_cons_of_pos (by simpa using hd)]
      simp only [List.map_cons, List.sum_cons, List.length_cons]
      omega
    · rw [List.filter_cons_of_neg (by simpa using hd)]
      simp only [List.length_cons]
      omega
set_option maxHeartbeats 400000 in
theorem upto_any (A : Option Addr) (c : Nat) (l : List (Int × Int)) (d : Int) (w : World) (hr : Rd w w.heap.size A (pairs l)) (hl : l.length ≤ 100) (hp : ∀ e ∈ l, 0 ≤ e.2 ∧ e.2 ≤ 10000) :
    Calls Tryz.prog 122 #[.slice A l.length c, .int .i64 d] w fun e w' => e = .returned (.int .i64 (uptoF l d)) ∧ Below w.heap.size w w' := by
  have hbd : ∀ k, 0 ≤ uptoF (l.take k) d ∧ uptoF (l.take k) d ≤ 1000000 := fun k => by
    have := uptoF_bd (l := l.take k) (fun e he => hp e (List.mem_of_mem_take he)) d
    rw [List.length_take] at this
    omega
  go_enter Tryz.func122, Tryz.ntmps122
  go_wp2_with fail
  go_loopw [5, 7, 10] (fun o _ i wr => ∃ k : Nat, k ≤ l.length ∧ i = .int .i64 k ∧ o = .int .i64 (uptoF (l.take k) d) ∧ Below w.heap.size w wr) (fun _ _ i _ => l.length - (intOf i).toNat)
  case atStart => exact ⟨0, by omega, rfl, by simp [uptoF], Below.refl _ _⟩
  case round =>
    obtain ⟨k, hk, rfl, rfl, hbw⟩ := hrel
    by_cases hlt : k < l.length
    · obtain ⟨b, off, rfl, hbb, hc1, hc2⟩ := (hr.below hbw).pair hlt
      have hbs := hbw.size
      obtain ⟨u1, u2⟩ := hp l[k] (List.getElem_mem _)
      obtain ⟨v1, v2⟩ := hbd k
      have hS := uptoF_succ l d k hlt
      by_cases hd : l[k].1 ≤ d
      · rw [if_pos hd] at hS
        have HS := Lib.hid hS
        clear hS hbd
        go_wp2_with fail
        refine (sum2_any (by simp) _ _ (by omega) (by omega) (by omega) (by omega)).mono ?_
        rintro e w1 ⟨rfl, rfl⟩
        go_wp2_with fail
        go_roundw
        case rel => exact ⟨k + 1, by omega, by go_num, by rw [HS.out], (hbw.alloc hbs _).alloc (by simp; omega) _⟩
        case measure => simp [intOf]; omega
      · rw [if_neg hd, Int.add_zero] at hS
        have HS := Lib.hid hS
        clear hS hbd
        go_wp2_with fail
        go_roundw
        case rel => exact ⟨k + 1, by omega, by go_num, by rw [HS.out], hbw.alloc hbs _⟩
        case measure => simp [intOf]; omega
    · have hf : uptoF l d = uptoF (l.take k) d := by rw [List.take_of_length_le (by omega)]
      have HF := Lib.hid hf
      clear hf hbd
      go_wp2_with fail
      go_ret
      exact ⟨ret_int HF.out.symm, hbw⟩
def dayF : Value := .func (.func 72) #[] #[]
theorem day_any (u p : Int) (w : World) : Calls Tryz.prog 72 #[.agg #[.int .i64 u, .int .i64 p]] w fun e w' => e = .returned (.int .i64 u) ∧ Below w.heap.size w w' := by
  go_enter Tryz.func72, Tryz.ntmps72
  go_wp2_with fail
  go_ret
  exact ⟨rfl, by go_grown⟩
/-- A slice without elements is nil, or has an address. -/
def Ok0 (A : Option Addr) (c : Nat) : Prop := (A = none ∧ c = 0) ∨ ∃ b off, A = some ⟨b, off, none⟩
set_option maxHeartbeats 400000 in
theorem risingEntry_two (A : Option Addr) (c : Nat) (t : List (Int × Int)) (by_ : Int) (w : World) (hr : Rd w w.heap.size A (pairs t)) (hl : t.length ≤ 1000) (hc : t.length ≤ c) (h2 : 2 ≤ t.length)
    (hu : ∀ s ∈ t, -1000000000000 ≤ s.1 ∧ s.1 ≤ 1000000000000) (hb0 : 0 ≤ by_) (hb1 : by_ ≤ 1000) :
    Calls Tryz.prog 71 #[.slice A t.length c, dayF, .int .i64 by_] w fun e w' => e = .returned (.bool (risesB by_ (t.map (·.1)))) ∧ Below w.heap.size w w' := by
  unfold dayF
  obtain ⟨b, off, rfl, hbb, _, _⟩ := hr.pair (k := 0) (by omega)
  have hc1 : ¬ c = 1 := by omega
  have hm : ¬ t.length < 1 := by omega
  go_enter Tryz.func71, Tryz.ntmps71
  go_wp2_with fail
  go_loopw [7, 14] (fun _ i wr => ∃ k : Nat, k + 1 ≤ t.length ∧ i = .int .i64 k ∧ risesB by_ ((t.map (·.1)).take (k + 1)) = true ∧ Below w.heap.size w wr) (fun _ i _ => t.length - (intOf i).toNat)
  case atStart => exact ⟨0, by omega, rfl, rises_one _ _, Below.refl _ _⟩
  case round =>
    obtain ⟨k, hk, rfl, hri, hbw⟩ := hrel
    have Hri := Lib.hid hri
    clear hri
    by_cases hlt : k + 1 < t.length
    · obtain ⟨hc1, hc2⟩ := (hr.below hbw).pair' (k := k) (by omega)
      obtain ⟨hc3, hc4⟩ := (hr.below hbw).pair' hlt
      have hbr : b < wr.heap.size := Nat.lt_of_lt_of_le hbb hbw.size
      have hk1 : (k : Int) + 1 < t.length := by omega
      have hk0 : (k : Int) < t.length := by omega
      obtain ⟨u1, u2⟩ := hu t[k] (List.getElem_mem _)
      have g0 : 0 ≤ by_ := hb0
      have hS := rises_snoc by_ (t.map (·.1)) k (by simpa using hlt)
      have hN := rises_no by_ (t.map (·.1)) k (by simpa using hlt)
      simp only [List.getElem_map] at hS hN
      rw [Hri.out, Bool.true_and] at hS
      have HS := Lib.hid hS
      have HN := Lib.hid hN
      clear hS hN
      go_wp2_with fail
      have q1 : IntKind.i64.wrap ((k : Int) + 1) = (k : Int) + 1 := IntWalk.i64_in _ (by omega)
      have q2 : (0 : Int) ≤ (k : Int) + 1 := by omega
      have q3 : ((k : Int) + 1).toNat = k + 1 := by omega
      have q4 : IntKind.i64.wrap (t[k].1 + by_) = t[k].1 + by_ := IntWalk.i64_in _ (by omega)
      go_region_held3 (fun w' => w'.cell? ⟨b, off + k * 2, none⟩ = some (.int .i64 t[k].1) ∧ w'.cell? ⟨b, off + k * 2 + 1, none⟩ = some (.int .i64 t[k].2) ∧ w'.cell? ⟨b, off + (k + 1) * 2, none⟩ = some (.int .i64 t[k + 1].1) ∧ w'.cell? ⟨b, off + (k + 1) * 2 + 1, none⟩ = some (.int .i64 t[k + 1].2) ∧ Below wr.heap.size wr w') (first | exact ⟨hc1, hc2, hc3, hc4, (Below.refl _ _).drew⟩ | exact keep4 hbr (by assumption) (by assumption))
        (first | (go_at_call 72; refine (day_any _ _ _).mono ?_; rintro e w' ⟨rfl, hb⟩))
      clear q1 q2 q3
      all_goals go_wp2_with fail
      · have hq : t[k + 1].1 < t[k].1 + by_ := by assumption
        clear q4
        go_ret
        exact ⟨ret_bool (HN.out hq).symm, hbw.trans (Below.mono (and5 (by assumption)) hbw.size)⟩
      · have hq : t[k].1 + by_ ≤ t[k + 1].1 := by assumption
        clear q4
        go_roundw
        case rel => exact ⟨k + 1, by omega, by go_num, by rw [HS.out]; simpa using hq, hbw.trans (Below.mono (and5 (by assumption)) hbw.size)⟩
        case measure => simp [intOf]; omega
    · have hfin : Hid (risesB by_ (t.map (·.1)) = true) := by
        have := Hri.out
        rwa [List.take_of_length_le (by simp; omega)] at this
      go_wp2_with fail
      go_ret
      exact ⟨ret_bool hfin.out.symm, hbw⟩
theorem risingEntry_few (A : Option Addr) (c n : Nat) (by_ : Int) (w : World) (hA : Ok0 A c) (hc : n ≤ c) (hn : n = 0 ∨ n = 1) :
    Calls Tryz.prog 71 #[.slice A n c, dayF, .int .i64 by_] w fun e w' => e = .returned (.bool true) ∧ Below w.heap.size w w' := by
  unfold dayF
  rcases hA with ⟨rfl, rfl⟩ | ⟨b, off, rfl⟩
  · obtain rfl : n = 0 := by omega
    go_enter Tryz.func71, Tryz.ntmps71
    go_wp2_with fail
    go_loop [14] (fun i => i = .int .i64 0) (fun _ => 0)
    case atStart => rfl
    case round =>
      subst hrel
      go_wp2_with fail
      go_ret
      exact ⟨rfl, Below.refl _ _⟩
  · rcases hn with rfl | rfl
    · by_cases h0 : c = 0
      · subst h0
        go_enter Tryz.func71, Tryz.ntmps71
        go_wp2_with fail
        go_loop [14] (fun i => i = .int .i64 0) (fun _ => 0)
        case atStart => rfl
        case round =>
          subst hrel
          go_wp2_with fail
          go_ret
          exact ⟨rfl, Below.refl _ _⟩
      · go_enter Tryz.func71, Tryz.ntmps71
        go_wp2_with fail
        go_loop [14] (fun i => i = .int .i64 0) (fun _ => 0)
        case atStart => rfl
        case round =>
          subst hrel
          go_wp2_with fail
          go_ret
          exact ⟨rfl, Below.refl _ _⟩
    · by_cases hc1 : c = 1
      · subst hc1
        go_enter Tryz.func71, Tryz.ntmps71
        go_wp2_with fail
        go_loop [14] (fun i => i = .int .i64 0) (fun _ => 0)
        case atStart => rfl
        case round =>
          subst hrel
          go_wp2_with fail
          go_ret
          exact ⟨rfl, Below.refl _ _⟩
      · go_enter Tryz.func71, Tryz.ntmps71
        go_wp2_with fail
        go_loop [14] (fun i => i = .int .i64 0) (fun _ => 0)
        case atStart => rfl
        case round =>
          subst hrel
          go_wp2_with fail
          go_ret
          exact ⟨rfl, Below.refl _ _⟩
/-- A slice of entries that lies somewhere. -/
structure Ent (w : World) (A : Option Addr) (c : Nat) (t : List (Int × Int)) : Prop where
  rd : Rd w w.heap.size A (pairs t)
  cap : t.length ≤ c
  ok : Ok0 A c
theorem Ent.next {w w' : World} {A : Option Addr} {c : Nat} {t : List (Int × Int)} (h : Ent w A c t) (hb : Below w.heap.size w w') : Ent w' A c t := ⟨h.rd.next hb, h.cap, h.ok⟩
theorem risingEntry_any (A : Option Addr) (c : Nat) (t : List (Int × Int)) (w : World) (hr : Ent w A c t) (hl : t.length ≤ 1000) (hu : t.any entryOkP = false) :
    Calls Tryz.prog 71 #[.slice A t.length c, dayF, .int .i64 0] w fun e w' => e = .returned (.bool (risesB 0 (t.map (·.1)))) ∧ Below w.heap.size w w' := by
  by_cases h : 2 ≤ t.length
  · refine risingEntry_two A c t 0 w hr.rd hl hr.cap h ?_ (by omega) (by omega)
    intro s hs
    have := List.any_eq_false.1 hu s hs
    simp only [entryOkP, entryOk, Bool.not_eq_true', Bool.not_eq_false, Bool.and_eq_true, inB_iff] at this
    omega
  · have e : risesB 0 (t.map (·.1)) = true := by
      match t, h with
      | [], _ => rfl
      | [_], _ => rfl
      | _ :: _ :: _, h => simp at h
    rw [e]
    exact risingEntry_few A c t.length 0 w hr.ok hr.cap (by omega)
def accBad (cs ps : List (Int × Int)) (g l : Int) : Bool := !inB g 0 60 || (!inB l 0 100 || (cs.any entryOkP || ps.any entryOkP))
def ckAcc (cs ps : List (Int × Int)) (g l : Int) : Int :=
  if cs.length > 8 ∨ ps.length > 8 then 3 else if accBad cs ps g l = true then 4 else if (risesB 0 (cs.map (·.1)) && risesB 0 (ps.map (·.1))) = true then 0 else 6
theorem entries_all {t : List (Int × Int)} (h : t.any entryOkP = false) : ∀ s ∈ t, 0 ≤ s.1 ∧ s.1 ≤ 400 ∧ 1 ≤ s.2 ∧ s.2 ≤ 10000 := by
  intro s hs
  have := List.any_eq_false.1 h s hs
  simp only [entryOkP, entryOk, Bool.not_eq_true', Bool.not_eq_false, Bool.and_eq_true, inB_iff] at this
  omega
structure AccOk (cs ps : List (Int × Int)) (g l : Int) : Prop where
  clen : cs.length ≤ 8
  plen : ps.length ≤ 8
  grace : 0 ≤ g ∧ g ≤ 60
  late : 0 ≤ l ∧ l ≤ 100
  call : ∀ s ∈ cs, 0 ≤ s.1 ∧ s.1 ≤ 400 ∧ 1 ≤ s.2 ∧ s.2 ≤ 10000
  pall : ∀ s ∈ ps, 0 ≤ s.1 ∧ s.1 ≤ 400 ∧ 1 ≤ s.2 ∧ s.2 ≤ 10000
  crise : risesB 0 (cs.map (·.1)) = true
  prise : risesB 0 (ps.map (·.1)) = true
theorem ckAcc_ok {cs ps : List (Int × Int)} {g l : Int} (h : ckAcc cs ps g l = 0) : AccOk cs ps g l := by
  unfold ckAcc at h
  split at h
  · omega
  · split at h
    · omega
    · split at h
      · rename_i h1 h2 h3
        have h2' : accBad cs ps g l = false := by simpa using h2
        unfold accBad at h2'
        simp only [Bool.or_eq_false_iff, Bool.not_eq_false', inB_iff] at h2'
        obtain ⟨a1, a2, a3, a4⟩ := h2'
        simp only [Bool.and_eq_true] at h3
        exact ⟨by omega, by omega, a1, a2, entries_all a3, entries_all a4, h3.1, h3.2⟩
      · omega
/-- An account as a value. -/
def accV (A : Option Addr) (n c : Nat) (B : Option Addr) (m d : Nat) (g l : Int) : Value := .agg #[.slice A n c, .slice B m d, .int .i64 g, .int .i64 l]
set_option maxHeartbeats 1000000 in
theorem CheckAccount_any (A B : Option Addr) (c d : Nat) (cs ps : List (Int × Int)) (g l : Int) (w : World) (hA : Ent w A c cs) (hB : Ent w B d ps) (hl : cs.length ≤ 1000) (hl2 : ps.length ≤ 1000) :
    Calls Tryz.prog 15 #[accV A cs.length c B ps.length d g l] w fun e w' => e = .returned (.int .i64 (ckAcc cs ps g l)) ∧ Below w.heap.size w w' := by
  unfold accV
  have HC := fun w1 (hb : Below w.heap.size w w1) => Lib.hid (everyEntry_any A c cs w1 (hA.next hb).rd hl)
  have HP := fun w1 (hb : Below w.heap.size w w1) => Lib.hid (everyEntry_any B d ps w1 (hB.next hb).rd hl2)
  unfold F_Entry at HC HP
  by_cases h8 : cs.length > 8 ∨ ps.length > 8
  · have HF : Hid (ckAcc cs ps g l = 3) := by unfold ckAcc; rw [if_pos h8]; rfl
    by_cases h81 : cs.length > 8
    · have h1 : (8 : Int) < cs.length := by omega
      clear h8 h81
      go_enter Tryz.func15, Tryz.ntmps15
      go_wp2_with fail
      go_ret
      exact ⟨ret_int HF.out.symm, by go_grown⟩
    · have h1 : ¬ (8 : Int) < cs.length := by omega
      have h2 : (8 : Int) < ps.length := by omega
      clear h8 h81
      go_enter Tryz.func15, Tryz.ntmps15
      go_wp2_with fail
      go_ret
      exact ⟨ret_int HF.out.symm, by go_grown⟩
  · have h1 : ¬ (8 : Int) < cs.length := by omega
    have h2 : ¬ (8 : Int) < ps.length := by omega
    by_cases b1 : inB g 0 60 = true
    · by_cases b2 : inB l 0 100 = true
      · by_cases b3 : cs.any entryOkP = true
        · have HF : Hid (ckAcc cs ps g l = 4) := by unfold ckAcc; rw [if_neg h8, if_pos (by unfold accBad; rw [b3]; simp)]; rfl
          clear h8
          go_enter Tryz.func15, Tryz.ntmps15
          go_wp2_with fail
          refine (in_any _ _ _ _).mono ?_
          rintro e w1 ⟨rfl, rfl⟩
          go_wp2_with fail
          refine (in_any _ _ _ _).mono ?_
          rintro e w1 ⟨rfl, rfl⟩
          go_wp2_with fail
          refine (HC _ (by go_grown)).out.mono ?_
          rintro e w1 ⟨rfl, hb1⟩
          have hbw : Below w.heap.size w w1 := Below.trans (by go_grown) (hb1.mono (by simp))
          go_wp2_with fail
          go_ret
          exact ⟨ret_int HF.out.symm, hbw⟩
        · have b3' : cs.any entryOkP = false := by simpa using b3
          clear b3
          by_cases b4 : ps.any entryOkP = true
          · have HF : Hid (ckAcc cs ps g l = 4) := by unfold ckAcc; rw [if_neg h8, if_pos (by unfold accBad; rw [b4]; simp)]; rfl
            clear h8
            go_enter Tryz.func15, Tryz.ntmps15
            go_wp2_with fail
            refine (in_any _ _ _ _).mono ?_
            rintro e w1 ⟨rfl, rfl⟩
            go_wp2_with fail
            refine (in_any _ _ _ _).mono ?_
            rintro e w1 ⟨rfl, rfl⟩
            go_wp2_with fail
            refine (HC _ (by go_grown)).out.mono ?_
            rintro e w1 ⟨rfl, hb1⟩
            have hbw : Below w.heap.size w w1 := Below.trans (by go_grown) (hb1.mono (by simp))
            have k0 := hb1.cell (p := ⟨w.heap.size, 0, none⟩) (by simp)
            have k1 := hb1.cell (p := ⟨w.heap.size, 1, none⟩) (by simp)
            simp at k0 k1
            have hz1 := hb1.size
            simp at hz1
            go_wp2_with fail
            refine (HP _ hbw).out.mono ?_
            rintro e w2 ⟨rfl, hb2⟩
            have hbw2 := hbw.trans (hb2.mono hbw.size)
            have m0 := (hb2.cell (p := ⟨w.heap.size, 0, none⟩) (by show w.heap.size < w1.heap.size; omega)).trans k0
            have m1 := (hb2.cell (p := ⟨w.heap.size, 1, none⟩) (by show w.heap.size < w1.heap.size; omega)).trans k1
            have hz2 := hb2.size
            go_wp2_with fail
            go_ret
            exact ⟨ret_int HF.out.symm, hbw2⟩
          · have b4' : ps.any entryOkP = false := by simpa using b4
            clear b4
            have hbad : ¬ accBad cs ps g l = true := by unfold accBad; rw [b1, b2, b3', b4']; simp
            have HRC := fun w1 (hb : Below w.heap.size w w1) => Lib.hid (risingEntry_any A c cs w1 (hA.next hb) hl b3')
            have HRP := fun w1 (hb : Below w.heap.size w w1) => Lib.hid (risingEntry_any B d ps w1 (hB.next hb) hl2 b4')
            unfold dayF at HRC HRP
            by_cases r1 : risesB 0 (cs.map (·.1)) = true
            · by_cases r2 : risesB 0 (ps.map (·.1)) = true
              · have HF : Hid (ckAcc cs ps g l = 0) := by unfold ckAcc; rw [if_neg h8, if_neg hbad, if_pos (by rw [r1, r2]; rfl)]; rfl
                clear h8 hbad
                go_enter Tryz.func15, Tryz.ntmps15
                go_wp2_with fail
                refine (in_any _ _ _ _).mono ?_
                rintro e w1 ⟨rfl, rfl⟩
                go_wp2_with fail
                refine (in_any _ _ _ _).mono ?_
                rintro e w1 ⟨rfl, rfl⟩
                go_wp2_with fail
                refine (HC _ (by go_grown)).out.mono ?_
                rintro e w1 ⟨rfl, hb1⟩
                have hbw : Below w.heap.size w w1 := Below.trans (by go_grown) (hb1.mono (by simp))
                have k0 := hb1.cell (p := ⟨w.heap.size, 0, none⟩) (by simp)
                have k1 := hb1.cell (p := ⟨w.heap.size, 1, none⟩) (by simp)
                simp at k0 k1
                have hz1 := hb1.size
                simp at hz1
                go_wp2_with fail
                refine (HP _ hbw).out.mono ?_
                rintro e w2 ⟨rfl, hb2⟩
                have hbw2 := hbw.trans (hb2.mono hbw.size)
                have m0 := (hb2.cell (p := ⟨w.heap.size, 0, none⟩) (by show w.heap.size < w1.heap.size; omega)).trans k0
                have m1 := (hb2.cell (p := ⟨w.heap.size, 1, none⟩) (by show w.heap.size < w1.heap.size; omega)).trans k1
                have hz2 := hb2.size
                go_wp2_with fail
                refine (HRC _ hbw2).out.mono ?_
                rintro e w3 ⟨rfl, hb3⟩
                have hbw3 := hbw2.trans (hb3.mono hbw2.size)
                have n1 := (hb3.cell (p := ⟨w.heap.size, 1, none⟩) (by show w.heap.size < w2.heap.size; omega)).trans m1
                go_wp2_with fail
                refine (HRP _ hbw3).out.mono ?_
                rintro e w4 ⟨rfl, hb4⟩
                have hbw4 := hbw3.trans (hb4.mono hbw3.size)
                go_wp2_with fail
                go_ret
                exact ⟨ret_int HF.out.symm, hbw4⟩
              · have r2' : risesB 0 (ps.map (·.1)) = false := by simpa using r2
                have HF : Hid (ckAcc cs ps g l = 6) := by unfold ckAcc; rw [if_neg h8, if_neg hbad, if_neg (by rw [r2']; simp)]; rfl
                clear h8 hbad r2
                go_enter Tryz.func15, Tryz.ntmps15
                go_wp2_with fail
                refine (in_any _ _ _ _).mono ?_
                rintro e w1 ⟨rfl, rfl⟩
                go_wp2_with fail
                refine (in_any _ _ _ _).mono ?_
                rintro e w1 ⟨rfl, rfl⟩
                go_wp2_with fail
                refine (HC _ (by go_grown)).out.mono ?_
                rintro e w1 ⟨rfl, hb1⟩
                have hbw : Below w.heap.size w w1 := Below.trans (by go_grown) (hb1.mono (by simp))
                have k0 := hb1.cell (p := ⟨w.heap.size, 0, none⟩) (by simp)
                have k1 := hb1.cell (p := ⟨w.heap.size, 1, none⟩) (by simp)
                simp at k0 k1
                have hz1 := hb1.size
                simp at hz1
                go_wp2_with fail
                refine (HP _ hbw).out.mono ?_
                rintro e w2 ⟨rfl, hb2⟩
                have hbw2 := hbw.trans (hb2.mono hbw.size)
                have m0 := (hb2.cell (p := ⟨w.heap.size, 0, none⟩) (by show w.heap.size < w1.heap.size; omega)).trans k0
                have m1 := (hb2.cell (p := ⟨w.heap.size, 1, none⟩) (by show w.heap.size < w1.heap.size; omega)).trans k1
                have hz2 := hb2.size
                go_wp2_with fail
                refine (HRC _ hbw2).out.mono ?_
                rintro e w3 ⟨rfl, hb3⟩
                have hbw3 := hbw2.trans (hb3.mono hbw2.size)
                have n1 := (hb3.cell (p := ⟨w.heap.size, 1, none⟩) (by show w.heap.size < w2.heap.size; omega)).trans m1
                go_wp2_with fail
                refine (HRP _ hbw3).out.mono ?_
                rintro e w4 ⟨rfl, hb4⟩
                have hbw4 := hbw3.trans (hb4.mono hbw3.size)
                go_wp2_with fail
                go_ret
                exact ⟨ret_int HF.out.symm, hbw4⟩
            · have r1' : risesB 0 (cs.map (·.1)) = false := by simpa using r1
              have HF : Hid (ckAcc cs ps g l = 6) := by unfold ckAcc; rw [if_neg h8, if_neg hbad, if_neg (by rw [r1']; simp)]; rfl
              clear h8 hbad r1
              go_enter Tryz.func15, Tryz.ntmps15
              go_wp2_with fail
              refine (in_any _ _ _ _).mono ?_
              rintro e w1 ⟨rfl, rfl⟩
              go_wp2_with fail
              refine (in_any _ _ _ _).mono ?_
              rintro e w1 ⟨rfl, rfl⟩
              go_wp2_with fail
              refine (HC _ (by go_grown)).out.mono ?_
              rintro e w1 ⟨rfl, hb1⟩
              have hbw : Below w.heap.size w w1 := Below.trans (by go_grown) (hb1.mono (by simp))
              have k0 := hb1.cell (p := ⟨w.heap.size, 0, none⟩) (by simp)
              have k1 := hb1.cell (p := ⟨w.heap.size, 1, none⟩) (by simp)
              simp at k0 k1
              have hz1 := hb1.size
              simp at hz1
              go_wp2_with fail
              refine (HP _ hbw).out.mono ?_
              rintro e w2 ⟨rfl, hb2⟩
              have hbw2 := hbw.trans (hb2.mono hbw.size)
              have m0 := (hb2.cell (p := ⟨w.heap.size, 0, none⟩) (by show w.heap.size < w1.heap.size; omega)).trans k0
              have m1 := (hb2.cell (p := ⟨w.heap.size, 1, none⟩) (by show w.heap.size < w1.heap.size; omega)).trans k1
              have hz2 := hb2.size
              go_wp2_with fail
              refine (HRC _ hbw2).out.mono ?_
              rintro e w3 ⟨rfl, hb3⟩
              have hbw3 := hbw2.trans (hb3.mono hbw2.size)
              have n1 := (hb3.cell (p := ⟨w.heap.size, 1, none⟩) (by show w.heap.size < w2.heap.size; omega)).trans m1
              go_wp2_with fail
              go_ret
              exact ⟨ret_int HF.out.symm, hbw3⟩
      · have b2' : inB l 0 100 = false := by simpa using b2
        have HF : Hid (ckAcc cs ps g l = 4) := by unfold ckAcc; rw [if_neg h8, if_pos (by unfold accBad; rw [b2']; simp)]; rfl
        clear h8 b2
        go_enter Tryz.func15, Tryz.ntmps15
        go_wp2_with fail
        refine (in_any _ _ _ _).mono ?_
        rintro e w1 ⟨rfl, rfl⟩
        go_wp2_with fail
        refine (in_any _ _ _ _).mono ?_
        rintro e w1 ⟨rfl, rfl⟩
        go_wp2_with fail
        go_ret
        exact ⟨ret_int HF.out.symm, by go_grown⟩
    · have b1' : inB g 0 60 = false := by simpa using b1
      have HF : Hid (ckAcc cs ps g l = 4) := by unfold ckAcc; rw [if_neg h8, if_pos (by unfold accBad; rw [b1']; simp)]; rfl
      clear h8 b1
      go_enter Tryz.func15, Tryz.ntmps15
      go_wp2_with fail
      refine (in_any _ _ _ _).mono ?_
      rintro e w1 ⟨rfl, rfl⟩
      go_wp2_with fail
      go_ret
      exact ⟨ret_int HF.out.symm, by go_grown⟩
theorem accBox (w : World) (a b c d : Value) (t : TypeId) : (w.alloc (.cells #[a, b, c, d] t)).cell? ⟨w.heap.size, 0, none⟩ = some a ∧ (w.alloc (.cells #[a, b, c, d] t)).cell? ⟨w.heap.size, 1, none⟩ = some b ∧ (w.alloc (.cells #[a, b, c, d] t)).cell? ⟨w.heap.size, 2, none⟩ = some c ∧ (w.alloc (.cells #[a, b, c, d] t)).cell? ⟨w.heap.size, 3, none⟩ = some d := by
  refine ⟨?_, ?_, ?_, ?_⟩ <;> (rw [World.cell?_alloc_new]; rfl)
def datedCode (cs ps : List (Int × Int)) (g l day : Int) : Int := if ckAcc cs ps g l = 0 then (if inB day 0 400 then 0 else 4) else ckAcc cs ps g l
set_option maxHeartbeats 400000 in
theorem dated_any (A B : Option Addr) (c d : Nat) (cs ps : List (Int × Int)) (g l day : Int) (w : World) (hA : Ent w A c cs) (hB : Ent w B d ps) (hl : cs.length ≤ 1000) (hl2 : ps.length ≤ 1000) :
    Calls Tryz.prog 96 #[accV A cs.length c B ps.length d g l, .int .i64 day] w fun e w' => e = .returned (.int .i64 (datedCode cs ps g l day)) ∧ Below w.heap.size w w' := by
  have HC := fun w1 (hb : Below w.heap.size w w1) => Lib.hid (CheckAccount_any A B c d cs ps g l w1 (hA.next hb) (hB.next hb) hl hl2)
  unfold accV at HC ⊢
  by_cases h0 : ckAcc cs ps g l = 0
  · rw [h0] at HC
    by_cases hd : inB day 0 400 = true
    · have HF : Hid (datedCode cs ps g l day = 0) := by unfold datedCode; rw [if_pos h0, if_pos hd]; rfl
      clear h0
      go_enter Tryz.func96, Tryz.ntmps96
      go_wp2_with fail
      refine (HC _ (by go_grown)).out.mono ?_
      rintro e w1 ⟨rfl, hb1⟩
      have hbw : Below w.heap.size w w1 := Below.trans (by go_grown) (hb1.mono (by simp))
      go_wp2_with fail
      refine (in_any _ _ _ _).mono ?_
      rintro e w2 ⟨rfl, rfl⟩
      go_wp2_with fail
      go_ret
      exact ⟨ret_int HF.out.symm, hbw⟩
    · have hd' : inB day 0 400 = false := by simpa using hd
      have HF : Hid (datedCode cs ps g l day = 4) := by unfold datedCode; rw [if_pos h0, if_neg hd]; rfl
      clear h0 hd
      go_enter Tryz.func96, Tryz.ntmps96
      go_wp2_with fail
      refine (HC _ (by go_grown)).out.mono ?_
      rintro e w1 ⟨rfl, hb1⟩
      have hbw : Below w.heap.size w w1 := Below.trans (by go_grown) (hb1.mono (by simp))
      go_wp2_with fail
      refine (in_any _ _ _ _).mono ?_
      rintro e w2 ⟨rfl, rfl⟩
      go_wp2_with fail
      go_ret
      exact ⟨ret_int HF.out.symm, hbw⟩
  · have HF : Hid (datedCode cs ps g l day = ckAcc cs ps g l) := by unfold datedCode; rw [if_neg h0]; rfl
    have h0' : (ckAcc cs ps g l == 0) = false := by simpa using h0
    have h0'' : (ckAcc cs ps g l != 0) = true := by simpa using h0
    have H0 := Lib.hid h0
    clear h0
    go_enter Tryz.func96, Tryz.ntmps96
    go_wp2_with fail
    refine (HC _ (by go_grown)).out.mono ?_
    rintro e w1 ⟨rfl, hb1⟩
    have hbw : Below w.heap.size w w1 := Below.trans (by go_grown) (hb1.mono (by simp))
    go_wp2_with fail
    go_ret
    exact ⟨ret_int HF.out.symm, hbw⟩
end Go.Proofs.YtfojjecnmfkcfaaGreat
namespace Go.Proofs.YtfojjecnmfkcfaaGreat
open Go.RowKit
set_option linter.unusedVariables false
def sharesCode (p : Int) (n : Nat) (qs : List Int) : Int := if ¬ (qs.length = n) then 3 else if qs.any shareOkP = true then 4 else if ¬ (qs.sum = p) then 8 else 0
theorem shareOk_all {qs : List Int} (h : qs.any shareOkP = false) : ∀ z ∈ qs, 0 ≤ z ∧ z ≤ 500 := by
  intro z hz
  have := List.any_eq_false.1 h z hz
  simp only [shareOkP, Bool.not_eq_true', Bool.not_eq_false, inB_iff] at this
  exact this
theorem sharesCode_ok {p : Int} {n : Nat} {qs : List Int} (h : sharesCode p n qs = 0) : qs.length = n ∧ (∀ z ∈ qs, 0 ≤ z ∧ z ≤ 500) ∧ qs.sum = p := by
  unfold sharesCode at h
  split at h
  · omega
  · split at h
    · omega
    · split at h
      · omega
      · rename_i h1 h2 h3
        exact ⟨by omega, shareOk_all (by simpa using h2), by omega⟩
set_option maxHeartbeats 1000000 in
theorem shares_any (g : Nat) (p : Int) (A : Option Addr) (n c : Nat) (ps : List Int) (L : Option Addr) (cl : Nat) (qs : List Int) (w : World) (hd : Desk w g p A n c ps) (hr : Rd w w.heap.size L (ints qs)) (hl : qs.length ≤ 1000) :
    Calls Tryz.prog 85 #[.pointer (some ⟨g, 0, none⟩), .slice L qs.length cl] w fun e w' => e = .returned (.int .i64 (sharesCode p n qs)) ∧ Below w.heap.size w w' := by
  have hh := hd.houses
  have hgl := hd.lt
  have HE := Lib.hid (everyShare_any L cl qs w hr hl)
  unfold F_Share at HE
  by_cases h1 : qs.length = n
  · have h1' : ((qs.length : Int) != (n : Int)) = false := by rw [bne_eq_false_iff_eq]; omega
    by_cases h2 : qs.any shareOkP = true
    · have hF : sharesCode p n qs = 4 := by unfold sharesCode; rw [if_neg (by simpa using h1), if_pos h2]
      have HF := Lib.hid hF
      have H1 := Lib.hid h1
      clear hF h1
      go_enter Tryz.func85, Tryz.ntmps85
      go_wp2_with fail
      refine HE.out.mono ?_
      rintro e w1 ⟨rfl, hb1⟩
      go_wp2_with fail
      go_ret
      exact ⟨ret_int HF.out.symm, hb1⟩
    · have h2' : qs.any shareOkP = false := by simpa using h2
      have hz := shareOk_all h2'
      have HS : ∀ w1, Below w.heap.size w w1 → Hid (Calls Tryz.prog 82 #[.slice L qs.length cl] w1 fun e w' => e = .returned (.int .i64 qs.sum) ∧ w' = w1) := fun w1 hb =>
        ((sum_any L cl qs w1 (hr.next hb) hl (fun z h => by have := hz z h; omega)).mono fun e w' ⟨a, b⟩ => ⟨a, b.symm⟩)
      by_cases h3 : qs.sum = p
      · have hF : sharesCode p n qs = 0 := by unfold sharesCode; rw [if_neg (by simpa using h1), if_neg h2, if_neg (by simpa using h3)]
        have h3' : (qs.sum != p) = false := by rw [bne_eq_false_iff_eq]; exact h3
        have HF := Lib.hid hF
        have H1 := Lib.hid h1
        have H3 := Lib.hid h3
        clear hF h1 h2 h3 hz
        go_enter Tryz.func85, Tryz.ntmps85
        go_wp2_with fail
        refine HE.out.mono ?_
        rintro e w1 ⟨rfl, hb1⟩
        have hp1 := (hd.below hb1).pence
        have hg1 : g < w1.heap.size := Nat.lt_of_lt_of_le hgl hb1.size
        have HS1 := HS w1 hb1
        have HS2 : ∀ m, Hid (Calls Tryz.prog 82 #[.slice L qs.length cl] (w1.drewN m) fun e w' => e = .returned (.int .i64 qs.sum) ∧ w' = w1.drewN m) := fun m => HS _ (below_drewN hb1 m)
        go_wp2_with fail
        go_quiet ((go_at_call 82; exact Calls.quiet_of_same (HS2 _).out))
        go_wp2_with fail
        go_ret
        exact ⟨ret_int HF.out.symm, below_drewN hb1 _⟩
      · have hF : sharesCode p n qs = 8 := by unfold sharesCode; rw [if_neg (by simpa using h1), if_neg h2, if_pos (by simpa using h3)]
        have h3' : (qs.sum != p) = true := by rw [bne_iff_ne]; exact h3
        have HF := Lib.hid hF
        have H1 := Lib.hid h1
        have H3 := Lib.hid h3
        clear hF h1 h2 h3 hz
        go_enter Tryz.func85, Tryz.ntmps85
        go_wp2_with fail
        refine HE.out.mono ?_
        rintro e w1 ⟨rfl, hb1⟩
        have hp1 := (hd.below hb1).pence
        have hg1 : g < w1.heap.size := Nat.lt_of_lt_of_le hgl hb1.size
        have HS2 : ∀ m, Hid (Calls Tryz.prog 82 #[.slice L qs.length cl] (w1.drewN m) fun e w' => e = .returned (.int .i64 qs.sum) ∧ w' = w1.drewN m) := fun m => HS _ (below_drewN hb1 m)
        go_wp2_with fail
        go_quiet ((go_at_call 82; exact Calls.quiet_of_same (HS2 _).out))
        go_wp2_with fail
        go_ret
        exact ⟨ret_int HF.out.symm, below_drewN hb1 _⟩
  · have hF : sharesCode p n qs = 3 := by unfold sharesCode; rw [if_pos (by simpa using h1)]
    have h1' : ((qs.length : Int) != (n : Int)) = true := by rw [bne_iff_ne]; omega
    have HF := Lib.hid hF
    have H1 := Lib.hid h1
    clear hF h1
    go_enter Tryz.func85, Tryz.ntmps85
    go_wp2_with fail
    go_ret
    exact ⟨ret_int HF.out.symm, Below.refl _ _⟩
/-- Numbers laid over a list from a place on. -/
def putAt (ps : List Int) (i : Nat) : List Int → List Int
  | [] => ps
  | v :: vs => putAt (ps.set i v) (i + 1) vs
theorem grownBy_setCell (w : World) (g o : Nat) (v : Value) : w.grownBy (w.setCell ⟨g, o, none⟩ v) (some g) :=
  ⟨rfl, rfl, rfl, by simp [World.setCell], fun k hk hne => by
    have : g ≠ k := fun e => hne (by rw [e])
    simp [World.setCell, Array.getElem?_modify, this]⟩
theorem grownBy_self (w : World) (g : Option Nat) : w.grownBy w g := ⟨rfl, rfl, rfl, Nat.le_refl _, fun _ _ _ => rfl⟩
theorem grownBy_trans {a b c : World} {g : Option Nat} (h1 : a.grownBy b g) (h2 : b.grownBy c g) : a.grownBy c g :=
  ⟨h2.os.trans h1.os, h2.tape.trans h1.tape, h2.output.trans h1.output, Nat.le_trans h1.size h2.size, fun k hk hne => (h2.block k (Nat.lt_of_lt_of_le hk h1.size) hne).trans (h1.block k hk hne)⟩
theorem store_pays (P : Program) (g : Nat) (p : Int) (A : Option Addr) (n c : Nat) : ∀ (vs : List Int) (i : Nat) (ps : List Int) (w : World), Desk w g p A n c ps → i + vs.length ≤ 6 →
    ∃ w', (storeCells ⟨g, 2, none⟩ (ints vs) i).run P w = .ok () w' ∧ Desk w' g p A n c (putAt ps i vs) ∧ w.grownBy w' (some g)
  | [], i, ps, w, hd, _ => ⟨w, rfl, hd, grownBy_self _ _⟩
  | v :: vs, i, ps, w, hd, hl => by
    have hi : i < 6 := by simp at hl; omega
    have hst : (store ((⟨g, 2, none⟩ : Addr).add i) (.int .i64 v)).run P w = .ok () (w.setCell ⟨g, 2 + i, none⟩ (.int .i64 v)) := by
      rw [addr_add, run_store P w _ _ _ rfl, hd.at_ hi]
      simp [hd.free]
    obtain ⟨w', h1, h2, h3⟩ := store_pays P g p A n c vs (i + 1) (ps.set i v) _ (hd.bump hi v) (by simp at hl; omega)
    refine ⟨w', ?_, h2, grownBy_trans (grownBy_setCell _ _ _ _) h3⟩
    show (storeCells ⟨g, 2, none⟩ (Value.int .i64 v :: ints vs) i).run P w = _
    simp only [storeCells, Sem.run_bind, hst, Result.andThen_ok]
    exact h1
theorem putAt_zero (qs : List Int) (h : qs.length ≤ 6) : putAt [0, 0, 0, 0, 0, 0] 0 qs = qs ++ List.replicate (6 - qs.length) 0 := by
  match qs, h with
  | [], _ => rfl
  | [a], _ => rfl
  | [a, b], _ => rfl
  | [a, b, c], _ => rfl
  | [a, b, c, d], _ => rfl
  | [a, b, c, d, e], _ => rfl
  | [a, b, c, d, e, f], _ => rfl
  | _ :: _ :: _ :: _ :: _ :: _ :: _ :: _, h => simp at h
theorem run_copy_to {P : Program} (w w' : World) (dT sT ty elem : TypeId) (n size dLen dCap sCap : Nat) (a ad : Addr) (cs : List Value)
    (hu : P.underlying dT = some (.slice elem)) (hs : (P.info? elem).map (·.size) = some size) (hn : cs.length = n * size) (hle : n ≤ dLen)
    (hsrc : ∀ j v, cs[j]? = some v → w.cell? (ad.add j) = some v) (hst : (storeCells a cs 0).run P w = .ok () w') :
    (Builtin.copy_ #[dT, sT] ty #[.slice (some a) dLen dCap, .slice (some ad) n sCap]).run P w = .ok (goInt n) w' := by
  have hl := run_loadCells_list (P := P) w ad cs hsrc
  rw [hn] at hl
  have hm : min n dLen = n := Nat.min_eq_left hle
  cases hq : P.info? elem with
  | none => simp [hq] at hs
  | some i =>
    have hi : i.size = size := by simpa [hq] using hs
    simp [Builtin.copy_, run_underlying hu, Builtin.lenOf, Builtin.firstCells, sizeOf, typeInfo, hq, hi, hl, hst, hm]
theorem wpList_copy_to {P : Program} {w : World} {ops : Array Oper} {rest : List Oper} {o : Oper} {a : Act} {Q : Exit → Act → World → Prop} (hgd : o.guard = none) (d s : Operand) (dT sT : TypeId)
    (ho : o.op = .call { callee := .builtin .copy, args := #[d, s], argTypes := #[dT, sT] }) (elem : TypeId) (size : Nat) (hu : P.underlying dT = some (.slice elem)) (hsz : (P.info? elem).map (·.size) = some size)
    (n dLen dCap sCap : Nat) (da ad : Addr) (hd : a.eval d = .slice (some da) dLen dCap) (hs : a.eval s = .slice (some ad) n sCap)
    (cs : List Value) (hn : cs.length = n * size) (hle : n ≤ dLen) (hsrc : ∀ j v, cs[j]? = some v → w.cell? (ad.add j) = some v) (w' : World) (hst : (storeCells da cs 0).run P w = .ok () w')
    (h : wpList P ops Q rest (a.put o.dst (goInt n)) w') : wpList P ops Q (o :: rest) a w := by
  refine wpList_plain hgd fun K hK => ?_
  have hrun := run_copy_to (P := P) w w' dT sT o.type elem n size dLen dCap sCap da ad cs hu hsz hn hle hsrc hst
  unfold Oper.wp
  simp [execOp, ho, resolve, invoke, builtin, hd, hs, hrun, Result.andThen]
  exact hK _ _ h
end Go.Proofs.YtfojjecnmfkcfaaGreat
namespace Go.Proofs.YtfojjecnmfkcfaaGreat
open Go.RowKit
set_option linter.unusedVariables false
def outB (hs : List (Int × Int × Int)) (qs : List Int) (i k : Nat) : Bool :=
  decide (i ≠ k) && (decide (qs.getD i 0 < hM hs i) && (decide (hL hs k < qs.getD k 0) && decide (slotLt (hV hs i) i (qs.getD i 0 + 1) (hV hs k) k (qs.getD k 0))))
def outRow (hs : List (Int × Int × Int)) (qs : List Int) (i m : Nat) : List (Int × Int) := ((List.range m).filter (outB hs qs i)).map fun (k : Nat) => ((i : Int), (k : Int))
def outRows (hs : List (Int × Int × Int)) (qs : List Int) (m : Nat) : List (Int × Int) := (List.range m).flatMap fun i => outRow hs qs i hs.length
def limB (hs : List (Int × Int × Int)) (qs : List Int) (m : Nat) : Bool := (List.range m).all fun i => inB (qs.getD i 0) (hL hs i) (hM hs i)
theorem limB_succ (hs : List (Int × Int × Int)) (qs : List Int) (m : Nat) : limB hs qs (m + 1) = (limB hs qs m && inB (qs.getD m 0) (hL hs m) (hM hs m)) := by
  unfold limB; rw [List.range_succ, List.all_append]; simp
theorem limB_false {hs : List (Int × Int × Int)} {qs : List Int} {m n : Nat} (hmn : m < n) (h : inB (qs.getD m 0) (hL hs m) (hM hs m) = false) : limB hs qs n = false := by
  unfold limB
  rw [List.all_eq_false]
  exact ⟨m, List.mem_range.2 hmn, by rw [h]; simp⟩
theorem outRow_succ (hs : List (Int × Int × Int)) (qs : List Int) (i m : Nat) : outRow hs qs i (m + 1) = outRow hs qs i m ++ (if outB hs qs i m then [((i : Int), (m : Int))] else []) := by
  unfold outRow
  rw [List.range_succ, List.filter_append, List.map_append]
  congr 1
  by_cases h : outB hs qs i m = true <;> simp [h]
theorem outRows_succ (hs : List (Int × Int × Int)) (qs : List Int) (m : Nat) : outRows hs qs (m + 1) = outRows hs qs m ++ outRow hs qs m hs.length := by
  unfold outRows; rw [List.range_succ, List.flatMap_append]; simp
theorem outRow_len (hs : List (Int × Int × Int)) (qs : List Int) (i m : Nat) : (outRow hs qs i m).length ≤ m := by
  unfold outRow
  rw [List.length_map]
  exact Nat.le_trans (List.length_filter_le _ _) (by simp)
theorem outRows_len (hs : List (Int × Int × Int)) (qs : List Int) (m : Nat) : (outRows hs qs m).length ≤ m * hs.length := by
  induction m with
  | zero => simp [outRows]
  | succ m ih =>
    rw [outRows_succ, List.length_append]
    have := outRow_len hs qs m hs.length
    rw [Nat.succ_mul]
    omega
def outCode (p : Int) (hs : List (Int × Int × Int)) (qs : List Int) : Int :=
  if ckBill p hs = 0 then (if sharesCode p hs.length qs = 0 then (if limB hs qs hs.length then 0 else 9) else sharesCode p hs.length qs) else ckBill p hs
def outL (p : Int) (hs : List (Int × Int × Int)) (qs : List Int) : List (Int × Int) := if outCode p hs qs = 0 then outRows hs qs hs.length else []
theorem limB_at {hs : List (Int × Int × Int)} {qs : List Int} {n : Nat} (h : limB hs qs n = true) (k : Nat) (hk : k < n) : hL hs k ≤ qs.getD k 0 ∧ qs.getD k 0 ≤ hM hs k := by
  unfold limB at h
  have := List.all_eq_true.1 h k (List.mem_range.2 hk)
  unfold inB at this
  simpa using this
theorem outB_can {hs : List (Int × Int × Int)} {qs : List Int} {i k : Nat} (h : ¬ (qs.getD i 0 < hM hs i)) : outB hs qs i k = false := by unfold outB; simp only [h, decide_false, Bool.false_and, Bool.and_false]
theorem outB_least {hs : List (Int × Int × Int)} {qs : List Int} {i k : Nat} (h : qs.getD k 0 = hL hs k) : outB hs qs i k = false := by
  have : ¬ hL hs k < qs.getD k 0 := by omega
  unfold outB; simp only [this, decide_false, Bool.false_and, Bool.and_false]
theorem outB_slot {hs : List (Int × Int × Int)} {qs : List Int} {i k : Nat} (h : ¬ slotLt (hV hs i) i (qs.getD i 0 + 1) (hV hs k) k (qs.getD k 0)) : outB hs qs i k = false := by
  unfold outB; simp only [h, decide_false, Bool.and_false]
theorem outB_first {hs : List (Int × Int × Int)} {qs : List Int} {i k : Nat} (h : hV hs i * qs.getD k 0 < hV hs k * (qs.getD i 0 + 1)) : outB hs qs i k = false :=
  outB_slot (by unfold slotLt; omega)
theorem outB_same {hs : List (Int × Int × Int)} {qs : List Int} {i k : Nat} (h : i = k) : outB hs qs i k = false := by
  unfold outB; simp [h]
theorem outB_yes {hs : List (Int × Int × Int)} {qs : List Int} {i k : Nat} (h0 : i ≠ k) (h1 : qs.getD i 0 < hM hs i) (h2 : hL hs k < qs.getD k 0) (h3 : slotLt (hV hs i) i (qs.getD i 0 + 1) (hV hs k) k (qs.getD k 0)) : outB hs qs i k = true := by
  unfold outB
  rw [decide_eq_true h0, decide_eq_true h1, decide_eq_true h2, decide_eq_true h3]
  rfl
theorem outRow_skip {hs : List (Int × Int × Int)} {qs : List Int} {i k : Nat} (h : outB hs qs i k = false) : outRow hs qs i (k + 1) = outRow hs qs i k := by rw [outRow_succ, h]; simp
theorem outRow_more {hs : List (Int × Int × Int)} {qs : List Int} {i k : Nat} (h : outB hs qs i k = true) : outRow hs qs i (k + 1) = outRow hs qs i k ++ [((i : Int), (k : Int))] := by rw [outRow_succ, h]; simp
/-- What is gathered by the loops. -/
structure OutSt (w4 : World) (bx : Nat) (X : Int) (t : List (Int × Int)) (v : Value) (wr : World) : Prop where
  own : wr.ownsRow (w4.heap.size + 1) 77 2 v t.length (pairs t)
  below : Below w4.heap.size w4 wr
  fn : wr.cell? ⟨w4.heap.size, 0, none⟩ = some (.func (.func 119) #[] #[])
  l4 : w4.heap.size < wr.heap.size
  x : wr.cell? ⟨bx, 0, none⟩ = some (.int .i64 X)
  lx : bx < wr.heap.size
  ne : v.ownBlock ≠ some bx
  gt : w4.heap.size < bx
theorem OutSt.alloc {w4 : World} {bx : Nat} {X : Int} {t : List (Int × Int)} {v : Value} {wr : World} (h : OutSt w4 bx X t v wr) (o : Obj) : OutSt w4 bx X t v (wr.alloc o) :=
  ⟨h.own.alloc o, h.below.alloc h.below.size _, (World.cell?_alloc_lt wr _ ⟨w4.heap.size, 0, none⟩ h.l4).trans h.fn, by have := h.l4; simp; omega, (World.cell?_alloc_lt wr _ ⟨bx, 0, none⟩ h.lx).trans h.x, by have := h.lx; simp; omega, h.ne, h.gt⟩
theorem OutSt.drewN {w4 : World} {bx : Nat} {X : Int} {t : List (Int × Int)} {v : Value} {wr : World} (h : OutSt w4 bx X t v wr) (n : Nat) : OutSt w4 bx X t v (wr.drewN n) :=
  ⟨h.own, below_drewN h.below n, h.fn, h.l4, h.x, h.lx, h.ne, h.gt⟩
theorem OutSt.app {w4 : World} {bx : Nat} {X : Int} {t : List (Int × Int)} {v v' : Value} {wr w' : World} (h : OutSt w4 bx X t v wr) (a : Int × Int) (ho : w'.ownsRow (w4.heap.size + 1) 77 2 v' (t.length + 1) (pairs t ++ [.int .i64 a.1, .int .i64 a.2])) (hg : wr.grownBy w' v.ownBlock)
    (hb : v'.ownBlock = v.ownBlock ∨ v'.ownBlock = some wr.heap.size) : OutSt w4 bx X (t ++ [a]) v' w' := by
  have hne4 : v.ownBlock ≠ some w4.heap.size := fun e => by have := (h.own.lt _ e).1; omega
  have hp : pairs (t ++ [a]) = pairs t ++ [.int .i64 a.1, .int .i64 a.2] := by unfold pairs; rw [List.flatMap_append]; rfl
  refine ⟨by rw [hp, List.length_append]; exact ho, h.below.grown hg h.below.size (fun q hq => by have := (h.own.lt q hq).1; omega), hg.cell h.fn hne4.symm, Nat.lt_of_lt_of_le h.l4 hg.size, hg.cell h.x h.ne.symm, Nat.lt_of_lt_of_le h.lx hg.size, ?_, h.gt⟩
  have h1 := h.ne
  have h2 := h.lx
  rcases hb with e | e
  · rw [e]; exact h1
  · rw [e]; intro e'; injection e'; omega
theorem infoPairO : (Tryz.prog.info? 77).map (fun i => (i.zero, i.size, i.bytes)) = some (some (.agg #[.int .i64 0, .int .i64 0]), 2, 16) := by kernel_rfl
set_option maxRecDepth 100000 in
set_option maxHeartbeats 4000000 in
theorem Outbids_any (A : Option Addr) (c : Nat) (p : Int) (hs : List (Int × Int × Int)) (L : Option Addr) (cl : Nat) (qs : List Int) (w : World) (hr : Rd w w.heap.size A (trips hs)) (hl : hs.length ≤ 1000) (hq : Rd w w.heap.size L (ints qs)) (hql : qs.length ≤ 1000) :
    Calls Tryz.prog 29 #[.agg #[.int .i64 p, .slice A hs.length c], .slice L qs.length cl] w (RetOwnE 77 2 (outL p hs qs).length (pairs (outL p hs qs)) (outCode p hs qs) w) := by
  obtain ⟨i0, ihi, ihz0, ihz1, ihz2⟩ := info_parts infoPairO
  have HG := fun W => Lib.hid (greater_any W)
  unfold greaterV at HG
  have HO := fun w1 (hb : Below w.heap.size w w1) => Lib.hid (opened_any A c p hs w1 (hr.next hb) hl)
  by_cases h0 : ckBill p hs = 0
  · have ho := housesOk_of h0
    obtain ⟨p0, p1, l1, _⟩ := ckBill_ok h0
    have H0 := Lib.hid h0
    have hl6 := ho.1
    by_cases h1 : sharesCode p hs.length qs = 0
    · obtain ⟨q1, q2, q3⟩ := sharesCode_ok h1
      have H1 := Lib.hid h1
      obtain ⟨bq, oq, rfl, hbq⟩ := hq.addr (k := 0) (by rw [ints_length]; omega)
      obtain ⟨bh, oh, rfl, hbh⟩ := hr.addr (k := 0) (by rw [trips_length]; omega)
      have HRC : Hid (∀ v, limB hs qs hs.length = v → RetOwnE 77 2 (outL p hs qs).length (pairs (outL p hs qs)) (outCode p hs qs) w = RetOwnE 77 2 (if v then outRows hs qs hs.length else []).length (pairs (if v then outRows hs qs hs.length else [])) (if v then 0 else 9) w) := by
        show ∀ v, _
        intro v hv
        have e1 : outCode p hs qs = if v then 0 else 9 := by unfold outCode; rw [if_pos h0, if_pos h1, hv]
        have e2 : outL p hs qs = if v then outRows hs qs hs.length else [] := by
          unfold outL; rw [e1]; cases v <;> simp
        rw [e1, e2]
      have Q1 := Lib.hid q1
      clear h0 h1 q1
      go_enter Tryz.func29, Tryz.ntmps29
      go_wp2_with fail
      refine (HO _ (by go_grown)).out.mono ?_
      rintro e w1 (⟨_, g, rfl, hg, hd, hb1⟩ | ⟨hne, _⟩)
      · have hbw : Below w.heap.size w w1 := Below.trans (by go_grown) (hb1.mono (by simp))
        have hcx := hb1.cell (p := ⟨w.heap.size, 1, none⟩) (by simp)
        have hz1 := hb1.size
        simp at hg hcx hz1
        go_wp2_with fail
        refine (shares_any g p _ hs.length c _ _ cl qs w1 hd (hq.next hbw) hql).mono ?_
        rintro e w2 ⟨rfl, hb2⟩
        have hbw2 := hbw.trans (hb2.mono hbw.size)
        have hd2 := hd.below hb2
        have hcx2 := (hb2.cell (p := ⟨w.heap.size, 1, none⟩) (by show w.heap.size < w1.heap.size; omega)).trans hcx
        rw [H1.out]
        have hz2 := hb2.size
        have hS : w.heap.size < w2.heap.size := by omega
        go_wp2_with fail
        go_loopw [9, 10, 35] (fun _ _ i wr => ∃ k : Nat, k ≤ hs.length ∧ i = .int .i64 k ∧ limB hs qs k = true ∧ Below w2.heap.size w2 wr) (fun _ _ i _ => hs.length - (intOf i).toNat)
        case atStart => exact ⟨0, by omega, rfl, by simp [limB], Below.refl _ _⟩
        case round =>
          obtain ⟨k, hk, rfl, hlim, hbr⟩ := hrel
          have hbwr := hbw2.trans (hbr.mono hbw2.size)
          by_cases hlt : k < hs.length
          · have HLIM := Lib.hid hlim
            clear hlim
            obtain ⟨x1, x2, x3⟩ := (hr.below hbwr).trip' hlt
            have y1 := (hq.below hbwr).int' (k := k) (by rw [Q1.out]; exact hlt)
            have hbh' : bh < wr.heap.size := Nat.lt_of_lt_of_le hbh hbwr.size
            have hbq' : bq < wr.heap.size := Nat.lt_of_lt_of_le hbq hbwr.size
            have hkq : (k : Int) < qs.length := by rw [Q1.out]; omega
            have hgq : qs.getD k 0 = qs[k]'(by rw [Q1.out]; exact hlt) := by simp [List.getD_eq_getElem?_getD, List.getElem?_eq_getElem (show k < qs.length by rw [Q1.out]; exact hlt)]
            have hgh : hs.getD k (0, 0, 0) = hs[k] := by simp [List.getD_eq_getElem?_getD, List.getElem?_eq_getElem hlt]
            have hB : inB (qs.getD k 0) (hL hs k) (hM hs k) = inB (qs[k]'(by rw [Q1.out]; exact hlt)) hs[k].2.1 hs[k].2.2 := by unfold hL hM; rw [hgq, hgh]
            have hS2 := limB_succ hs qs k
            have hF2 := fun h => limB_false (hs := hs) (qs := qs) hlt h
            rw [HLIM.out, Bool.true_and] at hS2
            rw [hB] at hS2 hF2
            have HS2 := Lib.hid hS2
            have HF2 := Lib.hid hF2
            clear hS2 hF2 hB hgq hgh
            by_cases hin : inB (qs[k]'(by rw [Q1.out]; exact hlt)) hs[k].2.1 hs[k].2.2 = true
            · go_wp2_with fail
              go_quiet ((go_at_call 62; exact Calls.quiet_of_same ((in_any _ _ _ _).mono fun e w' ⟨a, b⟩ => ⟨a, b.symm⟩)))
              go_wp2_with fail
              go_roundw
              case rel => exact ⟨k + 1, by omega, by go_num, by rw [HS2.out]; exact hin, below_drewN (hbr.alloc hbr.size _) _⟩
              case measure => simp [intOf]; omega
            · have hin' : inB (qs[k]'(by rw [Q1.out]; exact hlt)) hs[k].2.1 hs[k].2.2 = false := by simpa using hin
              have HV := Lib.hid (HF2.out hin')
              clear hin
              go_wp2_with fail
              go_quiet ((go_at_call 62; exact Calls.quiet_of_same ((in_any _ _ _ _).mono fun e w' ⟨a, b⟩ => ⟨a, b.symm⟩)))
              go_wp2_with fail
              go_ret2
              rw [HRC.out _ HV.out]
              exact ⟨_, rfl, World.ownsRow_nil _ _ _ _, below_drewN (hbwr.alloc hbwr.size _) _⟩
          · obtain rfl : k = hs.length := by omega
            have HV := Lib.hid hlim
            clear hlim hlt
            have hdr := hd2.below hbr
            obtain ⟨wc, hst, hdc, hgc⟩ := store_pays Tryz.prog g p _ hs.length c qs 0 _ wr hdr (by rw [Q1.out]; omega)
            have hbc : Below w.heap.size w wc := hbwr.grown hgc hbwr.size (fun k hk => by injection hk with hk; omega)
            have hcxc : wc.cell? ⟨w.heap.size, 1, none⟩ = some (.slice (some ⟨bh, oh, none⟩) hs.length c) := (World.cell?_of_block (a := ⟨w.heap.size, 1, none⟩) (hgc.block w.heap.size (Nat.lt_of_lt_of_le hS hbr.size) (by intro e; injection e; omega))).trans ((hbr.cell (p := ⟨w.heap.size, 1, none⟩) hS).trans hcx2)
            have hSc : w.heap.size < wc.heap.size := Nat.lt_of_lt_of_le hS (Nat.le_trans hbr.size hgc.size)
            rw [putAt_zero qs (by rw [Q1.out]; omega)] at hdc
            have HDC := Lib.hid hdc
            have HST := Lib.hid hst
            clear hdc hst
            go_wp2_with (with_reducible refine wpList_copy_to rfl _ _ 22 22 rfl 3 1 Tryz.underlying22 sizeIntL qs.length 6 6 cl ⟨g, 2, none⟩ ⟨bq, oq, none⟩ rfl rfl (ints qs) ?_ ?_ ?_ wc HST.out ?_)
            · rw [ints_length, Nat.mul_one]
            · rw [Q1.out]; exact hl6
            · exact (hq.below hbwr).news
            · go_wp2_with fail
              refine (HG _).out.mono ?_
              rintro e w4 ⟨rfl, hb4⟩
              have hbw4 : Below w.heap.size w w4 := hbc.trans (hb4.mono hbc.size)
              have hcx4 := (hb4.cell (p := ⟨w.heap.size, 1, none⟩) hSc).trans hcxc
              have hS4 : w.heap.size < w4.heap.size := Nat.lt_of_lt_of_le hSc hb4.size
              have hd4 := HDC.out.below hb4
              clear hbr hbwr hbc hdr hgc
              have hqq : (qs ++ List.replicate (6 - qs.length) 0).length = 6 := by simp; rw [Q1.out]; omega
              go_wp2_with fail
              have hlq : ∀ k, k < hs.length → (qs ++ List.replicate (6 - qs.length) 0).getD k 0 = qs.getD k 0 := fun k hk => by
                rw [List.getD_eq_getElem?_getD, List.getD_eq_getElem?_getD, List.getElem?_append_left (by rw [Q1.out]; exact hk)]
              have HCAN : ∀ (m : Nat) (hm : m < hs.length) (r : Bool), decide (qs.getD m 0 < hM hs m) = r → ∀ W, Below w4.heap.size w4 W → Hid (Calls Tryz.prog 87 #[.pointer (some ⟨g, 0, none⟩), .int .i64 m] W fun e w' => e = .returned (.bool r) ∧ ∃ n, w' = W.drewN n) := by
                intro m hm r hrr W hW
                refine can_at g p _ c hs _ W (hd4.below hW) (hr.next (hbw4.trans (hW.mono hbw4.size))) hl6 m hm r ?_
                rw [← hrr]
                have e1 : (qs ++ List.replicate (6 - qs.length) 0).getD m 0 = (qs ++ List.replicate (6 - qs.length) 0)[m]'(by rw [hqq]; omega) := by simp [List.getD_eq_getElem?_getD, List.getElem?_eq_getElem (show m < (qs ++ List.replicate (6 - qs.length) 0).length by rw [hqq]; omega)]
                have e2 : hM hs m = hs[m].2.2 := by unfold hM; simp [List.getD_eq_getElem?_getD, List.getElem?_eq_getElem hm]
                rw [← hlq m hm, e1, e2]
              have HLIM : Hid (∀ k, k < hs.length → hL hs k ≤ qs.getD k 0 ∧ qs.getD k 0 ≤ hM hs k) := fun k hk => limB_at HV.out k hk
              clear hlq hqq
              go_loopw [12, 13, 14, 15, 16, 17, 61] (fun v _ _ _ _ _ i wr => ∃ m : Nat, m ≤ hs.length ∧ i = .int .i64 m ∧ wr.ownsRow (w4.heap.size + 1) 77 2 v (outRows hs qs m).length (pairs (outRows hs qs m)) ∧ Below w4.heap.size w4 wr ∧ wr.cell? ⟨w4.heap.size, 0, none⟩ = some (.func (.func 119) #[] #[]) ∧ w4.heap.size < wr.heap.size) (fun _ _ _ _ _ _ i _ => hs.length - (intOf i).toNat)
              case atStart => exact ⟨0, by omega, rfl, World.ownsRow_nil _ _ _ _, below_new _ _, by simp, by simp⟩
              case round =>
                obtain ⟨m, hm, rfl, hown, hbm, hfn, hl4⟩ := hrel
                have hbwm := hbw4.trans (hbm.mono hbw4.size)
                by_cases hlm : m < hs.length
                · have HOW := Lib.hid hown
                  clear hown
                  obtain ⟨x1, x2, x3⟩ := (hr.below hbwm).trip' hlm
                  have hbh' : bh < wr.heap.size := Nat.lt_of_lt_of_le hbh hbwm.size
                  have hcxm := (hbm.cell (p := ⟨w.heap.size, 1, none⟩) hS4).trans hcx4
                  have hSm : w.heap.size < wr.heap.size := Nat.lt_of_lt_of_le hS4 hbm.size
                  go_wp2_with fail
                  go_loopw [12, 15, 16, 17, 69] (fun v _ _ _ i wr2 => ∃ k : Nat, k ≤ hs.length ∧ i = .int .i64 k ∧ OutSt w4 wr.heap.size hs[m].1 (outRows hs qs m ++ outRow hs qs m k) v wr2) (fun _ _ _ _ i _ => hs.length - (intOf i).toNat)
                  case atStart =>
                    refine ⟨0, by omega, rfl, ?_⟩
                    have e0 : outRows hs qs m ++ outRow hs qs m 0 = outRows hs qs m := by simp [outRow]
                    rw [e0]
                    exact ⟨HOW.out.alloc _, hbm.alloc hbm.size _, (World.cell?_alloc_lt wr _ ⟨w4.heap.size, 0, none⟩ hl4).trans hfn, by simp; omega, by simp, by simp, fun e => by have := (HOW.out.lt _ e).2; omega, hl4⟩
                  case round =>
                    obtain ⟨k, hk, rfl, hst⟩ := hrel
                    by_cases hlk : k < hs.length
                    · have hbwk := hbw4.trans (hst.below.mono hbw4.size)
                      obtain ⟨y1, y2, y3⟩ := (hr.below hbwk).trip' hlk
                      have s1 := (hq.below hbwk).int' (k := m) (by rw [Q1.out]; exact hlm)
                      have s2 := (hq.below hbwk).int' (k := k) (by rw [Q1.out]; exact hlk)
                      have hbh2 : bh < wr.heap.size := Nat.lt_of_lt_of_le hbh hbwk.size
                      have hbq2 : bq < wr.heap.size := Nat.lt_of_lt_of_le hbq hbwk.size
                      have z1 := hst.fn
                      have z2 := hst.l4
                      have z3 := hst.x
                      have z4 := hst.lx
                      have HST := Lib.hid hst
                      have hmq : (m : Int) < qs.length := by rw [Q1.out]; omega
                      have hkq : (k : Int) < qs.length := by rw [Q1.out]; omega
                      have eV1 : hV hs m = hs[m].1 := by unfold hV; simp [List.getD_eq_getElem?_getD, List.getElem?_eq_getElem hlm]
                      have eV2 : hV hs k = hs[k].1 := by unfold hV; simp [List.getD_eq_getElem?_getD, List.getElem?_eq_getElem hlk]
                      have eL : hL hs k = hs[k].2.1 := by unfold hL; simp [List.getD_eq_getElem?_getD, List.getElem?_eq_getElem hlk]
                      have eq1 : qs.getD m 0 = qs[m]'(by rw [Q1.out]; exact hlm) := by simp [List.getD_eq_getElem?_getD, List.getElem?_eq_getElem (show m < qs.length by rw [Q1.out]; exact hlm)]
                      have eq2 : qs.getD k 0 = qs[k]'(by rw [Q1.out]; exact hlk) := by simp [List.getD_eq_getElem?_getD, List.getElem?_eq_getElem (show k < qs.length by rw [Q1.out]; exact hlk)]
                      have hlimk := (HLIM.out k hlk).1
                      obtain ⟨v1, v2⟩ := hV_nonneg ho m
                      obtain ⟨v3, v4⟩ := hV_nonneg ho k
                      obtain ⟨r1, r2⟩ := q2 (qs[m]'(by rw [Q1.out]; exact hlm)) (List.getElem_mem _)
                      obtain ⟨r3, r4⟩ := q2 (qs[k]'(by rw [Q1.out]; exact hlk)) (List.getElem_mem _)
                      have n1 := mul_bd v1 v2 r3 r4 (by omega)
                      have n2 := mul_bd v3 v4 (show 0 ≤ qs[m]'(by rw [Q1.out]; exact hlm) + 1 by omega) (show qs[m]'(by rw [Q1.out]; exact hlm) + 1 ≤ 501 by omega) (by omega)
                      have oc := fun h => outRow_skip (outB_can (hs := hs) (qs := qs) (i := m) (k := k) h)
                      have ol := fun h => outRow_skip (outB_least (hs := hs) (qs := qs) (i := m) (k := k) h)
                      have of1 := fun h => outRow_skip (outB_first (hs := hs) (qs := qs) (i := m) (k := k) h)
                      have os := fun h => outRow_skip (outB_same (hs := hs) (qs := qs) (i := m) (k := k) h)
                      have on := fun h => outRow_skip (outB_slot (hs := hs) (qs := qs) (i := m) (k := k) h)
                      have oy := fun a b c d => outRow_more (outB_yes (hs := hs) (qs := qs) (i := m) (k := k) a b c d)
                      unfold slotLt at on oy
                      rw [eV1, eV2, eq1, eq2] at of1 on oy
                      rw [eq1] at oc
                      rw [eL, eq2] at ol hlimk
                      rw [eL] at oy
                      rw [eV1] at n1
                      rw [eV2] at n2
                      have HCm := HCAN m hlm
                      have eM : hM hs m = hs[m].2.2 := by unfold hM; simp [List.getD_eq_getElem?_getD, List.getElem?_eq_getElem hlm]
                      rw [eM] at HCm oc oy
                      rw [eq1] at HCm
                      have HC0 := fun r (hrr : decide ((qs[m]'(by rw [Q1.out]; exact hlm)) < hs[m].2.2) = r) (o : Obj) n => HCm r hrr ((wr.alloc o).drewN n) (below_drewN (hst.below.alloc hst.below.size o) n)
                      have w1 : IntKind.i64.wrap ((qs[m]'(by rw [Q1.out]; exact hlm)) + 1) = (qs[m]'(by rw [Q1.out]; exact hlm)) + 1 := IntWalk.i64_in _ (by omega)
                      have HF1 := fun W => first_any hs[k].1 (qs[k]'(by rw [Q1.out]; exact hlk)) hs[m].1 ((qs[m]'(by rw [Q1.out]; exact hlm)) + 1) W (by omega) (by omega) (by omega) (by omega)
                      have HF2 := fun W => first_any hs[m].1 ((qs[m]'(by rw [Q1.out]; exact hlm)) + 1) hs[k].1 (qs[k]'(by rw [Q1.out]; exact hlk)) W (by omega) (by omega) (by omega) (by omega)
                      clear HCm hst eV1 eV2 eL eq1 eq2 n1 n2 hd4 HCAN
                      by_cases hcan : (qs[m]'(by rw [Q1.out]; exact hlm)) < hs[m].2.2
                      · have HC := HC0 true (decide_eq_true hcan)
                        have HCN := Lib.hid hcan
                        clear HC0 hcan oc
                        by_cases hle : (qs[k]'(by rw [Q1.out]; exact hlk)) = hs[k].2.1
                        · have HX := Lib.hid (ol hle)
                          have hle' : ((qs[k]'(by rw [Q1.out]; exact hlk)) == hs[k].2.1) = true := by rw [beq_iff_eq]; exact hle
                          clear hle ol of1 os on oy HF1 HF2
                          go_wp2_with fail
                          go_quiet ((first | (go_at_call 87; exact Calls.quiet_of (HC _ _).out)))
                          go_wp2_with fail
                          go_roundw
                          case rel => exact ⟨k + 1, by omega, by go_num, by rw [HX.out]; exact (HST.out.alloc _).drewN _⟩
                          case measure => simp [intOf]; omega
                        · have hle' : ((qs[k]'(by rw [Q1.out]; exact hlk)) == hs[k].2.1) = false := by rw [beq_eq_false_iff_ne]; exact hle
                          have hlt2 : hs[k].2.1 < (qs[k]'(by rw [Q1.out]; exact hlk)) := by omega
                          clear ol hle hlimk
                          by_cases hf : hs[m].1 * (qs[k]'(by rw [Q1.out]; exact hlk)) < hs[k].1 * ((qs[m]'(by rw [Q1.out]; exact hlm)) + 1)
                          · have HX := Lib.hid (of1 hf)
                            have HF : ∀ W, Hid (Calls Tryz.prog 119 #[.int .i64 hs[k].1, .int .i64 (qs[k]'(by rw [Q1.out]; exact hlk)), .int .i64 hs[m].1, .int .i64 ((qs[m]'(by rw [Q1.out]; exact hlm)) + 1)] W fun e w' => e = .returned (.bool true) ∧ w' = W) := fun W => by
                              have h := HF1 W
                              rw [decide_eq_true hf] at h
                              exact h
                            clear hf of1 os on oy HF1 HF2
                            go_wp2_with fail
                            go_quiet ((first | (go_at_call 87; exact Calls.quiet_of (HC _ _).out) | (go_at_call 119; exact Calls.quiet_of_same (HF _).out)))
                            go_wp2_with fail
                            go_roundw
                            case rel => exact ⟨k + 1, by omega, by go_num, by rw [HX.out]; exact (HST.out.alloc _).drewN _⟩
                            case measure => simp [intOf]; omega
                          · have HF : ∀ W, Hid (Calls Tryz.prog 119 #[.int .i64 hs[k].1, .int .i64 (qs[k]'(by rw [Q1.out]; exact hlk)), .int .i64 hs[m].1, .int .i64 ((qs[m]'(by rw [Q1.out]; exact hlm)) + 1)] W fun e w' => e = .returned (.bool false) ∧ w' = W) := fun W => by
                              have h := HF1 W
                              rw [decide_eq_false hf] at h
                              exact h
                            clear of1 HF1
                            go_wp2_with fail
                            go_quiet ((first | (go_at_call 87; exact Calls.quiet_of (HC _ _).out) | (go_at_call 119; exact Calls.quiet_of_same (HF _).out)))
                            clear HF
                            go_wp2_with fail
                            obtain ⟨W5, hW5⟩ : ∃ W5, W5 = (((wr.alloc (.cells #[.int .i64 hs[k].1, .int .i64 hs[k].2.1, .int .i64 hs[k].2.2] 37)).drewN nq).alloc (.cells #[.int .i64 m, .int .i64 k] 77)) := ⟨_, rfl⟩
                            rw [← hW5]
                            have P0 := ((HST.out.alloc (.cells #[.int .i64 hs[k].1, .int .i64 hs[k].2.1, .int .i64 hs[k].2.2] 37)).drewN nq).alloc (.cells #[.int .i64 m, .int .i64 k] 77)
                            rw [← hW5] at P0
                            have b5 : Below wr.heap.size wr W5 := by rw [hW5]; exact (below_drewN (below_new _ _) _).alloc (by simp) _
                            have g1 := P0.fn
                            have g2 := P0.x
                            have g3 : W5.cell? ⟨wr.heap.size, 0, none⟩ = some (.int .i64 hs[k].1) := by
                              rw [hW5]
                              exact (World.cell?_alloc_lt _ _ ⟨wr.heap.size, 0, none⟩ (by simp)).trans (news_new wr [.int .i64 hs[k].1, .int .i64 hs[k].2.1, .int .i64 hs[k].2.2] 37 rfl 0 _ rfl)
                            have g4 : W5.cell? ⟨wr.heap.size + 1, 0, none⟩ = some (.int .i64 m) := by rw [hW5]; exact news_new ((wr.alloc _).drewN nq) [.int .i64 m, .int .i64 k] 77 (by simp) 0 _ rfl
                            have g5 : W5.cell? ⟨wr.heap.size + 1, 1, none⟩ = some (.int .i64 k) := by rw [hW5]; exact news_new ((wr.alloc _).drewN nq) [.int .i64 m, .int .i64 k] 77 (by simp) 1 _ rfl
                            have g6 := (b5.cell (p := ⟨bq, oq + m, none⟩) hbq2).trans s1
                            have g7 := (b5.cell (p := ⟨bq, oq + k, none⟩) hbq2).trans s2
                            have hln := outRows_len hs qs m
                            have hln2 := outRow_len hs qs m k
                            have hln3 : m * hs.length ≤ 6 * 6 := Nat.mul_le_mul (by omega) hl6
                            have hln4 : (outRows hs qs m ++ outRow hs qs m k).length ≤ 42 := by rw [List.length_append]; omega
                            have hgd := guardPair
                            clear hW5 s1 s2 z1 z2 z3 z4 y1 y2 y3 hln hln2 hln3 HST
                            by_cases hmk : m = k
                            · have HX := Lib.hid (os hmk)
                              have hne := fun w => neqPair w m k k m false (by subst hmk; simp)
                              clear os on oy HF2
                              go_quiet (fail)
                              go_wp2_with fail
                              go_roundw
                              case rel => exact ⟨k + 1, by omega, by go_num, by rw [HX.out]; exact P0.drewN _⟩
                              case measure => simp [intOf]; omega
                            · have hne := fun w => neqPair w m k k m true (by
                                have : ¬ ((m : Int) = k) := by omega
                                simp [this])
                              by_cases hml : m < k
                              · have hmi : (m : Int) < (k : Int) := by omega
                                have HX := Lib.hid (oy hmk HCN.out hlt2 (by omega))
                                clear os on oy HF2 hmk
                                go_quiet (fail)
                                go_wp2_with (at_builtin; refine wpList_append_own_at _ rfl _ _ 70 rfl (w4.heap.size + 1) 77 i0 _ 2 16 Tryz.underlying70 ihi ihz0 ihz1 ihz2 rfl (by decide) _ _ _ rfl ((P0.drewN _).alloc _).own ⟨W5.heap.size, 0, none⟩ 1 1 [.int .i64 m, .int .i64 k] rfl rfl (news_new _ _ _ (by simp)) (by simp [Value.oneCell']) (by simp only [maxLen]; omega) (by omega) (by have := P0.l4; simp; omega) ?_; intro v1 w1 hown1 hgrow1 _ hat1)
                                go_roundw
                                case rel => exact ⟨k + 1, by omega, by go_num, by rw [HX.out, ← List.append_assoc]; exact ((P0.drewN _).alloc _).app ((m : Int), (k : Int)) hown1 hgrow1 hat1⟩
                                case measure => simp [intOf]; omega
                              · have hmi : ¬ (m : Int) < (k : Int) := by omega
                                by_cases hs2 : hs[k].1 * ((qs[m]'(by rw [Q1.out]; exact hlm)) + 1) < hs[m].1 * (qs[k]'(by rw [Q1.out]; exact hlk))
                                · have HX := Lib.hid (oy hmk HCN.out hlt2 (.inl hs2))
                                  have HG2 : ∀ W, Hid (Calls Tryz.prog 119 #[.int .i64 hs[m].1, .int .i64 ((qs[m]'(by rw [Q1.out]; exact hlm)) + 1), .int .i64 hs[k].1, .int .i64 (qs[k]'(by rw [Q1.out]; exact hlk))] W fun e w' => e = .returned (.bool true) ∧ w' = W) := fun W => by
                                    have h := HF2 W
                                    rw [decide_eq_true hs2] at h
                                    exact h
                                  clear os on oy HF2 hmk hs2
                                  go_quiet ((first | (go_at_call 119; exact Calls.quiet_of_same (HG2 _).out)))
                                  go_wp2_with (at_builtin; refine wpList_append_own_at _ rfl _ _ 70 rfl (w4.heap.size + 1) 77 i0 _ 2 16 Tryz.underlying70 ihi ihz0 ihz1 ihz2 rfl (by decide) _ _ _ rfl ((P0.drewN _).alloc _).own ⟨W5.heap.size, 0, none⟩ 1 1 [.int .i64 m, .int .i64 k] rfl rfl (news_new _ _ _ (by simp)) (by simp [Value.oneCell']) (by simp only [maxLen]; omega) (by omega) (by have := P0.l4; simp; omega) ?_; intro v1 w1 hown1 hgrow1 _ hat1)
                                  go_roundw
                                  case rel => exact ⟨k + 1, by omega, by go_num, by rw [HX.out, ← List.append_assoc]; exact ((P0.drewN _).alloc _).app ((m : Int), (k : Int)) hown1 hgrow1 hat1⟩
                                  case measure => simp [intOf]; omega
                                · have HX := Lib.hid (on (by omega))
                                  have HG2 : ∀ W, Hid (Calls Tryz.prog 119 #[.int .i64 hs[m].1, .int .i64 ((qs[m]'(by rw [Q1.out]; exact hlm)) + 1), .int .i64 hs[k].1, .int .i64 (qs[k]'(by rw [Q1.out]; exact hlk))] W fun e w' => e = .returned (.bool false) ∧ w' = W) := fun W => by
                                    have h := HF2 W
                                    rw [decide_eq_false hs2] at h
                                    exact h
                                  clear os on oy HF2 hmk hs2
                                  go_quiet ((first | (go_at_call 119; exact Calls.quiet_of_same (HG2 _).out)))
                                  go_wp2_with fail
                                  go_roundw
                                  case rel => exact ⟨k + 1, by omega, by go_num, by rw [HX.out]; exact P0.drewN _⟩
                                  case measure => simp [intOf]; omega
                      · have HC := HC0 false (decide_eq_false hcan)
                        have HX := Lib.hid (oc hcan)
                        clear HC0 hcan oc ol of1 os on oy HF1 HF2
                        go_wp2_with fail
                        go_quiet ((first | (go_at_call 87; exact Calls.quiet_of (HC _ _).out)))
                        go_wp2_with fail
                        go_roundw
                        case rel => exact ⟨k + 1, by omega, by go_num, by rw [HX.out]; exact (HST.out.alloc _).drewN _⟩
                        case measure => simp [intOf]; omega
                    · obtain rfl : k = hs.length := by omega
                      have HST := Lib.hid hst
                      clear hst hlk
                      go_wp2_with fail
                      go_roundw
                      case rel => exact ⟨m + 1, by omega, by go_num, by rw [outRows_succ]; exact HST.out.own, HST.out.below, HST.out.fn, HST.out.l4⟩
                      case measure => simp [intOf]; omega
                · obtain rfl : m = hs.length := by omega
                  have HOW := Lib.hid hown
                  clear hown hlm
                  go_wp2_with fail
                  go_ret2
                  rw [HRC.out _ HV.out]
                  exact ⟨_, rfl, HOW.out.base_ (Nat.le_trans hbw4.size (Nat.le_succ _)), hbwm⟩
      · exact absurd H0.out hne
    · have hc : outCode p hs qs = sharesCode p hs.length qs := by unfold outCode; rw [if_pos h0, if_neg h1]
      have hL : outL p hs qs = [] := by unfold outL; rw [hc, if_neg h1]
      rw [hc, hL]
      have h1' : (sharesCode p hs.length qs == 0) = false := by simpa using h1
      have h1'' : (sharesCode p hs.length qs != 0) = true := by simpa using h1
      have HSH := fun g A c L w hd hr => Lib.hid (shares_any g p A hs.length c [0, 0, 0, 0, 0, 0] L cl qs w hd hr hql)
      clear h0 h1 hc hL
      go_enter Tryz.func29, Tryz.ntmps29
      go_wp2_with fail
      refine (HO _ (by go_grown)).out.mono ?_
      rintro e w1 (⟨_, g, rfl, hg, hd, hb1⟩ | ⟨hne, _⟩)
      · have hbw : Below w.heap.size w w1 := Below.trans (by go_grown) (hb1.mono (by simp))
        go_wp2_with fail
        refine (HSH g _ _ _ w1 hd (hq.next hbw)).out.mono ?_
        rintro e w2 ⟨rfl, hb2⟩
        have hbw2 := hbw.trans (hb2.mono hbw.size)
        go_wp2_with fail
        go_ret2
        exact ⟨_, rfl, World.ownsRow_nil _ _ _ _, hbw2⟩
      · exact absurd H0.out hne
  · have hc : outCode p hs qs = ckBill p hs := by unfold outCode; rw [if_neg h0]
    have hL : outL p hs qs = [] := by unfold outL; rw [hc, if_neg h0]
    rw [hc, hL]
    have h0' : (ckBill p hs == 0) = false := by simpa using h0
    have h0'' : (ckBill p hs != 0) = true := by simpa using h0
    have H0 := Lib.hid h0
    clear h0 hc hL
    go_enter Tryz.func29, Tryz.ntmps29
    go_wp2_with fail
    refine (HO _ (by go_grown)).out.mono ?_
    rintro e w1 (⟨hz, _⟩ | ⟨_, rfl, hb1⟩)
    · exact absurd hz H0.out
    · have hbw : Below w.heap.size w w1 := Below.trans (by go_grown) (hb1.mono (by simp))
      go_wp2_with fail
      go_ret2
      exact ⟨_, rfl, World.ownsRow_nil _ _ _ _, hbw⟩
end Go.Proofs.YtfojjecnmfkcfaaGreat
