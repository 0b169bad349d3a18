/- Accounts: sums up to a day, rising days, the error of an account, and of a day. -/
import Derived.Test.YtfojjecnmfkcfaaEvery
import Derived.Test.YtfojjecnmfkcfaaSum
namespace Go.Proofs.Ytfojjecnmfkcfaa
open Go.RowKit
set_option linter.unusedVariables false
def uptoF (l : List (Int × Int)) (d : Int) : Int := ((l.filter fun e => decide (e.1 ≤ d)).map (·.2)).sum
theorem uptoF_succ (l : List (Int × Int)) (d : Int) (k : Nat) (h : k < l.length) : uptoF (l.take (k + 1)) d = uptoF (l.take k) d + (if l[k].1 ≤ d then l[k].2 else 0) := by
  unfold uptoF
  rw [List.take_succ_eq_append_getElem h, List.filter_append, List.map_append, List.sum_append]
  by_cases hd : l[k].1 ≤ d <;> simp [hd]
theorem uptoF_bd {l : List (Int × Int)} (hp : ∀ e ∈ l, 0 ≤ e.2 ∧ e.2 ≤ 10000) (d : Int) : 0 ≤ uptoF l d ∧ uptoF l d ≤ 10000 * l.length := by
  unfold uptoF
  induction l with
  | nil => simp
  | cons a l ih =>
    have h1 := ih (fun e he => hp e (List.mem_cons_of_mem _ he))
    have h2 := hp a List.mem_cons_self
    by_cases hd : a.1 ≤ d
    · rw [List.filter_cons_of_pos (by simpa using hd)]
      simp only [List.map_cons, List.sum_cons, List.length_cons]
      omega
    · rw [List.filter_cons_of_neg (by simpa using hd)]
      simp only [List.length_cons]
      omega
set_option maxHeartbeats 400000 in
theorem upto_any (A : Option Addr) (c : Nat) (l : List (Int × Int)) (d : Int) (w : World) (hr : Rd w w.heap.size A (pairs l)) (hl : l.length ≤ 100) (hp : ∀ e ∈ l, 0 ≤ e.2 ∧ e.2 ≤ 10000) :
    Calls Try.prog 145 #[.slice A l.length c, .int .i64 d] w fun e w' => e = .returned (.int .i64 (uptoF l d)) ∧ Below w.heap.size w w' := by
  have hbd : ∀ k, 0 ≤ uptoF (l.take k) d ∧ uptoF (l.take k) d ≤ 1000000 := fun k => by
    have := uptoF_bd (l := l.take k) (fun e he => hp e (List.mem_of_mem_take he)) d
    rw [List.length_take] at this
    omega
  go_enter Try.func145, Try.ntmps145
  go_wp2_with fail
  go_loopw [5, 7, 10] (fun o _ i wr => ∃ k : Nat, k ≤ l.length ∧ i = .int .i64 k ∧ o = .int .i64 (uptoF (l.take k) d) ∧ Below w.heap.size w wr) (fun _ _ i _ => l.length - (intOf i).toNat)
  case atStart => exact ⟨0, by omega, rfl, by simp [uptoF], Below.refl _ _⟩
  case round =>
    obtain ⟨k, hk, rfl, rfl, hbw⟩ := hrel
    by_cases hlt : k < l.length
    · obtain ⟨b, off, rfl, hbb, hc1, hc2⟩ := (hr.below hbw).pair hlt
      have hbs := hbw.size
      obtain ⟨u1, u2⟩ := hp l[k] (List.getElem_mem _)
      obtain ⟨v1, v2⟩ := hbd k
      have hS := uptoF_succ l d k hlt
      by_cases hd : l[k].1 ≤ d
      · rw [if_pos hd] at hS
        have HS := Lib.hid hS
        clear hS hbd
        go_wp2_with fail
        refine (sum2_any (by simp) _ _ (by omega) (by omega) (by omega) (by omega)).mono ?_
        rintro e w1 ⟨rfl, rfl⟩
        go_wp2_with fail
        go_roundw
        case rel => exact ⟨k + 1, by omega, by go_num, by rw [HS.out], (hbw.alloc hbs _).alloc (by simp; omega) _⟩
        case measure => simp [intOf]; omega
      · rw [if_neg hd, Int.add_zero] at hS
        have HS := Lib.hid hS
        clear hS hbd
        go_wp2_with fail
        go_roundw
        case rel => exact ⟨k + 1, by omega, by go_num, by rw [HS.out], hbw.alloc hbs _⟩
        case measure => simp [intOf]; omega
    · have hf : uptoF l d = uptoF (l.take k) d := by rw [List.take_of_length_le (by omega)]
      have HF := Lib.hid hf
      clear hf hbd
      go_wp2_with fail
      go_ret
      exact ⟨ret_int HF.out.symm, hbw⟩
def dayF : Value := .func (.func 125) #[] #[]
theorem day_any (u p : Int) (w : World) : Calls Try.prog 125 #[.agg #[.int .i64 u, .int .i64 p]] w fun e w' => e = .returned (.int .i64 u) ∧ Below w.heap.size w w' := by
  go_enter Try.func125, Try.ntmps125
  go_wp2_with fail
  go_ret
  exact ⟨rfl, by go_grown⟩
/-- A slice without elements is nil, or has an address. -/
def Ok0 (A : Option Addr) (c : Nat) : Prop := (A = none ∧ c = 0) ∨ ∃ b off, A = some ⟨b, off, none⟩
set_option maxHeartbeats 400000 in
theorem risingEntry_two (A : Option Addr) (c : Nat) (t : List (Int × Int)) (by_ : Int) (w : World) (hr : Rd w w.heap.size A (pairs t)) (hl : t.length ≤ 1000) (hc : t.length ≤ c) (h2 : 2 ≤ t.length)
    (hu : ∀ s ∈ t, -1000000000000 ≤ s.1 ∧ s.1 ≤ 1000000000000) (hb0 : 0 ≤ by_) (hb1 : by_ ≤ 1000) :
    Calls Try.prog 124 #[.slice A t.length c, dayF, .int .i64 by_] w fun e w' => e = .returned (.bool (risesB by_ (t.map (·.1)))) ∧ Below w.heap.size w w' := by
  unfold dayF
  obtain ⟨b, off, rfl, hbb, _, _⟩ := hr.pair (k := 0) (by omega)
  have hc1 : ¬ c = 1 := by omega
  have hm : ¬ t.length < 1 := by omega
  go_enter Try.func124, Try.ntmps124
  go_wp2_with fail
  go_loopw [7, 14] (fun _ i wr => ∃ k : Nat, k + 1 ≤ t.length ∧ i = .int .i64 k ∧ risesB by_ ((t.map (·.1)).take (k + 1)) = true ∧ Below w.heap.size w wr) (fun _ i _ => t.length - (intOf i).toNat)
  case atStart => exact ⟨0, by omega, rfl, rises_one _ _, Below.refl _ _⟩
  case round =>
    obtain ⟨k, hk, rfl, hri, hbw⟩ := hrel
    have Hri := Lib.hid hri
    clear hri
    by_cases hlt : k + 1 < t.length
    · obtain ⟨hc1, hc2⟩ := (hr.below hbw).pair' (k := k) (by omega)
      obtain ⟨hc3, hc4⟩ := (hr.below hbw).pair' hlt
      have hbr : b < wr.heap.size := Nat.lt_of_lt_of_le hbb hbw.size
      have hk1 : (k : Int) + 1 < t.length := by omega
      have hk0 : (k : Int) < t.length := by omega
      obtain ⟨u1, u2⟩ := hu t[k] (List.getElem_mem _)
      have g0 : 0 ≤ by_ := hb0
      have hS := rises_snoc by_ (t.map (·.1)) k (by simpa using hlt)
      have hN := rises_no by_ (t.map (·.1)) k (by simpa using hlt)
      simp only [List.getElem_map] at hS hN
      rw [Hri.out, Bool.true_and] at hS
      have HS := Lib.hid hS
      have HN := Lib.hid hN
      clear hS hN
      go_wp2_with fail
      have q1 : IntKind.i64.wrap ((k : Int) + 1) = (k : Int) + 1 := IntWalk.i64_in _ (by omega)
      have q2 : (0 : Int) ≤ (k : Int) + 1 := by omega
      have q3 : ((k : Int) + 1).toNat = k + 1 := by omega
      have q4 : IntKind.i64.wrap (t[k].1 + by_) = t[k].1 + by_ := IntWalk.i64_in _ (by omega)
      go_region_held3 (fun w' => w'.cell? ⟨b, off + k * 2, none⟩ = some (.int .i64 t[k].1) ∧ w'.cell? ⟨b, off + k * 2 + 1, none⟩ = some (.int .i64 t[k].2) ∧ w'.cell? ⟨b, off + (k + 1) * 2, none⟩ = some (.int .i64 t[k + 1].1) ∧ w'.cell? ⟨b, off + (k + 1) * 2 + 1, none⟩ = some (.int .i64 t[k + 1].2) ∧ Below wr.heap.size wr w') (first | exact ⟨hc1, hc2, hc3, hc4, (Below.refl _ _).drew⟩ | exact keep4 hbr (by assumption) (by assumption))
        (first | (go_at_call 125; refine (day_any _ _ _).mono ?_; rintro e w' ⟨rfl, hb⟩))
      clear q1 q2 q3
      all_goals go_wp2_with fail
      · have hq : t[k + 1].1 < t[k].1 + by_ := by assumption
        clear q4
        go_ret
        exact ⟨ret_bool (HN.out hq).symm, hbw.trans (Below.mono (and5 (by assumption)) hbw.size)⟩
      · have hq : t[k].1 + by_ ≤ t[k + 1].1 := by assumption
        clear q4
        go_roundw
        case rel => exact ⟨k + 1, by omega, by go_num, by rw [HS.out]; simpa using hq, hbw.trans (Below.mono (and5 (by assumption)) hbw.size)⟩
        case measure => simp [intOf]; omega
    · have hfin : Hid (risesB by_ (t.map (·.1)) = true) := by
        have := Hri.out
        rwa [List.take_of_length_le (by simp; omega)] at this
      go_wp2_with fail
      go_ret
      exact ⟨ret_bool hfin.out.symm, hbw⟩
theorem risingEntry_few (A : Option Addr) (c n : Nat) (by_ : Int) (w : World) (hA : Ok0 A c) (hc : n ≤ c) (hn : n = 0 ∨ n = 1) :
    Calls Try.prog 124 #[.slice A n c, dayF, .int .i64 by_] w fun e w' => e = .returned (.bool true) ∧ Below w.heap.size w w' := by
  unfold dayF
  rcases hA with ⟨rfl, rfl⟩ | ⟨b, off, rfl⟩
  · obtain rfl : n = 0 := by omega
    go_enter Try.func124, Try.ntmps124
    go_wp2_with fail
    go_loop [14] (fun i => i = .int .i64 0) (fun _ => 0)
    case atStart => rfl
    case round =>
      subst hrel
      go_wp2_with fail
      go_ret
      exact ⟨rfl, Below.refl _ _⟩
  · rcases hn with rfl | rfl
    · by_cases h0 : c = 0
      · subst h0
        go_enter Try.func124, Try.ntmps124
        go_wp2_with fail
        go_loop [14] (fun i => i = .int .i64 0) (fun _ => 0)
        case atStart => rfl
        case round =>
          subst hrel
          go_wp2_with fail
          go_ret
          exact ⟨rfl, Below.refl _ _⟩
      · go_enter Try.func124, Try.ntmps124
        go_wp2_with fail
        go_loop [14] (fun i => i = .int .i64 0) (fun _ => 0)
        case atStart => rfl
        case round =>
          subst hrel
          go_wp2_with fail
          go_ret
          exact ⟨rfl, Below.refl _ _⟩
    · by_cases hc1 : c = 1
      · subst hc1
        go_enter Try.func124, Try.ntmps124
        go_wp2_with fail
        go_loop [14] (fun i => i = .int .i64 0) (fun _ => 0)
        case atStart => rfl
        case round =>
          subst hrel
          go_wp2_with fail
          go_ret
          exact ⟨rfl, Below.refl _ _⟩
      · go_enter Try.func124, Try.ntmps124
        go_wp2_with fail
        go_loop [14] (fun i => i = .int .i64 0) (fun _ => 0)
        case atStart => rfl
        case round =>
          subst hrel
          go_wp2_with fail
          go_ret
          exact ⟨rfl, Below.refl _ _⟩
/-- A slice of entries that lies somewhere. -/
structure Ent (w : World) (A : Option Addr) (c : Nat) (t : List (Int × Int)) : Prop where
  rd : Rd w w.heap.size A (pairs t)
  cap : t.length ≤ c
  ok : Ok0 A c
theorem Ent.next {w w' : World} {A : Option Addr} {c : Nat} {t : List (Int × Int)} (h : Ent w A c t) (hb : Below w.heap.size w w') : Ent w' A c t := ⟨h.rd.next hb, h.cap, h.ok⟩
theorem risingEntry_any (A : Option Addr) (c : Nat) (t : List (Int × Int)) (w : World) (hr : Ent w A c t) (hl : t.length ≤ 1000) (hu : t.any entryOkP = false) :
    Calls Try.prog 124 #[.slice A t.length c, dayF, .int .i64 0] w fun e w' => e = .returned (.bool (risesB 0 (t.map (·.1)))) ∧ Below w.heap.size w w' := by
  by_cases h : 2 ≤ t.length
  · refine risingEntry_two A c t 0 w hr.rd hl hr.cap h ?_ (by omega) (by omega)
    intro s hs
    have := List.any_eq_false.1 hu s hs
    simp only [entryOkP, entryOk, Bool.not_eq_true', Bool.not_eq_false, Bool.and_eq_true, inB_iff] at this
    omega
  · have e : risesB 0 (t.map (·.1)) = true := by
      match t, h with
      | [], _ => rfl
      | [_], _ => rfl
      | _ :: _ :: _, h => simp at h
    rw [e]
    exact risingEntry_few A c t.length 0 w hr.ok hr.cap (by omega)
def accBad (cs ps : List (Int × Int)) (g l : Int) : Bool := !inB g 0 60 || (!inB l 0 100 || (cs.any entryOkP || ps.any entryOkP))
def ckAcc (cs ps : List (Int × Int)) (g l : Int) : Int :=
  if cs.length > 8 ∨ ps.length > 8 then 3 else if accBad cs ps g l = true then 4 else if (risesB 0 (cs.map (·.1)) && risesB 0 (ps.map (·.1))) = true then 0 else 6
theorem entries_all {t : List (Int × Int)} (h : t.any entryOkP = false) : ∀ s ∈ t, 0 ≤ s.1 ∧ s.1 ≤ 400 ∧ 1 ≤ s.2 ∧ s.2 ≤ 10000 := by
  intro s hs
  have := List.any_eq_false.1 h s hs
  simp only [entryOkP, entryOk, Bool.not_eq_true', Bool.not_eq_false, Bool.and_eq_true, inB_iff] at this
  omega
structure AccOk (cs ps : List (Int × Int)) (g l : Int) : Prop where
  clen : cs.length ≤ 8
  plen : ps.length ≤ 8
  grace : 0 ≤ g ∧ g ≤ 60
  late : 0 ≤ l ∧ l ≤ 100
  call : ∀ s ∈ cs, 0 ≤ s.1 ∧ s.1 ≤ 400 ∧ 1 ≤ s.2 ∧ s.2 ≤ 10000
  pall : ∀ s ∈ ps, 0 ≤ s.1 ∧ s.1 ≤ 400 ∧ 1 ≤ s.2 ∧ s.2 ≤ 10000
  crise : risesB 0 (cs.map (·.1)) = true
  prise : risesB 0 (ps.map (·.1)) = true
theorem ckAcc_ok {cs ps : List (Int × Int)} {g l : Int} (h : ckAcc cs ps g l = 0) : AccOk cs ps g l := by
  unfold ckAcc at h
  split at h
  · omega
  · split at h
    · omega
    · split at h
      · rename_i h1 h2 h3
        have h2' : accBad cs ps g l = false := by simpa using h2
        unfold accBad at h2'
        simp only [Bool.or_eq_false_iff, Bool.not_eq_false', inB_iff] at h2'
        obtain ⟨a1, a2, a3, a4⟩ := h2'
        simp only [Bool.and_eq_true] at h3
        exact ⟨by omega, by omega, a1, a2, entries_all a3, entries_all a4, h3.1, h3.2⟩
      · omega
/-- An account as a value. -/
def accV (A : Option Addr) (n c : Nat) (B : Option Addr) (m d : Nat) (g l : Int) : Value := .agg #[.slice A n c, .slice B m d, .int .i64 g, .int .i64 l]
set_option maxHeartbeats 1000000 in
theorem CheckAccount_any (A B : Option Addr) (c d : Nat) (cs ps : List (Int × Int)) (g l : Int) (w : World) (hA : Ent w A c cs) (hB : Ent w B d ps) (hl : cs.length ≤ 1000) (hl2 : ps.length ≤ 1000) :
    Calls Try.prog 61 #[accV A cs.length c B ps.length d g l] w fun e w' => e = .returned (.int .i64 (ckAcc cs ps g l)) ∧ Below w.heap.size w w' := by
  unfold accV
  have HC := fun w1 (hb : Below w.heap.size w w1) => Lib.hid (everyEntry_any A c cs w1 (hA.next hb).rd hl)
  have HP := fun w1 (hb : Below w.heap.size w w1) => Lib.hid (everyEntry_any B d ps w1 (hB.next hb).rd hl2)
  unfold F_Entry at HC HP
  by_cases h8 : cs.length > 8 ∨ ps.length > 8
  · have HF : Hid (ckAcc cs ps g l = 3) := by unfold ckAcc; rw [if_pos h8]; rfl
    by_cases h81 : cs.length > 8
    · have h1 : (8 : Int) < cs.length := by omega
      clear h8 h81
      go_enter Try.func61, Try.ntmps61
      go_wp2_with fail
      go_ret
      exact ⟨ret_int HF.out.symm, by go_grown⟩
    · have h1 : ¬ (8 : Int) < cs.length := by omega
      have h2 : (8 : Int) < ps.length := by omega
      clear h8 h81
      go_enter Try.func61, Try.ntmps61
      go_wp2_with fail
      go_ret
      exact ⟨ret_int HF.out.symm, by go_grown⟩
  · have h1 : ¬ (8 : Int) < cs.length := by omega
    have h2 : ¬ (8 : Int) < ps.length := by omega
    by_cases b1 : inB g 0 60 = true
    · by_cases b2 : inB l 0 100 = true
      · by_cases b3 : cs.any entryOkP = true
        · have HF : Hid (ckAcc cs ps g l = 4) := by unfold ckAcc; rw [if_neg h8, if_pos (by unfold accBad; rw [b3]; simp)]; rfl
          clear h8
          go_enter Try.func61, Try.ntmps61
          go_wp2_with fail
          refine (in_any _ _ _ _).mono ?_
          rintro e w1 ⟨rfl, rfl⟩
          go_wp2_with fail
          refine (in_any _ _ _ _).mono ?_
          rintro e w1 ⟨rfl, rfl⟩
          go_wp2_with fail
          refine (HC _ (by go_grown)).out.mono ?_
          rintro e w1 ⟨rfl, hb1⟩
          have hbw : Below w.heap.size w w1 := Below.trans (by go_grown) (hb1.mono (by simp))
          go_wp2_with fail
          go_ret
          exact ⟨ret_int HF.out.symm, hbw⟩
        · have b3' : cs.any entryOkP = false := by simpa using b3
          clear b3
          by_cases b4 : ps.any entryOkP = true
          · have HF : Hid (ckAcc cs ps g l = 4) := by unfold ckAcc; rw [if_neg h8, if_pos (by unfold accBad; rw [b4]; simp)]; rfl
            clear h8
            go_enter Try.func61, Try.ntmps61
            go_wp2_with fail
            refine (in_any _ _ _ _).mono ?_
            rintro e w1 ⟨rfl, rfl⟩
            go_wp2_with fail
            refine (in_any _ _ _ _).mono ?_
            rintro e w1 ⟨rfl, rfl⟩
            go_wp2_with fail
            refine (HC _ (by go_grown)).out.mono ?_
            rintro e w1 ⟨rfl, hb1⟩
            have hbw : Below w.heap.size w w1 := Below.trans (by go_grown) (hb1.mono (by simp))
            have k0 := hb1.cell (p := ⟨w.heap.size, 0, none⟩) (by simp)
            have k1 := hb1.cell (p := ⟨w.heap.size, 1, none⟩) (by simp)
            simp at k0 k1
            have hz1 := hb1.size
            simp at hz1
            go_wp2_with fail
            refine (HP _ hbw).out.mono ?_
            rintro e w2 ⟨rfl, hb2⟩
            have hbw2 := hbw.trans (hb2.mono hbw.size)
            have m0 := (hb2.cell (p := ⟨w.heap.size, 0, none⟩) (by show w.heap.size < w1.heap.size; omega)).trans k0
            have m1 := (hb2.cell (p := ⟨w.heap.size, 1, none⟩) (by show w.heap.size < w1.heap.size; omega)).trans k1
            have hz2 := hb2.size
            go_wp2_with fail
            go_ret
            exact ⟨ret_int HF.out.symm, hbw2⟩
          · have b4' : ps.any entryOkP = false := by simpa using b4
            clear b4
            have hbad : ¬ accBad cs ps g l = true := by unfold accBad; rw [b1, b2, b3', b4']; simp
            have HRC := fun w1 (hb : Below w.heap.size w w1) => Lib.hid (risingEntry_any A c cs w1 (hA.next hb) hl b3')
            have HRP := fun w1 (hb : Below w.heap.size w w1) => Lib.hid (risingEntry_any B d ps w1 (hB.next hb) hl2 b4')
            unfold dayF at HRC HRP
            by_cases r1 : risesB 0 (cs.map (·.1)) = true
            · by_cases r2 : risesB 0 (ps.map (·.1)) = true
              · have HF : Hid (ckAcc cs ps g l = 0) := by unfold ckAcc; rw [if_neg h8, if_neg hbad, if_pos (by rw [r1, r2]; rfl)]; rfl
                clear h8 hbad
                go_enter Try.func61, Try.ntmps61
                go_wp2_with fail
                refine (in_any _ _ _ _).mono ?_
                rintro e w1 ⟨rfl, rfl⟩
                go_wp2_with fail
                refine (in_any _ _ _ _).mono ?_
                rintro e w1 ⟨rfl, rfl⟩
                go_wp2_with fail
                refine (HC _ (by go_grown)).out.mono ?_
                rintro e w1 ⟨rfl, hb1⟩
                have hbw : Below w.heap.size w w1 := Below.trans (by go_grown) (hb1.mono (by simp))
                have k0 := hb1.cell (p := ⟨w.heap.size, 0, none⟩) (by simp)
                have k1 := hb1.cell (p := ⟨w.heap.size, 1, none⟩) (by simp)
                simp at k0 k1
                have hz1 := hb1.size
                simp at hz1
                go_wp2_with fail
                refine (HP _ hbw).out.mono ?_
                rintro e w2 ⟨rfl, hb2⟩
                have hbw2 := hbw.trans (hb2.mono hbw.size)
                have m0 := (hb2.cell (p := ⟨w.heap.size, 0, none⟩) (by show w.heap.size < w1.heap.size; omega)).trans k0
                have m1 := (hb2.cell (p := ⟨w.heap.size, 1, none⟩) (by show w.heap.size < w1.heap.size; omega)).trans k1
                have hz2 := hb2.size
                go_wp2_with fail
                refine (HRC _ hbw2).out.mono ?_
                rintro e w3 ⟨rfl, hb3⟩
                have hbw3 := hbw2.trans (hb3.mono hbw2.size)
                have n1 := (hb3.cell (p := ⟨w.heap.size, 1, none⟩) (by show w.heap.size < w2.heap.size; omega)).trans m1
                go_wp2_with fail
                refine (HRP _ hbw3).out.mono ?_
                rintro e w4 ⟨rfl, hb4⟩
                have hbw4 := hbw3.trans (hb4.mono hbw3.size)
                go_wp2_with fail
                go_ret
                exact ⟨ret_int HF.out.symm, hbw4⟩
              · have r2' : risesB 0 (ps.map (·.1)) = false := by simpa using r2
                have HF : Hid (ckAcc cs ps g l = 6) := by unfold ckAcc; rw [if_neg h8, if_neg hbad, if_neg (by rw [r2']; simp)]; rfl
                clear h8 hbad r2
                go_enter Try.func61, Try.ntmps61
                go_wp2_with fail
                refine (in_any _ _ _ _).mono ?_
                rintro e w1 ⟨rfl, rfl⟩
                go_wp2_with fail
                refine (in_any _ _ _ _).mono ?_
                rintro e w1 ⟨rfl, rfl⟩
                go_wp2_with fail
                refine (HC _ (by go_grown)).out.mono ?_
                rintro e w1 ⟨rfl, hb1⟩
                have hbw : Below w.heap.size w w1 := Below.trans (by go_grown) (hb1.mono (by simp))
                have k0 := hb1.cell (p := ⟨w.heap.size, 0, none⟩) (by simp)
                have k1 := hb1.cell (p := ⟨w.heap.size, 1, none⟩) (by simp)
                simp at k0 k1
                have hz1 := hb1.size
                simp at hz1
                go_wp2_with fail
                refine (HP _ hbw).out.mono ?_
                rintro e w2 ⟨rfl, hb2⟩
                have hbw2 := hbw.trans (hb2.mono hbw.size)
                have m0 := (hb2.cell (p := ⟨w.heap.size, 0, none⟩) (by show w.heap.size < w1.heap.size; omega)).trans k0
                have m1 := (hb2.cell (p := ⟨w.heap.size, 1, none⟩) (by show w.heap.size < w1.heap.size; omega)).trans k1
                have hz2 := hb2.size
                go_wp2_with fail
                refine (HRC _ hbw2).out.mono ?_
                rintro e w3 ⟨rfl, hb3⟩
                have hbw3 := hbw2.trans (hb3.mono hbw2.size)
                have n1 := (hb3.cell (p := ⟨w.heap.size, 1, none⟩) (by show w.heap.size < w2.heap.size; omega)).trans m1
                go_wp2_with fail
                refine (HRP _ hbw3).out.mono ?_
                rintro e w4 ⟨rfl, hb4⟩
                have hbw4 := hbw3.trans (hb4.mono hbw3.size)
                go_wp2_with fail
                go_ret
                exact ⟨ret_int HF.out.symm, hbw4⟩
            · have r1' : risesB 0 (cs.map (·.1)) = false := by simpa using r1
              have HF : Hid (ckAcc cs ps g l = 6) := by unfold ckAcc; rw [if_neg h8, if_neg hbad, if_neg (by rw [r1']; simp)]; rfl
              clear h8 hbad r1
              go_enter Try.func61, Try.ntmps61
              go_wp2_with fail
              refine (in_any _ _ _ _).mono ?_
              rintro e w1 ⟨rfl, rfl⟩
              go_wp2_with fail
              refine (in_any _ _ _ _).mono ?_
              rintro e w1 ⟨rfl, rfl⟩
              go_wp2_with fail
              refine (HC _ (by go_grown)).out.mono ?_
              rintro e w1 ⟨rfl, hb1⟩
              have hbw : Below w.heap.size w w1 := Below.trans (by go_grown) (hb1.mono (by simp))
              have k0 := hb1.cell (p := ⟨w.heap.size, 0, none⟩) (by simp)
              have k1 := hb1.cell (p := ⟨w.heap.size, 1, none⟩) (by simp)
              simp at k0 k1
              have hz1 := hb1.size
              simp at hz1
              go_wp2_with fail
              refine (HP _ hbw).out.mono ?_
              rintro e w2 ⟨rfl, hb2⟩
              have hbw2 := hbw.trans (hb2.mono hbw.size)
              have m0 := (hb2.cell (p := ⟨w.heap.size, 0, none⟩) (by show w.heap.size < w1.heap.size; omega)).trans k0
              have m1 := (hb2.cell (p := ⟨w.heap.size, 1, none⟩) (by show w.heap.size < w1.heap.size; omega)).trans k1
              have hz2 := hb2.size
              go_wp2_with fail
              refine (HRC _ hbw2).out.mono ?_
              rintro e w3 ⟨rfl, hb3⟩
              have hbw3 := hbw2.trans (hb3.mono hbw2.size)
              have n1 := (hb3.cell (p := ⟨w.heap.size, 1, none⟩) (by show w.heap.size < w2.heap.size; omega)).trans m1
              go_wp2_with fail
              go_ret
              exact ⟨ret_int HF.out.symm, hbw3⟩
      · have b2' : inB l 0 100 = false := by simpa using b2
        have HF : Hid (ckAcc cs ps g l = 4) := by unfold ckAcc; rw [if_neg h8, if_pos (by unfold accBad; rw [b2']; simp)]; rfl
        clear h8 b2
        go_enter Try.func61, Try.ntmps61
        go_wp2_with fail
        refine (in_any _ _ _ _).mono ?_
        rintro e w1 ⟨rfl, rfl⟩
        go_wp2_with fail
        refine (in_any _ _ _ _).mono ?_
        rintro e w1 ⟨rfl, rfl⟩
        go_wp2_with fail
        go_ret
        exact ⟨ret_int HF.out.symm, by go_grown⟩
    · have b1' : inB g 0 60 = false := by simpa using b1
      have HF : Hid (ckAcc cs ps g l = 4) := by unfold ckAcc; rw [if_neg h8, if_pos (by unfold accBad; rw [b1']; simp)]; rfl
      clear h8 b1
      go_enter Try.func61, Try.ntmps61
      go_wp2_with fail
      refine (in_any _ _ _ _).mono ?_
      rintro e w1 ⟨rfl, rfl⟩
      go_wp2_with fail
      go_ret
      exact ⟨ret_int HF.out.symm, by go_grown⟩
theorem accBox (w : World) (a b c d : Value) (t : TypeId) : (w.alloc (.cells #[a, b, c, d] t)).cell? ⟨w.heap.size, 0, none⟩ = some a ∧ (w.alloc (.cells #[a, b, c, d] t)).cell? ⟨w.heap.size, 1, none⟩ = some b ∧ (w.alloc (.cells #[a, b, c, d] t)).cell? ⟨w.heap.size, 2, none⟩ = some c ∧ (w.alloc (.cells #[a, b, c, d] t)).cell? ⟨w.heap.size, 3, none⟩ = some d := by
  refine ⟨?_, ?_, ?_, ?_⟩ <;> (rw [World.cell?_alloc_new]; rfl)
def datedCode (cs ps : List (Int × Int)) (g l day : Int) : Int := if ckAcc cs ps g l = 0 then (if inB day 0 400 then 0 else 4) else ckAcc cs ps g l
set_option maxHeartbeats 400000 in
theorem dated_any (A B : Option Addr) (c d : Nat) (cs ps : List (Int × Int)) (g l day : Int) (w : World) (hA : Ent w A c cs) (hB : Ent w B d ps) (hl : cs.length ≤ 1000) (hl2 : ps.length ≤ 1000) :
    Calls Try.prog 111 #[accV A cs.length c B ps.length d g l, .int .i64 day] w fun e w' => e = .returned (.int .i64 (datedCode cs ps g l day)) ∧ Below w.heap.size w w' := by
  have HC := fun w1 (hb : Below w.heap.size w w1) => Lib.hid (CheckAccount_any A B c d cs ps g l w1 (hA.next hb) (hB.next hb) hl hl2)
  unfold accV at HC ⊢
  by_cases h0 : ckAcc cs ps g l = 0
  · rw [h0] at HC
    by_cases hd : inB day 0 400 = true
    · have HF : Hid (datedCode cs ps g l day = 0) := by unfold datedCode; rw [if_pos h0, if_pos hd]; rfl
      clear h0
      go_enter Try.func111, Try.ntmps111
      go_wp2_with fail
      refine (HC _ (by go_grown)).out.mono ?_
      rintro e w1 ⟨rfl, hb1⟩
      have hbw : Below w.heap.size w w1 := Below.trans (by go_grown) (hb1.mono (by simp))
      go_wp2_with fail
      refine (in_any _ _ _ _).mono ?_
      rintro e w2 ⟨rfl, rfl⟩
      go_wp2_with fail
      go_ret
      exact ⟨ret_int HF.out.symm, hbw⟩
    · have hd' : inB day 0 400 = false := by simpa using hd
      have HF : Hid (datedCode cs ps g l day = 4) := by unfold datedCode; rw [if_pos h0, if_neg hd]; rfl
      clear h0 hd
      go_enter Try.func111, Try.ntmps111
      go_wp2_with fail
      refine (HC _ (by go_grown)).out.mono ?_
      rintro e w1 ⟨rfl, hb1⟩
      have hbw : Below w.heap.size w w1 := Below.trans (by go_grown) (hb1.mono (by simp))
      go_wp2_with fail
      refine (in_any _ _ _ _).mono ?_
      rintro e w2 ⟨rfl, rfl⟩
      go_wp2_with fail
      go_ret
      exact ⟨ret_int HF.out.symm, hbw⟩
  · have HF : Hid (datedCode cs ps g l day = ckAcc cs ps g l) := by unfold datedCode; rw [if_neg h0]; rfl
    have h0' : (ckAcc cs ps g l == 0) = false := by simpa using h0
    have h0'' : (ckAcc cs ps g l != 0) = true := by simpa using h0
    have H0 := Lib.hid h0
    clear h0
    go_enter Try.func111, Try.ntmps111
    go_wp2_with fail
    refine (HC _ (by go_grown)).out.mono ?_
    rintro e w1 ⟨rfl, hb1⟩
    have hbw : Below w.heap.size w w1 := Below.trans (by go_grown) (hb1.mono (by simp))
    go_wp2_with fail
    go_ret
    exact ⟨ret_int HF.out.symm, hbw⟩
end Go.Proofs.Ytfojjecnmfkcfaa
