/- A region that draws its order ahead of a tail: an invariant of the world, and a fact for each operation that is done; one proof serves every order. Its operations may write. Rests, and Owing: what rests of charges, what is owed, what is kept. Mathematics of accounts: what is left of payments, what rests, and when a charge is paid, told by sums up to a day. -/
import Derived.Test.YtfojjecnmfkcfaaGreatP13
import Derived.Test.YtfojjecnmfkcfaaGreatP10
import Derived.Maps.RangeWalk
namespace Go.Proofs.YtfojjecnmfkcfaaGreat
open Go.RowKit
structure Hd (F : Nat → Value → World → Prop) (I : World → Prop) (n : Nat) (listed : Array Bool) (vals : Nat → Value) (w : World) : Prop where
  inv : I w
  fact : ∀ i, i < n → listed.getD i false = true → F i (vals i) w
theorem inv_steps {P : Program} {ops : Array Oper} {Q : Exit → Act → World → Prop} {n : Nat} {a0 : Act} (hh : headOk ops n a0.tmps.size = true) (ht : tailOkW ops n = true) (hn : n ≤ ops.size)
    (F : Nat → Value → World → Prop) (I : World → Prop) (R : World → World → Prop) (hF : ∀ i v w w', F i v w → R w w' → F i v w')
    (step : ∀ i o, i < n → ops[i]? = some o → ∀ listed vals a w, (∀ e ∈ o.after, Region.binds .any e = true → listed.getD e.on false = true) → Hd F I n listed vals w → ActAt ops n a0 a listed vals →
      ∀ K : Act → World → Prop, (∀ v w', R w w' → I w' → F i v w' → K (a.put o.dst v) w') → o.wp P a w K Q)
    (tail : ∀ vals w, Hd F I n (maskOf ops.size n) vals w → wpAny P .any ops Q (ops.size - n) (maskOf ops.size n) (putAll ops vals a0 n) w) :
    ∀ (m : Nat) (listed : Array Bool) (vals : Nat → Value) (a : Act) (w : World), listed.size = ops.size → (∀ i, n ≤ i → listed.getD i false = false) → (∀ k o, k < n → listed.getD k false = true → ops[k]? = some o → ∀ e ∈ o.after, Region.binds .any e = true → listed.getD e.on false = true) → cnt listed n = m → Hd F I n listed vals w → ActAt ops n a0 a listed vals →
      wpAny P .any ops Q (m + (ops.size - n)) listed a w
  | 0, listed, vals, a, w, hs, hr, hcl, hc, hM, hA => by
    have hl := cnt_zero listed n hc
    have e : listed = maskOf ops.size n := by
      refine Array.ext_getElem? fun i => ?_
      by_cases h1 : i < ops.size
      · have h2 : i < listed.size := by omega
        have h3 : (maskOf ops.size n)[i]? = some (decide (i < n)) := by simp [maskOf, h1]
        rw [h3, Array.getElem?_eq_getElem h2]
        by_cases h4 : i < n
        · have := hl i h4
          rw [Array.getD_eq_getD_getElem?, Array.getElem?_eq_getElem h2] at this
          simpa [h4] using this
        · have := hr i (by omega)
          rw [Array.getD_eq_getD_getElem?, Array.getElem?_eq_getElem h2] at this
          simpa [h4] using this
      · rw [Array.getElem?_eq_none (by omega), Array.getElem?_eq_none (by simp [maskOf]; omega)]
    rw [act_eq hh hA hl, Nat.zero_add]
    subst e
    exact tail vals w hM
  | m + 1, listed, vals, a, w, hs, hr, hcl, hc, hM, hA => by
    obtain ⟨x, hx, hx1, hx2⟩ := cnt_pos listed n (by omega)
    have hxd : listed.getD x true = false := by
      rw [Array.getD_eq_getD_getElem?] at hx1 ⊢
      rw [Array.getElem?_eq_getElem (by omega)] at hx1 ⊢
      exact hx1
    rw [Nat.add_right_comm]
    refine ⟨fun h0 => ?_, fun i hi' => ?_⟩
    · obtain ⟨o, d, ho, _, he, _⟩ := head_at hh hx
      have : x ∈ Region.ready .any ops listed := mem_ready.2 ⟨by omega, hxd, o, ho, fun e hm _ => hx2 _ (he e hm)⟩
      rw [h0] at this; cases this
    · obtain ⟨hi1, hi2, o, ho, he⟩ := mem_ready.1 hi'
      have hi3 : listed.getD i false = false := by
        rw [Array.getD_eq_getD_getElem?] at hi2 ⊢
        rw [Array.getElem?_eq_getElem (by omega)] at hi2 ⊢
        exact hi2
      have hin : i < n := by
        rcases Nat.lt_or_ge i n with h | h
        · exact h
        · have h1 := List.all_eq_true.1 ht i (List.mem_range.2 hi1)
          simp only [Bool.or_eq_true, decide_eq_true_eq, List.all_eq_true, List.mem_range] at h1
          rcases h1 with h1 | h1 | h1
          · omega
          · exact (waitsTail_no ho hr he h1).elim
          · have := waits_listed hcl (n + 1) i x (fun o2 ho2 => by rw [ho] at ho2; injection ho2 with ho2; subst ho2; exact he) (h1 x hx)
            rw [hx1] at this; cases this
      obtain ⟨o', d, ho', hg, _, hd, hds, _⟩ := head_at hh hin
      rw [ho] at ho'; injection ho' with ho'; subst ho'
      have hdi : dstOf ops i = some d := by unfold dstOf; rw [ho]; exact hd
      unfold wpOp
      rw [ho]
      show if Region.wanted o (yielded ops a.tmps) = true then _ else _
      rw [if_pos (by simp [Region.wanted, hg])]
      refine .inl (step i o hin ho listed vals a w he hM hA _ fun v w' hR hI hf => ?_)
      refine inv_steps hh ht hn F I R hF step tail m _ (fun j => if j = i then v else vals j) _ _ (by simpa using hs) (fun j hj => ?_) (fun k o3 hk hl ho3 e3 he3 hb3 => ?_) ?_ ⟨hI, fun j hj hl => ?_⟩ ?_
      · rw [getD_set _ _ _ (by omega), if_neg (by omega)]; exact hr j hj
      · have key : listed.getD e3.on false = true := by
          rw [getD_set _ _ _ (by omega)] at hl
          by_cases e : k = i
          · subst e
            rw [ho] at ho3; injection ho3 with ho3; subst ho3
            exact he e3 he3 hb3
          · rw [if_neg e] at hl
            exact hcl k o3 hk hl ho3 e3 he3 hb3
        rw [getD_set _ _ _ (by omega)]
        by_cases e : e3.on = i
        · rw [if_pos e]
        · rw [if_neg e]; exact key
      · have := cnt_set listed i (by omega) hi3 n
        rw [if_pos hin] at this; omega
      · rw [getD_set _ _ _ (by omega)] at hl
        by_cases e : j = i
        · subst e; simpa using hf
        · rw [if_neg e] at hl
          simp only [if_neg e]
          exact hF _ _ _ _ (hM.fact j hj hl) hR
      · have hsd : d < a.tmps.size := by rw [hA.size]; exact hds
        refine ⟨by rw [hd]; exact hA.defers, by rw [hd]; simpa [Act.put] using hA.size, fun j d' hj hl hd' => ?_, fun t htt => ?_⟩
        · rw [hd, put_at _ _ _ _ hsd]
          rw [getD_set _ _ _ (by omega)] at hl
          by_cases e : j = i
          · subst e
            rw [hdi] at hd'; injection hd' with hd'
            simp [hd']
          · rw [if_neg e] at hl
            rw [if_neg (by rintro rfl; exact e (dst_inj hh hj hin hd' hdi)), if_neg e]
            exact hA.done j d' hj hl hd'
        · have hti : t ≠ d := by
            rintro rfl
            exact htt i hin (by rw [getD_set _ _ _ (by omega), if_pos rfl]) hdi
          rw [hd, put_at _ _ _ _ hsd, if_neg hti]
          refine hA.rest t fun j hj hl => htt j hj ?_
          rw [getD_set _ _ _ (by omega)]
          by_cases e : j = i
          · rw [if_pos e]
          · rw [if_neg e]; exact hl
/-- The rule. -/
theorem wp_inv {P : Program} {id : Nat} {ops : Array Oper} {Q : Exit → Act → World → Prop} {a0 : Act} {W1 : World} (n : Nat) (hm : P.follows .mixedOrders = true) (hh : headOk ops n a0.tmps.size = true) (ht : tailOkW ops n = true) (hn : n ≤ ops.size)
    (F : Nat → Value → World → Prop) (I : World → Prop) (R : World → World → Prop) (hF : ∀ i v w w', F i v w → R w w' → F i v w') (hI : I W1.drew)
    (step : ∀ i o, i < n → ops[i]? = some o → ∀ listed vals a w, (∀ e ∈ o.after, Region.binds .any e = true → listed.getD e.on false = true) → Hd F I n listed vals w → ActAt ops n a0 a listed vals →
      ∀ K : Act → World → Prop, (∀ v w', R w w' → I w' → F i v w' → K (a.put o.dst v) w') → o.wp P a w K Q)
    (tail : ∀ vals w, Hd F I n (maskOf ops.size n) vals w → wpAny P .any ops Q (ops.size - n) (maskOf ops.size n) (putAll ops vals a0 n) w) : (Code.region id ops true).wp P Q a0 W1 := by
  refine wp_region_any hm ?_
  have hz : ∀ i, (Array.replicate ops.size false).getD i false = false := by
    intro i
    rw [Array.getD_eq_getD_getElem?]
    by_cases h : i < ops.size
    · simp [h]
    · simp [h]
  have hc : ∀ k, cnt (Array.replicate ops.size false) k = k := by
    intro k
    induction k with
    | zero => rfl
    | succ k ih => simp only [cnt, ih, hz]; simp
  have := inv_steps (Q := Q) (a0 := a0) hh ht hn F I R hF step tail n (Array.replicate ops.size false) (fun _ => undef) a0 W1.drew (by simp) (fun i _ => hz i) (fun k _ _ h => (by rw [hz] at h; cases h)) (hc n)
    ⟨hI, fun i _ h => (by rw [hz] at h; cases h)⟩ ⟨rfl, rfl, fun i _ _ h => (by rw [hz] at h; cases h), fun _ _ => rfl⟩
  rw [show n + (ops.size - n) = ops.size by omega] at this
  exact this
/-- All facts of the first n, at the tail. -/
theorem Hd.all {F : Nat → Value → World → Prop} {I : World → Prop} {n size : Nat} {vals : Nat → Value} {w : World} (h : Hd F I n (maskOf size n) vals w) (hn : n ≤ size) (i : Nat) (hi : i < n) : F i (vals i) w :=
  h.fact i hi (by simp [maskOf, Array.getD_eq_getD_getElem?, show i < size by omega, hi])
end Go.Proofs.YtfojjecnmfkcfaaGreat
namespace Go.Proofs.YtfojjecnmfkcfaaGreat
open Go.RowKit Go.Maps
set_option linter.unusedVariables false
def restK (cs ps : List (Int × Int)) (day : Int) (k : Nat) : List Int := (List.range k).map (restOf cs day (uptoF ps day))
def restR (cs ps : List (Int × Int)) (g l day : Int) : List Int := if datedCode cs ps g l day = 0 then restK cs ps day cs.length else []
theorem restK_succ (cs ps : List (Int × Int)) (day : Int) (k : Nat) : ints (restK cs ps day (k + 1)) = ints (restK cs ps day k) ++ [.int .i64 (restOf cs day (uptoF ps day) k)] := by
  unfold restK ints; rw [List.range_succ]; simp
theorem restK_length (cs ps : List (Int × Int)) (day : Int) (k : Nat) : (restK cs ps day k).length = k := by simp [restK]
set_option maxRecDepth 100000 in
set_option maxHeartbeats 4000000 in
theorem Rests_any (A B : Option Addr) (c d : Nat) (cs ps : List (Int × Int)) (g l day : Int) (w : World) (hA : Ent w A c cs) (hB : Ent w B d ps) (hl : cs.length ≤ 1000) (hl2 : ps.length ≤ 1000) :
    Calls Tryz.prog 38 #[accV A cs.length c B ps.length d g l, .int .i64 day] w (RetOwnE 3 1 (restR cs ps g l day).length (ints (restR cs ps g l day)) (datedCode cs ps g l day) w) := by
  obtain ⟨i0, ihi, ihz0, ihz1, ihz2⟩ := info_parts infoIntP
  have HC := fun w1 (hb : Below w.heap.size w w1) => Lib.hid (dated_any A B c d cs ps g l day w1 (hA.next hb) (hB.next hb) hl hl2)
  unfold accV at HC ⊢
  by_cases h0 : datedCode cs ps g l day = 0
  · obtain ⟨ho, hd1, hd2⟩ := datedCode_ok h0
    have HP := fun w1 (hb : Below w.heap.size w w1) => Lib.hid (rests_any A B c d cs ps g l day w1 (hA.next hb).rd (hB.next hb).rd ho.clen ho.plen ho.call ho.pall)
    unfold accV at HP
    have e1 : restR cs ps g l day = restK cs ps day cs.length := by unfold restR; rw [if_pos h0]
    rw [e1, restK_length, h0]
    rw [h0] at HC
    clear h0 e1
    obtain ⟨hc8, hp8, ⟨g1, g2⟩, ⟨l1, l2⟩, hca, hpa, _, _⟩ := ho
    go_enter Tryz.func38, Tryz.ntmps38
    go_wp2_with fail
    refine (HC _ (by go_grown)).out.mono ?_
    rintro e w1 ⟨rfl, hb1⟩
    have hbw : Below w.heap.size w w1 := Below.trans (by go_grown) (hb1.mono (by simp))
    obtain ⟨c0, c1, c2, c3⟩ := accBox w (.slice A cs.length c) (.slice B ps.length d) (.int .i64 g) (.int .i64 l) 31
    have d0 := (hb1.cell (p := ⟨w.heap.size, 0, none⟩) (by simp)).trans c0
    have d1 := (hb1.cell (p := ⟨w.heap.size, 1, none⟩) (by simp)).trans c1
    have d2 := (hb1.cell (p := ⟨w.heap.size, 2, none⟩) (by simp)).trans c2
    have d3 := (hb1.cell (p := ⟨w.heap.size, 3, none⟩) (by simp)).trans c3
    have hz1 : w.heap.size < w1.heap.size := by have := hb1.size; simp at this; omega
    clear c0 c1 c2 c3
    go_wp2_with fail
    refine (HP _ hbw).out.mono ?_
    rintro e W3 ⟨b, rfl, hb, hm, hb3⟩
    have hbW3 := hbw.trans (hb3.mono hbw.size)
    have d0' := (hb3.cell (p := ⟨w.heap.size, 0, none⟩) hz1).trans d0
    have hz3 : w.heap.size < W3.heap.size := Nat.lt_of_lt_of_le hz1 hb3.size
    have HM : Hid (∀ W, Below W3.heap.size W3 W → W.ownsMap Tryz.prog 3 (plainElem (H := Nat) Tryz.prog 3) b cs.length (restD cs day (uptoF ps day) cs.length)) := fun W hW =>
      World.ownsMap.kept hm (row := none) ⟨hW.os, hW.tape, hW.output, hW.size, fun k hk _ => hW.block k hk⟩ (by simp)
    clear hm d0 d1 d2 d3
    go_wp2_with fail
    go_loopw [9, 10, 26] (fun v _ i wr => ∃ k : Nat, k ≤ cs.length ∧ i = .int .i64 k ∧ Hid (wr.ownsRow W3.heap.size 3 1 v k (ints (restK cs ps day k))) ∧ Below W3.heap.size W3 wr) (fun _ _ i _ => cs.length - (intOf i).toNat)
    case atStart => exact ⟨0, Nat.zero_le _, rfl, World.ownsRow_nil _ _ _ _, Below.refl _ _⟩
    case round =>
      obtain ⟨k, hk, rfl, HO, hbw⟩ := hrel
      have hbww := hbW3.trans (hbw.mono hbW3.size)
      by_cases hlt : k < cs.length
      · have hk8 : (k : Int) ≤ 8 := by omega
        have hkey : keyOf Tryz.prog 3 (.int .i64 k) = some (.int .i64 k) := keyOf_int_mk Tryz.underlying3 (WalkArith.wf_i64 (by omega))
        have HAT : Hid (∀ cc : Int, (restD cs day (uptoF ps day) cs.length).atKey (.int .i64 k) (.lit (.int .i64 0)) = .lit (.int .i64 cc) → cc = restOf cs day (uptoF ps day) k) := by
          show ∀ cc : Int, _ → _
          intro cc h
          rw [restD_at cs day (uptoF ps day) k cs.length (Nat.le_refl _), if_pos hlt] at h
          injection h with h
          injection h with _ h
          exact h.symm
        go_wp2_with (first | (at_lookup; refine wpList_lookup_own_int _ rfl _ _ 157 rfl 3 3 .i64 lawInt Tryz.underlying157 Tryz.underlying3 (zeroInt _) b cs.length _ rfl (HM.out _ hbw) _ _ rfl hkey ?_; intro cc hat hwc; obtain rfl : cc = restOf cs day (uptoF ps day) k := HAT.out cc hat; clear hat hwc) | (at_builtin; refine wpList_append_own_at _ rfl _ _ 22 rfl W3.heap.size 3 i0 _ 1 8 Tryz.underlying22 ihi ihz0 ihz1 ihz2 rfl (by decide) _ _ _ rfl (HO.out.alloc _) ⟨wr.heap.size, 0, none⟩ 1 1 [.int .i64 (restOf cs day (uptoF ps day) k)] rfl rfl (news_new _ _ _ rfl) (by simp [Value.oneCell']) (by simp only [maxLen]; omega) (by omega) (by have h1 := hbw.size; simp; omega) ?_; intro v1 w2 hown1 hgrow1 _ hat1))
        go_roundw
        case rel => exact ⟨k + 1, by omega, by go_num, by rw [restK_succ]; exact hown1, (hbw.alloc hbw.size _).grown hgrow1 (by have := hbw.size; simp; omega) (fun q hq => (HO.out.lt q hq).1)⟩
        case measure => simp [intOf]; omega
      · obtain rfl : k = cs.length := by omega
        clear hlt
        go_wp2_with fail
        go_ret2
        exact ⟨_, rfl, HO.out.base_ hbW3.size, hbww⟩
  · have e1 : restR cs ps g l day = [] := by unfold restR; rw [if_neg h0]
    rw [e1]
    have h0' : (datedCode cs ps g l day == 0) = false := by simpa using h0
    have h0'' : (datedCode cs ps g l day != 0) = true := by simpa using h0
    clear h0 e1
    go_enter Tryz.func38, Tryz.ntmps38
    go_wp2_with fail
    refine (HC _ (by go_grown)).out.mono ?_
    rintro e w1 ⟨rfl, hb1⟩
    have hbw : Below w.heap.size w w1 := Below.trans (by go_grown) (hb1.mono (by simp))
    go_wp2_with fail
    go_ret2
    exact ⟨_, rfl, World.ownsRow_nil _ _ _ _, hbw⟩
theorem same_int (a b : Int) : (Lit.int .i64 a).sameKey (.int .i64 b) = decide (a = b) := by
  unfold Lit.sameKey; simp
/-- Which keys the map of rests has. -/
theorem restD_has (cs : List (Int × Int)) (day p : Int) (kl : Lit) : ∀ k, has (restD cs day p k) kl = true → ∃ i : Nat, i < k ∧ kl = .int .i64 i ∧ (cs.getD i (0, 0)).1 ≤ day
  | 0, h => by simp [restD, has] at h
  | k + 1, h => by
    simp only [restD] at h
    by_cases hd : (cs.getD k (0, 0)).1 ≤ day
    · rw [if_pos hd] at h
      by_cases e : kl = .int .i64 k
      · exact ⟨k, by omega, e, hd⟩
      · rw [has_put_other e] at h
        obtain ⟨i, h1, h2, h3⟩ := restD_has cs day p kl k h
        exact ⟨i, by omega, h2, h3⟩
    · rw [if_neg hd] at h
      obtain ⟨i, h1, h2, h3⟩ := restD_has cs day p kl k h
      exact ⟨i, by omega, h2, h3⟩
theorem restD_got (cs : List (Int × Int)) (day p : Int) (i : Nat) (hd : (cs.getD i (0, 0)).1 ≤ day) : ∀ k, i < k → has (restD cs day p k) (.int .i64 i) = true
  | 0, h => by omega
  | k + 1, h => by
    simp only [restD]
    by_cases e : i = k
    · subst e
      rw [if_pos hd]
      have key : WideAt.IsKeyLit (.int .i64 (i : Int)) := trivial
      exact has_put_same (restD_isMap cs day p i) key _
    · have ih := restD_got cs day p i hd k (by omega)
      by_cases hk : (cs.getD k (0, 0)).1 ≤ day
      · rw [if_pos hk, has_put_other (by intro e2; injection e2; omega)]; exact ih
      · rw [if_neg hk]; exact ih
/-- The sum of the rests that are no longer to come. -/
def doneS (cs : List (Int × Int)) (day p : Int) (left : Lit → Bool) : Nat → Int
  | 0 => 0
  | k + 1 => doneS cs day p left k + (if left (.int .i64 k) = true then 0 else restOf cs day p k)
theorem done_start (cs : List (Int × Int)) (day p : Int) : ∀ k, k ≤ cs.length → doneS cs day p (has (restD cs day p cs.length)) k = 0
  | 0, _ => rfl
  | k + 1, h => by
    simp only [doneS, done_start cs day p k (by omega)]
    by_cases hd : (cs.getD k (0, 0)).1 ≤ day
    · rw [restD_got cs day p k hd _ (by omega)]; rfl
    · have : restOf cs day p k = 0 := by unfold restOf; rw [if_neg (fun h => hd h.2)]
      rw [this]; simp
theorem done_end (cs : List (Int × Int)) (day p : Int) {left : Lit → Bool} (h : ∀ kl, left kl = false) : ∀ k, doneS cs day p left k = restSum cs day p k
  | 0 => rfl
  | k + 1 => by simp only [doneS, restSum, done_end cs day p h k, h]; simp
theorem done_step (cs : List (Int × Int)) (day p : Int) {left : Lit → Bool} (i : Nat) (hi : left (.int .i64 i) = true) : ∀ k, doneS cs day p (fun z => left z && !z.sameKey (.int .i64 i)) k = doneS cs day p left k + (if i < k then restOf cs day p i else 0)
  | 0 => by simp [doneS]
  | k + 1 => by
    simp only [doneS, done_step cs day p i hi k, same_int]
    by_cases e : k = i
    · subst e
      simp [hi]
    · have e2 : ¬ (k : Int) = (i : Int) := by omega
      simp only [e2, decide_false, Bool.not_false, Bool.and_true]
      by_cases h1 : i < k
      · rw [if_pos h1, if_pos (show i < k + 1 by omega)]; cases left (.int .i64 k) <;> simp <;> omega
      · rw [if_neg h1, if_neg (show ¬ i < k + 1 by omega)]; cases left (.int .i64 k) <;> simp
theorem done_bd {cs : List (Int × Int)} {day p : Int} (h0 : 0 ≤ p) (hc : ∀ e ∈ cs, 0 ≤ e.1 ∧ e.1 ≤ 400 ∧ 1 ≤ e.2 ∧ e.2 ≤ 10000) (left : Lit → Bool) : ∀ k, 0 ≤ doneS cs day p left k ∧ doneS cs day p left k ≤ 10000 * k
  | 0 => by simp [doneS]
  | k + 1 => by
    have ih := done_bd (day := day) h0 hc left k
    have := restOf_bd (day := day) h0 hc k
    simp only [doneS]
    split <;> omega
def owingR (cs ps : List (Int × Int)) (g l day : Int) : Int := if datedCode cs ps g l day = 0 then restSum cs day (uptoF ps day) cs.length else 0
def creditR (cs ps : List (Int × Int)) (g l day : Int) : Int := if datedCode cs ps g l day = 0 then leftK cs day (uptoF ps day) cs.length else 0
set_option maxRecDepth 100000 in
set_option maxHeartbeats 4000000 in
theorem Owing_any (A B : Option Addr) (c d : Nat) (cs ps : List (Int × Int)) (g l day : Int) (w : World) (hA : Ent w A c cs) (hB : Ent w B d ps) (hl : cs.length ≤ 1000) (hl2 : ps.length ≤ 1000) :
    Calls Tryz.prog 40 #[accV A cs.length c B ps.length d g l, .int .i64 day] w fun e w' => e = .returned (.tuple #[.int .i64 (owingR cs ps g l day), .int .i64 (creditR cs ps g l day), .int .i64 (datedCode cs ps g l day)]) ∧ Below w.heap.size w w' := by
  have HC := fun w1 (hb : Below w.heap.size w w1) => Lib.hid (dated_any A B c d cs ps g l day w1 (hA.next hb) (hB.next hb) hl hl2)
  unfold accV at HC ⊢
  by_cases h0 : datedCode cs ps g l day = 0
  · obtain ⟨ho, hd1, hd2⟩ := datedCode_ok h0
    have HP := fun w1 (hb : Below w.heap.size w w1) => Lib.hid (rests_any A B c d cs ps g l day w1 (hA.next hb).rd (hB.next hb).rd ho.clen ho.plen ho.call ho.pall)
    unfold accV at HP
    have e1 : owingR cs ps g l day = restSum cs day (uptoF ps day) cs.length := by unfold owingR; rw [if_pos h0]
    have e2 : creditR cs ps g l day = leftK cs day (uptoF ps day) cs.length := by unfold creditR; rw [if_pos h0]
    rw [e1, e2, h0]
    rw [h0] at HC
    clear h0 e1 e2
    obtain ⟨hc8, hp8, ⟨g1, g2⟩, ⟨l1, l2⟩, hca, hpa, _, _⟩ := ho
    have hu0 := (uptoF_bd (l := ps) (fun e he => by have := hpa e he; omega) day).1
    have HRB := Lib.hid (restOf_bd (cs := cs) (day := day) hu0 hca)
    have HDB := Lib.hid (done_bd (cs := cs) (day := day) hu0 hca)
    have HLB := Lib.hid (leftK_bd (cs := cs) (day := day) hu0 hca cs.length)
    clear hu0
    generalize uptoF ps day = u at *
    go_enter Tryz.func40, Tryz.ntmps40
    go_wp2_with fail
    refine (HC _ (by go_grown)).out.mono ?_
    rintro e w1 ⟨rfl, hb1⟩
    have hbw : Below w.heap.size w w1 := Below.trans (by go_grown) (hb1.mono (by simp))
    obtain ⟨c0, c1, c2, c3⟩ := accBox w (.slice A cs.length c) (.slice B ps.length d) (.int .i64 g) (.int .i64 l) 31
    have d0 := (hb1.cell (p := ⟨w.heap.size, 0, none⟩) (by simp)).trans c0
    have d1 := (hb1.cell (p := ⟨w.heap.size, 1, none⟩) (by simp)).trans c1
    have d2 := (hb1.cell (p := ⟨w.heap.size, 2, none⟩) (by simp)).trans c2
    have d3 := (hb1.cell (p := ⟨w.heap.size, 3, none⟩) (by simp)).trans c3
    clear c0 c1 c2 c3
    go_wp2_with fail
    refine (HP _ hbw).out.mono ?_
    rintro e W3 ⟨b, rfl, hb, hm, hb3⟩
    have hbW3 := Lib.hid (hbw.trans (hb3.mono hbw.size))
    clear d0 d1 d2 d3 hbw hb3 hb1
    unfold RestMap at hm
    go_wp2_with ((at_range; refine wpList_range_own _ rfl _ 157 rfl 3 3 lawInt Tryz.underlying157 _ b cs.length _ rfl hm ?_; intro w0 hrg0 hg0 hs0))
    go_frame
    have hb0 : Below W3.heap.size W3 w0 := (Below.refl _ _).grown hg0 (Nat.le_refl _) (fun k hk => by cases hk)
    go_loopw [4] (fun ov wr => ∃ (left : Lit → Bool) (cnt : Nat), Hid (wr.ranges Tryz.prog 3 (plainElem Tryz.prog 3) b W3.heap.size cs.length (restD cs day u cs.length) left cnt) ∧ (∀ kl, left kl = true → has (restD cs day u cs.length) kl = true) ∧ ov = .int .i64 (doneS cs day u left cs.length) ∧ Hid (Below W3.heap.size W3 wr))
      (fun _ wr => wr.rangeLeft b W3.heap.size)
    case atStart => exact ⟨_, _, hrg0, fun _ h => h, by rw [done_start _ _ _ _ (Nat.le_refl _)], hb0⟩
    case round =>
      obtain ⟨left, cnt, HR, hlf, rfl, HW⟩ := hrel
      have HLF := Lib.hid hlf
      obtain ⟨s1, s2⟩ := HDB.out left cs.length
      clear hlf
      go_wp2_with ((at_next; refine wpList_next_ranges_ii _ rfl _ rfl 3 3 .i64 .i64 lawInt Tryz.underlying3 Tryz.underlying3 b W3.heap.size cs.length _ _ _ rfl HR.out ?_ ?_))
      · intro _ hl0
        have HD := Lib.hid (done_end cs day u hl0 cs.length)
        clear hl0
        go_wp2_with fail
        go_ret3
        rw [HD.out]
        exact ⟨rfl, hbW3.out.trans (HW.out.mono hbW3.out.size)⟩
      · intro x cv w4 cnt1 hwx hwc hlx hat hrg1 hlt hg1 hs1 hen
        obtain ⟨i, hi, hxi, hdi⟩ := restD_has cs day u _ _ (HLF.out _ hlx)
        injection hxi with _ hxi
        subst hxi
        have hcv := hat (.lit (.int .i64 0))
        rw [restD_at cs day u i cs.length (Nat.le_refl _), if_pos hi] at hcv
        injection hcv with hcv
        injection hcv with _ hcv
        subst hcv
        obtain ⟨q1, q2⟩ := HRB.out i
        have hds := done_step cs day u i hlx cs.length
        rw [if_pos hi] at hds
        have HDS := Lib.hid hds
        have HW4 : Hid (Below W3.heap.size W3 w4) := HW.out.grown hg1 HW.out.size (fun k hk => by cases hk; omega)
        have HLF4 : Hid (∀ kl, (left kl && !kl.sameKey (.int .i64 i)) = true → has (restD cs day u cs.length) kl = true) := by
          show ∀ kl, _ → _
          intro kl h
          exact HLF.out kl (by simp only [Bool.and_eq_true] at h; exact h.1)
        have HRG := Lib.hid hrg1
        have HG1 := Lib.hid hg1
        have HLT := Lib.hid hlt
        clear hds hrg1 hlt hg1 hs1 hwx hwc hlx hat
        go_wp2_with fail
        refine (sum2_any (by simp) _ _ (by omega) (by omega) (by omega) (by omega)).mono ?_
        rintro e w5 ⟨rfl, rfl⟩
        go_wp2_with fail
        go_roundw
        case rel => exact ⟨_, cnt1, HRG.out.alloc _, HLF4.out, by rw [HDS.out], HW4.out.alloc HW4.out.size _⟩
        case measure => rw [(HRG.out.alloc _).left_eq, HR.out.left_eq]; exact HLT.out
  · have e1 : owingR cs ps g l day = 0 := by unfold owingR; rw [if_neg h0]
    have e2 : creditR cs ps g l day = 0 := by unfold creditR; rw [if_neg h0]
    rw [e1, e2]
    have h0' : (datedCode cs ps g l day == 0) = false := by simpa using h0
    have h0'' : (datedCode cs ps g l day != 0) = true := by simpa using h0
    clear h0 e1 e2
    go_enter Tryz.func40, Tryz.ntmps40
    go_wp2_with fail
    refine (HC _ (by go_grown)).out.mono ?_
    rintro e w1 ⟨rfl, hb1⟩
    have hbw : Below w.heap.size w w1 := Below.trans (by go_grown) (hb1.mono (by simp))
    go_wp2_with fail
    exact bodyPost_ret (v := .tuple #[.int .i64 0, .int .i64 0, .int .i64 (datedCode cs ps g l day)]) (by simp [results, Tryz.results40, go_sem]) rfl ⟨rfl, hbw⟩
end Go.Proofs.YtfojjecnmfkcfaaGreat
namespace Go.Proofs.YtfojjecnmfkcfaaGreat
open Go.RowKit
set_option linter.unusedVariables false
theorem rises_pw : ∀ l : List Int, risesB 0 l = true → l.Pairwise (· ≤ ·)
  | [], _ => .nil
  | [x], _ => by simp
  | a :: b :: l, h => by
    simp only [risesB, Bool.and_eq_true, decide_eq_true_eq] at h
    have ih := rises_pw (b :: l) h.2
    refine List.pairwise_cons.2 ⟨fun x hx => ?_, ih⟩
    rcases List.mem_cons.1 hx with rfl | hx
    · omega
    · have := (List.pairwise_cons.1 ih).1 x hx; omega
/-- Days that rise. -/
def Up (t : List (Int × Int)) : Prop := t.Pairwise fun a b => a.1 ≤ b.1
theorem up_of {t : List (Int × Int)} (h : risesB 0 (t.map (·.1)) = true) : Up t := List.pairwise_map.1 (rises_pw _ h)
theorem Up.le {t : List (Int × Int)} (h : Up t) {i j : Nat} (hij : i ≤ j) (hj : j < t.length) : (t[i]'(by omega)).1 ≤ t[j].1 := by
  rcases Nat.lt_or_ge i j with h1 | h1
  · exact List.pairwise_iff_getElem.1 h i j (by omega) hj h1
  · have : i = j := by omega
    subst this; exact Int.le_refl _
theorem uptoF_nil (d : Int) : uptoF [] d = 0 := rfl
theorem uptoF_cons (a : Int × Int) (l : List (Int × Int)) (d : Int) : uptoF (a :: l) d = (if a.1 ≤ d then a.2 else 0) + uptoF l d := by
  unfold uptoF
  by_cases h : a.1 ≤ d <;> simp [h]
theorem uptoF_app (l m : List (Int × Int)) (d : Int) : uptoF (l ++ m) d = uptoF l d + uptoF m d := by
  induction l with
  | nil => simp [uptoF_nil]
  | cons a l ih => rw [List.cons_append, uptoF_cons, uptoF_cons, ih]; omega
theorem uptoF_perm {l m : List (Int × Int)} (h : l.Perm m) (d : Int) : uptoF l d = uptoF m d := by
  induction h with
  | nil => rfl
  | cons a _ ih => rw [uptoF_cons, uptoF_cons, ih]
  | swap a b l => rw [uptoF_cons, uptoF_cons, uptoF_cons, uptoF_cons]; omega
  | trans _ _ ih1 ih2 => rw [ih1, ih2]
theorem uptoF_mono {l : List (Int × Int)} (hp : ∀ e ∈ l, 0 ≤ e.2) {d d' : Int} (h : d ≤ d') : uptoF l d ≤ uptoF l d' := by
  induction l with
  | nil => exact Int.le_refl _
  | cons a l ih =>
    have h1 := ih fun e he => hp e (List.mem_cons_of_mem _ he)
    have h2 := hp a List.mem_cons_self
    rw [uptoF_cons, uptoF_cons]
    split <;> split <;> omega
theorem uptoF_nonneg {l : List (Int × Int)} (hp : ∀ e ∈ l, 0 ≤ e.2) (d : Int) : 0 ≤ uptoF l d := by
  induction l with
  | nil => exact Int.le_refl _
  | cons a l ih =>
    have h1 := ih fun e he => hp e (List.mem_cons_of_mem _ he)
    have h2 := hp a List.mem_cons_self
    rw [uptoF_cons]; split <;> omega
theorem uptoF_full {l : List (Int × Int)} {d : Int} (h : ∀ e ∈ l, e.1 ≤ d) : uptoF l d = (l.map (·.2)).sum := by
  induction l with
  | nil => rfl
  | cons a l ih =>
    rw [uptoF_cons, if_pos (h a List.mem_cons_self), ih fun e he => h e (List.mem_cons_of_mem _ he)]; simp
theorem allOf_take (cs : List (Int × Int)) (k : Nat) : allOf cs k = ((cs.take k).map (·.2)).sum := by unfold allOf; rw [List.map_take]
/-- Of rising charges those up to a day are the first ones. -/
theorem uptoF_first {cs : List (Int × Int)} (hs : Up cs) {i : Nat} (hi : i < cs.length) {d : Int} (hd : cs[i].1 ≤ d) : uptoF (cs.take (i + 1)) d = allOf cs (i + 1) ∧ uptoF (cs.take i) d = allOf cs i := by
  rw [allOf_take, allOf_take]
  have key : ∀ k, k ≤ i + 1 → ∀ e ∈ cs.take k, e.1 ≤ d := fun k hk e he => by
    obtain ⟨j, hj, rfl⟩ := List.mem_iff_getElem.1 he
    rw [List.length_take] at hj
    rw [List.getElem_take]
    have := hs.le (i := j) (j := i) (by omega) hi
    omega
  exact ⟨uptoF_full (key _ (Nat.le_refl _)), uptoF_full (key _ (by omega))⟩
theorem leftK_eq {cs : List (Int × Int)} (hc : ∀ e ∈ cs, 0 ≤ e.2) (d p : Int) (h0 : 0 ≤ p) : ∀ k, k ≤ cs.length → leftK cs d p k = max 0 (p - uptoF (cs.take k) d)
  | 0, _ => by simp [leftK, uptoF_nil]; omega
  | k + 1, h => by
    have ih := leftK_eq hc d p h0 k (by omega)
    have hgd : cs.getD k (0, 0) = cs[k] := by simp [List.getD_eq_getElem?_getD, List.getElem?_eq_getElem (show k < cs.length by omega)]
    have hx := hc cs[k] (List.getElem_mem _)
    rw [uptoF_succ cs d k (by omega)]
    simp only [leftK, hgd, ih]
    split
    · split <;> omega
    · omega
theorem restSum_eq {cs : List (Int × Int)} (hc : ∀ e ∈ cs, 0 ≤ e.2) (d p : Int) (h0 : 0 ≤ p) : ∀ k, k ≤ cs.length → restSum cs d p k = max 0 (uptoF (cs.take k) d - p)
  | 0, _ => by simp [restSum, uptoF_nil]; omega
  | k + 1, h => by
    have ih := restSum_eq hc d p h0 k (by omega)
    have hl := leftK_eq hc d p h0 k (by omega)
    have hgd : cs.getD k (0, 0) = cs[k] := by simp [List.getD_eq_getElem?_getD, List.getElem?_eq_getElem (show k < cs.length by omega)]
    have hx := hc cs[k] (List.getElem_mem _)
    rw [uptoF_succ cs d k (by omega)]
    simp only [restSum, restOf, hgd, hl, ih]
    by_cases hd : cs[k].1 ≤ d
    · rw [if_pos ⟨by omega, hd⟩, if_pos hd]
      split <;> omega
    · rw [if_neg (fun h => hd h.2), if_neg hd]
      omega
/-- What rests of a charge. -/
theorem restOf_eq {cs : List (Int × Int)} (hs : Up cs) (hc : ∀ e ∈ cs, 0 ≤ e.2) {i : Nat} (hi : i < cs.length) (d p : Int) (h0 : 0 ≤ p) (hd : cs[i].1 ≤ d) :
    restOf cs d p i = if allOf cs (i + 1) ≤ p then 0 else if p ≤ allOf cs i then cs[i].2 else allOf cs (i + 1) - p := by
  have hgd : cs.getD i (0, 0) = cs[i] := by simp [List.getD_eq_getElem?_getD, List.getElem?_eq_getElem hi]
  have hl := leftK_eq hc d p h0 i (by omega)
  have hx := hc cs[i] (List.getElem_mem _)
  have h1 := allOf_succ cs i hi
  obtain ⟨_, h3⟩ := uptoF_first hs hi hd
  unfold restOf
  rw [hgd, if_pos ⟨hi, hd⟩, hl, h3]
  split <;> split <;> (try split) <;> omega
theorem restOf_far {cs : List (Int × Int)} {i : Nat} {d p : Int} (hi : i < cs.length) (h : ¬ cs[i].1 ≤ d) : restOf cs d p i = 0 := by
  have hgd : cs.getD i (0, 0) = cs[i] := by simp [List.getD_eq_getElem?_getD, List.getElem?_eq_getElem hi]
  unfold restOf
  rw [hgd, if_neg fun h2 => h h2.2]
theorem allOf_mono {cs : List (Int × Int)} (hc : ∀ e ∈ cs, 0 ≤ e.2) {i j : Nat} (h : i ≤ j) (hj : j ≤ cs.length) : allOf cs i ≤ allOf cs j := by
  induction j with
  | zero => have : i = 0 := by omega
            subst this; exact Int.le_refl _
  | succ j ih =>
    by_cases e : i = j + 1
    · subst e; exact Int.le_refl _
    · have h1 := ih (by omega) (by omega)
      have h2 := hc cs[j] (List.getElem_mem _)
      rw [allOf_succ cs j (by omega)]; omega
/-- When so many pence are paid. -/
theorem payDay_none (ps : List (Int × Int)) (all c : Int) (hc : 0 ≤ c) : ∀ l : List (Int × Int), payDay ps all c l = -1 → ∀ p ∈ l, uptoF ps p.1 < all
  | [], _ => fun p hp => by cases hp
  | q :: l, h => by
    simp only [payDay] at h
    by_cases hq : all ≤ uptoF ps q.1
    · rw [if_pos hq] at h; omega
    · rw [if_neg hq] at h
      intro p hp
      rcases List.mem_cons.1 hp with rfl | hp
      · omega
      · exact payDay_none ps all c hc l h p hp
theorem payDay_of (ps : List (Int × Int)) (all c : Int) : ∀ l : List (Int × Int), (∀ p ∈ l, uptoF ps p.1 < all) → payDay ps all c l = -1
  | [], _ => rfl
  | q :: l, h => by
    simp only [payDay]
    rw [if_neg (by have := h q List.mem_cons_self; omega), payDay_of ps all c l fun p hp => h p (List.mem_cons_of_mem _ hp)]
theorem payDay_some (ps : List (Int × Int)) (all c : Int) : ∀ l : List (Int × Int), l.Pairwise (fun a b => a.1 ≤ b.1) → payDay ps all c l ≠ -1 → ∃ p ∈ l, all ≤ uptoF ps p.1 ∧ payDay ps all c l = max c p.1 ∧ ∀ q ∈ l, all ≤ uptoF ps q.1 → p.1 ≤ q.1
  | [], _, h => absurd rfl h
  | q :: l, hs, h => by
    simp only [payDay] at h ⊢
    obtain ⟨h1, h2⟩ := List.pairwise_cons.1 hs
    by_cases hq : all ≤ uptoF ps q.1
    · rw [if_pos hq] at h ⊢
      refine ⟨q, List.mem_cons_self, hq, rfl, fun r hr _ => ?_⟩
      rcases List.mem_cons.1 hr with rfl | hr
      · exact Int.le_refl _
      · exact h1 r hr
    · rw [if_neg hq] at h ⊢
      obtain ⟨p, p1, p2, p3, p4⟩ := payDay_some ps all c l h2 h
      refine ⟨p, List.mem_cons_of_mem _ p1, p2, p3, fun r hr hle => ?_⟩
      rcases List.mem_cons.1 hr with rfl | hr
      · exact absurd hle hq
      · exact p4 r hr hle
/-- The last payment up to a day: it has all that is paid up to that day. -/
theorem last_pay {ps : List (Int × Int)} (hp : ∀ e ∈ ps, 0 ≤ e.2) (d : Int) : ∀ l : List (Int × Int), (∃ e ∈ l, e.1 ≤ d) → ∃ e ∈ l, e.1 ≤ d ∧ ∀ f ∈ l, f.1 ≤ d → f.1 ≤ e.1
  | [], h => by obtain ⟨e, he, _⟩ := h; cases he
  | a :: l, h => by
    by_cases hl : ∃ e ∈ l, e.1 ≤ d
    · obtain ⟨e, e1, e2, e3⟩ := last_pay hp d l hl
      by_cases ha : a.1 ≤ d ∧ e.1 < a.1
      · refine ⟨a, List.mem_cons_self, ha.1, fun f hf hd => ?_⟩
        rcases List.mem_cons.1 hf with rfl | hf
        · exact Int.le_refl _
        · have := e3 f hf hd; omega
      · refine ⟨e, List.mem_cons_of_mem _ e1, e2, fun f hf hd => ?_⟩
        rcases List.mem_cons.1 hf with rfl | hf
        · omega
        · exact e3 f hf hd
    · obtain ⟨e, he, hd⟩ := h
      rcases List.mem_cons.1 he with rfl | he
      · refine ⟨e, List.mem_cons_self, hd, fun f hf hfd => ?_⟩
        rcases List.mem_cons.1 hf with rfl | hf
        · exact Int.le_refl _
        · exact absurd ⟨f, hf, hfd⟩ hl
      · exact absurd ⟨e, he, hd⟩ hl
theorem uptoF_same {d d' : Int} : ∀ l : List (Int × Int), (∀ f ∈ l, f.1 ≤ d ↔ f.1 ≤ d') → uptoF l d = uptoF l d'
  | [], _ => rfl
  | a :: l, h => by
    rw [uptoF_cons, uptoF_cons, uptoF_same l fun f hf => h f (List.mem_cons_of_mem _ hf)]
    have := h a List.mem_cons_self
    by_cases h1 : a.1 ≤ d
    · rw [if_pos h1, if_pos (this.1 h1)]
    · rw [if_neg h1, if_neg fun h2 => h1 (this.2 h2)]
theorem upto_pay {ps : List (Int × Int)} (hp : ∀ e ∈ ps, 0 ≤ e.2) {d all : Int} (h1 : 1 ≤ all) (h : all ≤ uptoF ps d) : ∃ e ∈ ps, e.1 ≤ d ∧ all ≤ uptoF ps e.1 := by
  have hx : ∃ e ∈ ps, e.1 ≤ d := by
    by_cases hx : ∃ e ∈ ps, e.1 ≤ d
    · exact hx
    · have : uptoF ps d = 0 := by
        have hz : ∀ l : List (Int × Int), (∀ e ∈ l, ¬ e.1 ≤ d) → uptoF l d = 0 := by
          intro l
          induction l with
          | nil => intro _; rfl
          | cons a l ih => intro hl; rw [uptoF_cons, if_neg (hl a List.mem_cons_self), ih fun e he => hl e (List.mem_cons_of_mem _ he)]; rfl
        exact hz ps fun e he hd => hx ⟨e, he, hd⟩
      omega
  obtain ⟨e, e1, e2, e3⟩ := last_pay hp d ps hx
  refine ⟨e, e1, e2, ?_⟩
  rw [← uptoF_same (d := d) ps fun f hf => ⟨fun h => e3 f hf h, fun h => by omega⟩]
  exact h
/-- A charge is paid up to a day just if enough is paid up to that day. -/
theorem payDay_le {ps : List (Int × Int)} (hs : Up ps) (hp : ∀ e ∈ ps, 0 ≤ e.2) {all c d : Int} (h1 : 1 ≤ all) (hc : 0 ≤ c) (hd : c ≤ d) : (payDay ps all c ps ≠ -1 ∧ payDay ps all c ps ≤ d) ↔ all ≤ uptoF ps d := by
  constructor
  · rintro ⟨h2, h3⟩
    obtain ⟨p, p1, p2, p3, _⟩ := payDay_some ps all c ps hs h2
    have : p.1 ≤ d := by omega
    have := uptoF_mono hp this
    omega
  · intro h
    obtain ⟨e, e1, e2, e3⟩ := upto_pay hp h1 h
    have hne : payDay ps all c ps ≠ -1 := fun h0 => by have := payDay_none ps all c hc ps h0 e e1; omega
    obtain ⟨p, p1, p2, p3, p4⟩ := payDay_some ps all c ps hs hne
    have := p4 e e1 e3
    exact ⟨hne, by omega⟩
theorem payDay_ge {ps : List (Int × Int)} (hs : Up ps) {all c : Int} (h : payDay ps all c ps ≠ -1) : c ≤ payDay ps all c ps := by
  obtain ⟨p, _, _, p3, _⟩ := payDay_some ps all c ps hs h
  omega
theorem paidAt_eq {cs ps : List (Int × Int)} {i : Nat} (hi : i < cs.length) : paidAt cs ps i = payDay ps (allOf cs (i + 1)) cs[i].1 ps := by
  unfold paidAt; simp [List.getD_eq_getElem?_getD, List.getElem?_eq_getElem hi]
theorem allOf_pos {cs : List (Int × Int)} (hc : ∀ e ∈ cs, 1 ≤ e.2) {i : Nat} (hi : i < cs.length) : 1 ≤ allOf cs (i + 1) := by
  have h0 : 0 ≤ allOf cs i := by
    have := allOf_mono (cs := cs) (fun e he => by have := hc e he; omega) (Nat.zero_le i) (by omega)
    simpa [allOf] using this
  have := hc cs[i] (List.getElem_mem _)
  rw [allOf_succ cs i hi]; omega
theorem paidAt_le {cs ps : List (Int × Int)} (hc : ∀ e ∈ cs, 0 ≤ e.1 ∧ 1 ≤ e.2) (hs : Up ps) (hp : ∀ e ∈ ps, 0 ≤ e.2) {i : Nat} (hi : i < cs.length) {d : Int} (hd : cs[i].1 ≤ d) : (paidAt cs ps i ≠ -1 ∧ paidAt cs ps i ≤ d) ↔ allOf cs (i + 1) ≤ uptoF ps d := by
  rw [paidAt_eq hi]
  exact payDay_le hs hp (allOf_pos (fun e he => (hc e he).2) hi) (hc _ (List.getElem_mem _)).1 hd
theorem paidAt_ge {cs ps : List (Int × Int)} (hs : Up ps) {i : Nat} (hi : i < cs.length) (h : paidAt cs ps i ≠ -1) : cs[i].1 ≤ paidAt cs ps i := by
  rw [paidAt_eq hi] at h ⊢
  exact payDay_ge hs h
theorem restK_sum (cs ps : List (Int × Int)) (d : Int) : ∀ k, (restK cs ps d k).sum = restSum cs d (uptoF ps d) k
  | 0 => rfl
  | k + 1 => by
    have e : restK cs ps d (k + 1) = restK cs ps d k ++ [restOf cs d (uptoF ps d) k] := by unfold restK; rw [List.range_succ]; simp
    rw [e, List.sum_append, restK_sum cs ps d k]; simp [restSum]
/-- What 'rests' and 'paid' tell of a charge up to a day. -/
structure Told (cs ps : List (Int × Int)) (d : Int) (i : Nat) : Prop where
  r0 : 0 ≤ restOf cs d (uptoF ps d) i
  r1 : restOf cs d (uptoF ps d) i ≤ (cs.getD i (0, 0)).2
  rz : restOf cs d (uptoF ps d) i = 0 ↔ (paidAt cs ps i ≠ -1 ∧ paidAt cs ps i ≤ d)
  ge : paidAt cs ps i ≠ -1 → (cs.getD i (0, 0)).1 ≤ paidAt cs ps i
  full : uptoF ps d < allOf cs i → restOf cs d (uptoF ps d) i = (cs.getD i (0, 0)).2
  open_ : 0 < restOf cs d (uptoF ps d) i → uptoF ps d < allOf cs (i + 1)
theorem told_of {cs ps : List (Int × Int)} (hc : ∀ e ∈ cs, 0 ≤ e.1 ∧ 1 ≤ e.2) (hcs : Up cs) (hs : Up ps) (hp : ∀ e ∈ ps, 0 ≤ e.2) {i : Nat} (hi : i < cs.length) {d : Int} (hd : cs[i].1 ≤ d) : Told cs ps d i := by
  have hgd : cs.getD i (0, 0) = cs[i] := by simp [List.getD_eq_getElem?_getD, List.getElem?_eq_getElem hi]
  have hc0 : ∀ e ∈ cs, 0 ≤ e.2 := fun e he => by have := hc e he; omega
  have hu := uptoF_nonneg hp d
  have hr := restOf_eq hcs hc0 hi d (uptoF ps d) hu hd
  have hx := hc cs[i] (List.getElem_mem _)
  have h1 := allOf_succ cs i hi
  have hpl := paidAt_le hc hs hp hi hd
  refine ⟨?_, ?_, ?_, fun h => by rw [hgd]; exact paidAt_ge hs hi h, fun h => ?_, fun h => ?_⟩
  · rw [hr]; split; omega; split <;> omega
  · rw [hr, hgd]; split; omega; split <;> omega
  · rw [hpl, hr]
    constructor
    · intro h; split at h
      · assumption
      · split at h <;> omega
    · intro h; rw [if_pos h]
  · rw [hr, hgd, if_neg (by omega), if_pos (by omega)]
  · rw [hr] at h
    split at h
    · omega
    · omega
end Go.Proofs.YtfojjecnmfkcfaaGreat
