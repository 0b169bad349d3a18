/- FeeLast returns true, whatever the numbers; what is passed in reads as it did. No condition. -/
import Derived.Test.YtfojjecnmfkcfaaP25
import Derived.Test.YtfojjecnmfkcfaaP17
import Derived.Deep.DeepCutAuto
namespace Go.Proofs.Ytfojjecnmfkcfaa
open Go.RowKit
set_option linter.unusedVariables false
/-- A made bill, and the sum of its Values so far. -/
structure LA (w0 wr : World) (g3 g4 : Nat) (A : Option Addr) (cA : Nat) (p : Int) (hs : List (Int × Int × Int)) (z : Int) : Prop where
  x0 : wr.cell? ⟨g3, 0, none⟩ = some (.int .i64 p)
  x1 : wr.cell? ⟨g3, 1, none⟩ = some (.slice A hs.length cA)
  al : wr.cell? ⟨g4, 0, none⟩ = some (.int .i64 z)
  fr : wr.frozen? ⟨g4, 0, none⟩ = false
  rd : Rd wr g3 A (trips hs)
  bw : Below w0.heap.size w0 wr
  l34 : g3 < g4
  l4 : g4 < wr.heap.size
  l0 : w0.heap.size ≤ g3
section
variable {w0 wr w' : World} {g3 g4 : Nat} {A : Option Addr} {cA : Nat} {p : Int} {hs : List (Int × Int × Int)} {z : Int}
theorem LA.below (h : LA w0 wr g3 g4 A cA p hs z) (hb : Below wr.heap.size wr w') : LA w0 w' g3 g4 A cA p hs z :=
  ⟨hb.at_ (Nat.lt_trans h.l34 h.l4) h.x0, hb.at_ (Nat.lt_trans h.l34 h.l4) h.x1, hb.at_ h.l4 h.al, (hb.frozen (p := ⟨g4, 0, none⟩) h.l4).trans h.fr, h.rd.keep fun b o hl => hb.cell (p := ⟨b, o, none⟩) (Nat.lt_trans hl (Nat.lt_trans h.l34 h.l4)), h.bw.trans (hb.mono h.bw.size), h.l34, Nat.lt_of_lt_of_le h.l4 hb.size, h.l0⟩
theorem LA.drewN (h : LA w0 wr g3 g4 A cA p hs z) (m : Nat) : LA w0 (wr.drewN m) g3 g4 A cA p hs z := h.below (below_drewN (Below.refl _ _) m)
theorem LA.set (h : LA w0 wr g3 g4 A cA p hs z) (v : Int) : LA w0 (wr.setCell ⟨g4, 0, none⟩ (.int .i64 v)) g3 g4 A cA p hs v := by
  have hne : ¬ g3 = g4 := by have := h.l34; omega
  have h0 := h.l0
  have h3 := h.l34
  refine ⟨(cell_far hne).trans h.x0, (cell_far hne).trans h.x1, World.cell?_setCell_same' _ _ _ (by rw [h.al]; rfl), by rw [World.frozen?_setCell]; exact h.fr, h.rd.keep fun b o hl => cell_far (by omega), h.bw.setCell (p := ⟨g4, 0, none⟩) (show w0.heap.size ≤ g4 by omega) _, h.l34, by simpa [World.setCell] using h.l4, h.l0⟩
end
theorem la_new {w0 w2 w3 w4 : World} {A : Option Addr} {cA : Nat} {p : Int} {hs : List (Int × Int × Int)} {t u : TypeId} (hr : Rd w2 w2.heap.size A (trips hs)) (hb : Below w0.heap.size w0 w2) (h3 : w2.alloc (.cells #[.int .i64 p, .slice A hs.length cA] t) = w3) (h4 : w3.alloc (.cells #[.int .i64 0] u) = w4) : LA w0 w4 w2.heap.size w3.heap.size A cA p hs 0 := by
  subst h3
  have b3 := below_new w2 (.cells #[.int .i64 p, .slice A hs.length cA] t)
  have b4 : Below (w2.alloc (.cells #[.int .i64 p, .slice A hs.length cA] t)).heap.size (w2.alloc (.cells #[.int .i64 p, .slice A hs.length cA] t)) w4 := by subst h4; exact below_new _ _
  have l2 : w2.heap.size < (w2.alloc (.cells #[.int .i64 p, .slice A hs.length cA] t)).heap.size := by simp
  have hb4 := b3.trans (b4.mono b3.size)
  refine ⟨b4.at_ l2 (news_new w2 [.int .i64 p, .slice A hs.length cA] t rfl 0 _ rfl), b4.at_ l2 (news_new w2 [.int .i64 p, .slice A hs.length cA] t rfl 1 _ rfl), ?_, ?_, hr.below hb4, hb.trans (hb4.mono hb.size), l2, ?_, hb.size⟩
  · subst h4; exact news_new _ [.int .i64 0] u rfl 0 _ rfl
  · subst h4; simp
  · subst h4; simp
theorem shares_bd {p : Int} {hs : List (Int × Int × Int)} (ho : housesOk hs) (h0 : valueSum hs ≠ 0) (hp : 0 ≤ p) (hp5 : p ≤ 500) (h1 : 1 ≤ hs.length) (hc : shareCode p hs = 0) {z : Int} (hz : z ∈ sharesL p hs) : 0 ≤ z ∧ z ≤ 501 := by
  have h6 : (sharesPs p hs).length = 6 := by unfold sharesPs; rw [bumps_len, floorsK_len]
  unfold sharesL at hz
  rw [if_pos hc] at hz
  obtain ⟨j, hj, rfl⟩ := List.mem_iff_getElem.1 hz
  rw [List.length_take] at hj
  rw [List.getElem_take]
  have e2 : (sharesPs p hs)[j]'(by omega) = (sharesPs p hs).getD j 0 := by simp [List.getD_eq_getElem?_getD, List.getElem?_eq_getElem (show j < (sharesPs p hs).length by omega)]
  rw [e2, sharesPs_up ho h0 hp h1 (show j < hs.length by omega)]
  have := floor_get_bd ho h0 hp j
  split <;> omega
theorem rat_facts {p : Int} {hs : List (Int × Int × Int)} {i : Nat} {z T : Int} (hi : i < hs.length) (hz : p * hs[i].1 = z) (z0 : 0 ≤ z) (hT : valueSum hs = T) (v1 : 0 < T) :
    ∃ num den, (ratL p hs)[i]'(by rw [ratL_len]; exact hi) = (num, den) ∧ 0 ≤ num ∧ num ≤ z ∧ 1 ≤ den ∧ den ≤ T ∧ num * T = z * den := by
  obtain ⟨N, rfl⟩ := Int.eq_ofNat_of_zero_le z0
  obtain ⟨D, rfl⟩ := Int.eq_ofNat_of_zero_le (show 0 ≤ T by omega)
  obtain ⟨b1, b2, b3, b4⟩ := low_bd (N := N) (D := D) (by omega)
  exact ⟨lowN N D, lowD N D, ratL_get hi hz hT, b1, b2, b3, b4, low_cross⟩
theorem share_facts {p : Int} {hs : List (Int × Int × Int)} {i : Nat} {z T : Int} (hS : sharesL p hs = (sharesPs p hs).take hs.length) (hU : ∀ i, i < hs.length → (sharesPs p hs).getD i 0 = floorOf p hs i + if upB p hs i then 1 else 0) (hl : (sharesL p hs).length = hs.length) (ho : housesOk hs) (h0 : valueSum hs ≠ 0) (hp : 0 ≤ p) (hi : i < hs.length) (hz : p * hs[i].1 = z) (hT : valueSum hs = T) :
    ∃ f, 0 ≤ f ∧ f ≤ p ∧ z.tdiv T = f ∧ (sharesL p hs)[i]'(by rw [hl]; exact hi) = f + if upB p hs i then 1 else 0 := by
  have h6 : (sharesPs p hs).length = 6 := by unfold sharesPs; rw [bumps_len, floorsK_len]
  have hn := ho.1
  have hb := floor_get_bd ho h0 hp i
  have e : floorOf p hs i = z / T := by
    unfold floorOf; rw [hT, ← hz]; simp [List.getD_eq_getElem?_getD, List.getElem?_eq_getElem hi]
  have z0 : 0 ≤ z := by rw [← hz]; exact Int.mul_nonneg hp (ho.2 _ (List.getElem_mem hi)).1
  rw [e] at hb
  refine ⟨z / T, hb.1, hb.2, Int.tdiv_eq_ediv_of_nonneg z0, ?_⟩
  have e2 : (sharesL p hs)[i]'(by rw [hl]; exact hi) = (sharesPs p hs).getD i 0 := by
    simp only [hS]
    rw [List.getElem_take]
    simp [List.getD_eq_getElem?_getD, List.getElem?_eq_getElem (show i < (sharesPs p hs).length by omega)]
  rw [e2, hU i hi, e]
theorem mulB {a b x y : Int} (h0 : 0 ≤ a) (h1 : a ≤ x) (h2 : 0 ≤ b) (h3 : b ≤ y) (hxy : x * y ≤ 100000000000) : 0 ≤ a * b ∧ a * b ≤ 100000000000 := by
  have := Int.mul_le_mul h1 h3 h2 (by omega)
  exact ⟨Int.mul_nonneg h0 h2, by omega⟩
set_option maxRecDepth 100000 in
set_option maxHeartbeats 1000000 in
/-- The remainder of a house's share. -/
theorem rest1_any {w0 w : World} {g3 g4 : Nat} {A : Option Addr} {cA : Nat} {p : Int} {hs : List (Int × Int × Int)} {T : Int} (h : LA w0 w g3 g4 A cA p hs T) (ho : housesOk hs) (hT : valueSum hs = T) (v1 : 0 < T) (v2 : T ≤ 6000) (p0 : 0 ≤ p) (p1 : p ≤ 500) (i : Nat) (hi : i < hs.length) :
    Calls Try.prog 72 #[.int .i64 (i : Int), .pointer (some ⟨g3, 0, none⟩), .pointer (some ⟨g4, 0, none⟩)] w fun e w' => e = .returned (.int .i64 (remOf p hs i)) ∧ ∃ m, w' = w.drewN m := by
  obtain ⟨bh, oh, rfl, hbb, y1, y2, y3⟩ := h.rd.trip hi
  have hbb' : bh < w.heap.size := Nat.lt_trans hbb (Nat.lt_trans h.l34 h.l4)
  obtain ⟨u1, u2, _⟩ := ho.2 hs[i] (List.getElem_mem _)
  obtain ⟨n1, n2⟩ := mul_bd p0 p1 u1 u2 (by omega)
  have er : remOf p hs i = p * hs[i].1 % T := by
    unfold remOf
    rw [hT, Int.toNat_natCast]
    simp [List.getD_eq_getElem?_getD, List.getElem?_eq_getElem hi]
  have ER := Lib.hid er
  clear er
  obtain ⟨z, hz⟩ : ∃ z, p * hs[i].1 = z := ⟨_, rfl⟩
  rw [hz] at n1 n2
  have w1 : IntKind.i64.wrap (p * hs[i].1) = z := by rw [hz]; exact IntWalk.i64_in _ (by omega)
  obtain ⟨r, hr⟩ : ∃ r, z % T = r := ⟨_, rfl⟩
  have r0 : 0 ≤ r := by rw [← hr]; exact Int.emod_nonneg _ (by omega)
  have r1 : r < T := by rw [← hr]; exact Int.emod_lt_of_pos _ v1
  have w2 : z.tmod T = r := by rw [Int.tmod_eq_emod_of_nonneg n1]; exact hr
  have w3 : IntKind.i64.wrap r = r := IntWalk.i64_in _ (by omega)
  have hT0 : ¬ T = 0 := by omega
  have x0 := h.x0
  have x1 := h.x1
  have al := h.al
  have l4 := h.l4
  have l3 := Nat.lt_trans h.l34 h.l4
  have hiz : (i : Int) < hs.length := by omega
  have hi0 : (0 : Int) ≤ (i : Int) := by omega
  have HZ := Lib.hid hz
  clear hz ho hT
  go_enter Try.func72, Try.ntmps72
  go_wp2_with fail
  go_quiet (fail)
  go_wp2_with fail
  go_ret
  exact ⟨ret_int (by rw [ER.out, HZ.out, hr]), _, rfl⟩
set_option maxRecDepth 100000 in
set_option maxHeartbeats 8000000 in
theorem feeLast_walk (A1 : Option Addr) (c1 : Nat) (zs1 : List Int) (w : World) (h1 : Bytes w A1 zs1) :
    Calls Try.prog 12 #[.slice A1 zs1.length c1] w fun e w' => e = .returned (.bool true) ∧ Below w.heap.size w w' := by
  go_enter Try.func12, Try.ntmps12
  go_wp2_with fail
  refine (fill_any A1 c1 zs1 w h1).mono ?_
  rintro e w1 ⟨g1, rfl, hg1, hC1, hb1⟩
  go_wp2_with fail
  refine (madeBill_any g1 A1 c1 zs1 400 6 w1 ⟨_, _, hC1⟩ (by omega) (by omega)).mono ?_
  rintro e w2 ⟨p, hs, v2, rfl, hMB, hown2, hC2, hg2⟩
  obtain ⟨A, cA, rfl, _, hRA⟩ := own_slice hown2
  have b2 : Below w.heap.size w w2 := hb1.grown hg2 hb1.size (fun k hk => by injection hk; omega)
  have hck := ckBill_made hMB (by omega) (by omega)
  have ho := housesOk_of hck
  have hn6 := ho.1
  have hn1 := hMB.l0
  have hp0 := hMB.p0
  have hp1 := hMB.p1
  have HCK := Lib.hid hck
  have HO := Lib.hid ho
  clear hC1 hC2 hg2 hb1 hown2 hck ho hMB h1
  go_wp2_with fail
  generalize hW3 : World.alloc w2 _ = W3
  generalize hW4 : World.alloc W3 _ = W4
  have HA0 := Lib.hid (la_new hRA b2 hW3 hW4)
  have e3 : W3.heap.size = w2.heap.size + 1 := by rw [← hW3]; simp
  rw [e3] at HA0
  generalize w2.heap.size = g3 at HA0 ⊢
  clear hW3 hW4 hRA b2 e3
  obtain ⟨g4, hg4⟩ : ∃ g4, g4 = g3 + 1 := ⟨_, rfl⟩
  rw [← hg4] at HA0 ⊢
  clear hg4
  have x1 := HA0.out.x1
  have l3 := Nat.lt_trans HA0.out.l34 HA0.out.l4
  go_wp2_with fail
  clear x1 l3
  go_loopw [6, 24] (fun _ iv wr => ∃ k : Nat, iv = .int .i64 k ∧ k ≤ hs.length ∧ Hid (LA w wr g3 g4 A cA p hs ((hs.map (·.1)).take k).sum)) (fun _ iv _ => hs.length - (intOf iv).toNat)
  case atStart => exact ⟨0, rfl, Nat.zero_le _, by simpa using HA0⟩
  case round =>
    clear HA0
    obtain ⟨k, rfl, hk, HA⟩ := hrel
    obtain ⟨s1, s2⟩ := valueSum_bd hs HO.out k
    by_cases hlt : k < hs.length
    · obtain ⟨bh, oh, rfl, hbb, y1, y2, y3⟩ := HA.out.rd.trip hlt
      have hbb' : bh < wr.heap.size := Nat.lt_trans hbb (Nat.lt_trans HA.out.l34 HA.out.l4)
      obtain ⟨u1, u2, _⟩ := HO.out.2 hs[k] (List.getElem_mem _)
      have hkz : (k : Int) < hs.length := by omega
      have HSS := Lib.hid (map_take_sum hs k hlt)
      have a4 := HA.out.al
      have f4 := HA.out.fr
      have l4 := HA.out.l4
      generalize hz : ((hs.map (·.1)).take k).sum = z at *
      clear hz
      have wz : IntKind.i64.wrap (z + hs[k].1) = z + hs[k].1 := IntWalk.i64_in _ (by omega)
      go_wp2_with fail
      go_roundw
      case rel => exact ⟨k + 1, by go_num, by omega, by rw [HSS.out]; exact (HA.out.set _).below (below_new _ _)⟩
      case measure => simp [intOf]; omega
    · obtain rfl : k = hs.length := by omega
      have e0 : ((hs.map (·.1)).take hs.length).sum = valueSum hs := by rw [List.take_of_length_le (by simp)]; rfl
      rw [e0] at HA s1 s2
      clear e0 hlt hk
      have a4 := HA.out.al
      have l4 := HA.out.l4
      have x0 := HA.out.x0
      have x1 := HA.out.x1
      have l3 := Nat.lt_trans HA.out.l34 HA.out.l4
      go_wp2_with fail
      clear x0 x1 a4
      refine (Exact_any A cA p hs wr (HA.out.rd.more (by omega)) (by omega)).mono ?_
      rintro e w5 ⟨vE, rfl, hoE, hb5⟩
      obtain ⟨E, cE, rfl, _, hE⟩ := own_slice hoE
      have HE := Lib.hid hE
      have HA5 := Lib.hid (HA.out.below hb5)
      clear hoE hE hb5 HA l3 l4
      have a4 := HA5.out.al
      have l4 := HA5.out.l4
      have x0 := HA5.out.x0
      have x1 := HA5.out.x1
      have l3 := Nat.lt_trans HA5.out.l34 HA5.out.l4
      go_wp2_with fail
      clear x0 x1 a4
      refine (Shares_any A cA p hs w5 (HA5.out.rd.more (by omega)) (by omega)).mono ?_
      rintro e w6 ⟨vS, rfl, hoS, hb6⟩
      obtain ⟨S, cS, rfl, _, hS⟩ := own_slice hoS
      have HS := Lib.hid hS
      have HE6 := Lib.hid (HE.out.next hb6)
      have HA6 := Lib.hid (HA5.out.below hb6)
      clear hoS hS hb6 HA5 HE l3 l4
      have a4 := HA6.out.al
      have l4 := HA6.out.l4
      have x0 := HA6.out.x0
      have x1 := HA6.out.x1
      have l3 := Nat.lt_trans HA6.out.l34 HA6.out.l4
      by_cases hv : valueSum hs = 0
      · have hcode : shareCode p hs = 1 := by unfold shareCode; rw [if_pos HCK.out, if_pos hv]
        rw [hcode]
        rw [hv] at a4
        clear hv hcode
        go_wp2_with fail
        refine (awake_any _).mono ?_
        rintro e w7 ⟨rfl, hb7⟩
        go_wp2_with fail
        go_ret
        exact ⟨rfl, HA6.out.bw.trans (hb7.mono HA6.out.bw.size)⟩
      · have hcode : shareCode p hs = 0 := by unfold shareCode; rw [if_pos HCK.out, if_neg hv]
        obtain ⟨v1, v2⟩ := valueSum_pos HO.out hv
        have hvb : (valueSum hs == 0) = false := by rw [beq_eq_false_iff_ne]; exact hv
        have eE : exactL p hs = ratL p hs := by unfold exactL; rw [if_pos hcode]
        have eEl : (exactL p hs).length = hs.length := by rw [eE, ratL_len]
        have h6 : (sharesPs p hs).length = 6 := by unfold sharesPs; rw [bumps_len, floorsK_len]
        have eS : sharesL p hs = (sharesPs p hs).take hs.length := by unfold sharesL; rw [if_pos hcode]
        have eSl : (sharesL p hs).length = hs.length := by rw [eS, List.length_take, h6]; omega
        have hsum : (sharesL p hs).sum = p := by rw [eS]; exact sharesL_sum HO.out hv hp0 hn1
        rw [hcode, eEl, eSl]
        rw [eE] at HE6
        have HSum := Lib.hid hsum
        have HSl := Lib.hid eSl
        have HSb : Hid (∀ z ∈ sharesL p hs, 0 ≤ z ∧ z ≤ 501) := fun z hz => shares_bd HO.out hv hp0 (by omega) hn1 hcode hz
        have HUp := Lib.hid (fun (i : Nat) (hi : i < hs.length) => sharesPs_up HO.out hv hp0 hn1 (i := i) hi)
        have HSeq := Lib.hid eS
        have HRem := Lib.hid (fun (i : Nat) (hu : upB p hs i = true) => up_rem HO.out hv hp0 hu)
        have HV := Lib.hid hv
        clear hcode eE eEl h6 eS eSl hsum hv
        generalize hT : valueSum hs = T at *
        have HTv := Lib.hid hT
        clear hT
        go_upto_region 12 with fail
        have y0 := HA6.out.x0
        have y1 := HA6.out.x1
        have HC6 : ∀ n, Hid (Calls Try.prog 52 #[.agg #[.int .i64 p, .slice A hs.length cA]] (w6.drewN n) fun e w' => e = .returned (.int .i64 0) ∧ (w'.cell? ⟨g3, 0, none⟩ = some (.int .i64 p) ∧ w'.cell? ⟨g3, 1, none⟩ = some (.slice A hs.length cA)) ∧ Below w6.heap.size w6 w') := by
          intro n
          refine (check_any A cA p hs (w6.drewN n) ((HA6.out.rd.more (Nat.le_of_lt l3)).drewN n) (by omega)).mono ?_
          rintro e w' ⟨rfl, hb⟩
          rw [HCK.out]
          have hb' : Below w6.heap.size w6 w' := (below_drewN (Below.refl _ _) n).trans hb
          exact ⟨rfl, ⟨hb'.at_ l3 y0, hb'.at_ l3 y1⟩, hb'⟩
        have HT6 : ∀ w', Below w6.heap.size w6 w' → Hid (Calls Try.prog 38 #[.slice S hs.length cS] w' fun e w'' => e = .returned (.int .i64 p) ∧ w'' = w') := by
          intro w' hb
          have h := total10_any S cS (sharesL p hs) w' (HS.out.next hb) (by rw [HSl.out]; omega) (fun z hz => by have := HSb.out z hz; omega)
          rw [HSl.out, HSum.out] at h
          exact h
        go_region_held3 (fun w' => w'.cell? ⟨g3, 0, none⟩ = some (.int .i64 p) ∧ w'.cell? ⟨g3, 1, none⟩ = some (.slice A hs.length cA)) (first | exact ⟨y0, y1⟩ | exact z1 | exact ⟨z1.1, z1.2⟩)
          (first | (go_at_call 52; refine (HC6 1).out.mono ?_; rintro e w7 ⟨rfl, z1, hb7⟩) | (go_at_call 38; refine (HT6 w7 hb7).out.mono ?_; rintro e w8 ⟨rfl, rfl⟩))
        have HA7 := Lib.hid (HA6.out.below hb7)
        have HE7 := Lib.hid (HE6.out.next hb7)
        have HS7 := Lib.hid (HS.out.next hb7)
        clear HA6 HE6 HS HC6 HT6 y0 y1 z1 hb7 x0 x1 l3 l4 a4
        go_wp2_with fail
        have HAW : Hid (∀ wr, Below w8.heap.size w8 wr → LA w wr g3 g4 A cA p hs T) := fun wr hb => HA7.out.below hb
        have HR1 : Hid (∀ (wr : World), Below w8.heap.size w8 wr → ∀ i, i < hs.length → Calls Try.prog 72 #[.int .i64 (i : Int), .pointer (some ⟨g3, 0, none⟩), .pointer (some ⟨g4, 0, none⟩)] wr fun e w' => e = .returned (.int .i64 (remOf p hs i)) ∧ ∃ m, w' = wr.drewN m) := fun wr hb i hi => rest1_any (HAW.out wr hb) HO.out HTv.out v1 v2 hp0 (by omega) i hi
        go_loopw [12, 13, 14, 15, 16, 17, 91] (fun _ _ _ _ _ _ iv wr => ∃ i : Nat, iv = .int .i64 i ∧ i ≤ hs.length ∧ Hid (Below w8.heap.size w8 wr)) (fun _ _ _ _ _ _ iv _ => hs.length - (intOf iv).toNat)
        case atStart => exact ⟨0, rfl, Nat.zero_le _, Below.refl _ _⟩
        case round =>
          obtain ⟨i, rfl, hi, HY⟩ := hrel
          by_cases hil : i < hs.length
          · have HAr := Lib.hid (HAW.out wr HY.out)
            obtain ⟨be, oe, rfl, hbe, e1, e2⟩ := (HE7.out.next HY.out).pair (t := ratL p hs) (k := i) (by rw [ratL_len]; exact hil)
            obtain ⟨bs, os, rfl, hbs8, s1⟩ := HS7.out.int (t := sharesL p hs) (k := i) (by rw [HSl.out]; exact hil)
            have s1 := HY.out.at_ hbs8 s1
            have hbs := Nat.lt_of_lt_of_le hbs8 HY.out.size
            obtain ⟨bh, oh, rfl, hbh, y1, y2, y3⟩ := HAr.out.rd.trip hil
            have hbh' : bh < wr.heap.size := Nat.lt_trans hbh (Nat.lt_trans HAr.out.l34 HAr.out.l4)
            obtain ⟨u1, u2, _⟩ := HO.out.2 hs[i] (List.getElem_mem _)
            obtain ⟨n1, n2⟩ := mul_bd hp0 (show p ≤ 500 by omega) u1 u2 (by omega)
            obtain ⟨z, hz⟩ : ∃ z, p * hs[i].1 = z := ⟨_, rfl⟩
            obtain ⟨num, den, hrat, m0, m1, m2, m3, hcross⟩ := rat_facts hil hz (by omega) HTv.out v1
            rw [hrat] at e1 e2
            simp only at e1 e2
            clear hrat
            obtain ⟨f, f0, f1, hfz, hsh⟩ := share_facts HSeq.out HUp.out HSl.out HO.out (by rw [HTv.out]; omega) hp0 hil hz HTv.out
            rw [hsh] at s1
            clear hsh
            have hn1 : 0 ≤ z ∧ z ≤ 500000 := by omega
            obtain ⟨z0, z1⟩ := hn1
            obtain ⟨c0, c1⟩ := mulB m0 (show num ≤ 500000 by omega) (show 0 ≤ T by omega) v2 (by omega)
            have hcr2 : num * T = z * den := hcross
            have hcn : (num * T != z * den) = false := by rw [hcr2]; simp
            have w1' : IntKind.i64.wrap (p * hs[i].1) = z := by rw [hz]; exact IntWalk.i64_in _ (by omega)
            have w2' : IntKind.i64.wrap (num * T) = num * T := IntWalk.i64_in _ (by omega)
            have w3' : IntKind.i64.wrap (z * den) = num * T := by rw [← hcr2]; exact w2'
            have w4' : z.tdiv T = f := hfz
            have w5' : IntKind.i64.wrap f = f := IntWalk.i64_in _ (by omega)
            have w6' : IntKind.i64.wrap (f + 1) = f + 1 := IntWalk.i64_in _ (by omega)
            have hT0 : ¬ T = 0 := by omega
            have x0 := HAr.out.x0
            have x1 := HAr.out.x1
            have al := HAr.out.al
            have l4 := HAr.out.l4
            have l3 := Nat.lt_trans HAr.out.l34 HAr.out.l4
            have hiz : (i : Int) < hs.length := by omega
            have hi0 : (0 : Int) ≤ (i : Int) := by omega
            have HZ := Lib.hid hz
            clear hz hcross hcr2 n1 n2 hfz
            have hbe' : be < wr.heap.size := hbe
            have hbS : Hid (∀ w', Below w8.heap.size w8 w' → bs < w'.heap.size) := fun w' hb => Nat.lt_of_lt_of_le hbs8 hb.size
            have hbH : Hid (∀ w', Below w8.heap.size w8 w' → bh < w'.heap.size) := fun w' hb => Nat.lt_of_lt_of_le (Nat.lt_trans hbh (Nat.lt_trans HA7.out.l34 HA7.out.l4)) hb.size
            go_wp2_with fail
            generalize hW1 : World.alloc wr _ = W1
            have hbn : Below wr.heap.size wr W1 := by rw [← hW1]; exact below_new _ _
            have q0 : W1.cell? ⟨wr.heap.size, 0, none⟩ = some (.int .i64 num) := by rw [← hW1]; exact news_new wr [.int .i64 num, .int .i64 den] 97 rfl 0 _ rfl
            have q1 : W1.cell? ⟨wr.heap.size, 1, none⟩ = some (.int .i64 den) := by rw [← hW1]; exact news_new wr [.int .i64 num, .int .i64 den] 97 rfl 1 _ rfl
            have ql : wr.heap.size < W1.heap.size := by rw [← hW1]; simp
            have HY1 := Lib.hid (HY.out.trans (hbn.mono HY.out.size))
            have x0 := hbn.at_ l3 x0
            have x1 := hbn.at_ l3 x1
            have al := hbn.at_ l4 al
            have s1 := hbn.at_ hbs s1
            have y1 := hbn.at_ hbh' y1
            have l3 := Nat.lt_of_lt_of_le l3 hbn.size
            have l4 := Nat.lt_of_lt_of_le l4 hbn.size
            have hbs := Nat.lt_of_lt_of_le hbs hbn.size
            have hbh' := Nat.lt_of_lt_of_le hbh' hbn.size
            clear hW1 hbn HAr HY e1 e2 hbe hbe' y2 y3 hbh
            generalize wr.heap.size = b9 at q0 q1 ql ⊢
            obtain ⟨ri, hri⟩ : ∃ r : Int, remOf p hs i = r := ⟨_, rfl⟩
            have HRi : Hid (∀ W, Below W1.heap.size W1 W → Calls Try.prog 72 #[.int .i64 (i : Int), .pointer (some ⟨g3, 0, none⟩), .pointer (some ⟨g4, 0, none⟩)] W fun e w' => e = .returned (.int .i64 ri) ∧ ∃ m, w' = W.drewN m) := fun W hW => by
              rw [← hri]; exact HR1.out _ (HY1.out.trans (hW.mono HY1.out.size)) i hil
            have HRI := Lib.hid hri
            by_cases hu : upB p hs i = true
            · rw [if_pos hu] at s1
              have hrm := HRem.out i hu
              have hrb : (ri == 0) = false := by rw [beq_eq_false_iff_ne, ← HRI.out]; exact hrm
              have HU := Lib.hid hu
              clear hu hrm hri
              go_quiet (fail)
              go_wp2_with fail
              go_quiet (fail)
              go_wp2_with fail
              rw [World.drewN_drewN]
              generalize hW2 : World.drewN W1 _ = W2
              have hb2 : Below W1.heap.size W1 W2 := by rw [← hW2]; exact below_drewN (Below.refl _ _) _
              have x0 := hb2.at_ l3 x0
              have x1 := hb2.at_ l3 x1
              have al := hb2.at_ l4 al
              have s1 := hb2.at_ hbs s1
              have l3 := Nat.lt_of_lt_of_le l3 hb2.size
              have l4 := Nat.lt_of_lt_of_le l4 hb2.size
              have hbs := Nat.lt_of_lt_of_le hbs hb2.size
              have HY2 := Lib.hid (HY1.out.trans (hb2.mono HY1.out.size))
              have HRj : ∀ n, Hid (Calls Try.prog 72 #[.int .i64 (i : Int), .pointer (some ⟨g3, 0, none⟩), .pointer (some ⟨g4, 0, none⟩)] (W2.drewN n) fun e w' => e = .returned (.int .i64 ri) ∧ ∃ m, w' = (W2.drewN n).drewN m) := fun n => HRi.out _ (below_drewN hb2 n)
              clear hW2 hb2 y1 hbh' q0 q1
              go_quiet ((go_at_call 72; exact Calls.quiet_of (HRj _).out))
              have HYZ : Hid (Below w8.heap.size w8 (W2.drewN nq)) := below_drewN HY2.out nq
              go_wp2_with fail
              go_loopw [16, 17, 157] (fun _ _ kv wx => ∃ j : Nat, kv = .int .i64 j ∧ j ≤ hs.length ∧ Hid (Below w8.heap.size w8 wx)) (fun _ _ kv _ => hs.length - (intOf kv).toNat)
              case atStart => exact ⟨0, rfl, Nat.zero_le _, HYZ⟩
              case round =>
                obtain ⟨j, rfl, hj, HX⟩ := hrel
                by_cases hjl : j < hs.length
                · have HAx := Lib.hid (HAW.out wr HX.out)
                  have sj := (HS7.out.next HX.out).int' (t := sharesL p hs) (k := j) (by rw [HSl.out]; exact hjl)
                  obtain ⟨v1', v2', v3'⟩ := HAx.out.rd.trip' hjl
                  have hbs := hbS.out wr HX.out
                  have hbh' := hbH.out wr HX.out
                  obtain ⟨u1, u2, _⟩ := HO.out.2 hs[j] (List.getElem_mem _)
                  obtain ⟨n1, n2⟩ := mul_bd hp0 (show p ≤ 500 by omega) u1 u2 (by omega)
                  obtain ⟨zj, hzj⟩ : ∃ z, p * hs[j].1 = z := ⟨_, rfl⟩
                  obtain ⟨fj, g0, g1, hgz, hsj⟩ := share_facts HSeq.out HUp.out HSl.out HO.out (by rw [HTv.out]; omega) hp0 hjl hzj HTv.out
                  rw [hsj] at sj
                  rw [hzj] at n1 n2
                  have w1j : IntKind.i64.wrap (p * hs[j].1) = zj := by rw [hzj]; exact IntWalk.i64_in _ (by omega)
                  have w2j : IntKind.i64.wrap fj = fj := IntWalk.i64_in _ (by omega)
                  have w4j : zj.tdiv T = fj := hgz
                  have x0 := HAx.out.x0
                  have x1 := HAx.out.x1
                  have al := HAx.out.al
                  have l4 := HAx.out.l4
                  have l3 := Nat.lt_trans HAx.out.l34 HAx.out.l4
                  have hjz : (j : Int) < hs.length := by omega
                  have hj0 : (0 : Int) ≤ (j : Int) := by omega
                  clear hsj hgz hzj v2' v3' u1 u2
                  by_cases huj : upB p hs j = true
                  · rw [if_pos huj] at sj
                    clear huj
                    go_wp2_with fail
                    go_quiet (fail)
                    go_wp2_with fail
                    go_roundw
                    case rel => exact ⟨j + 1, by go_num, by omega, below_drewN HX.out _⟩
                    case measure => simp [intOf]; omega
                  · rw [if_neg huj, Int.add_zero] at sj
                    have hbef : ¬ Bef (remOf p hs) j i := fun h => huj (up_before HU.out h)
                    obtain ⟨rj, hrj⟩ : ∃ r : Int, remOf p hs j = r := ⟨_, rfl⟩
                    have hRi : Hid (∀ W, Below w8.heap.size w8 W → Calls Try.prog 72 #[.int .i64 (i : Int), .pointer (some ⟨g3, 0, none⟩), .pointer (some ⟨g4, 0, none⟩)] W fun e w' => e = .returned (.int .i64 ri) ∧ ∃ m, w' = W.drewN m) := fun W hW => by
                      rw [← HRI.out]; exact HR1.out _ hW i hil
                    have hRj : Hid (∀ W, Below w8.heap.size w8 W → Calls Try.prog 72 #[.int .i64 (j : Int), .pointer (some ⟨g3, 0, none⟩), .pointer (some ⟨g4, 0, none⟩)] W fun e w' => e = .returned (.int .i64 rj) ∧ ∃ m, w' = W.drewN m) := fun W hW => by
                      rw [← hrj]; exact HR1.out _ hW j hjl
                    unfold Bef at hbef
                    rw [hrj, HRI.out] at hbef
                    have hlt1 : ¬ ri < rj := by omega
                    clear huj hrj
                    by_cases heq : rj = ri
                    · subst heq
                      have hji : ¬ (j : Int) < (i : Int) := by omega
                      clear hbef
                      go_wp2_with fail
                      go_quiet (fail)
                      go_wp2_with fail
                      generalize hWa : World.drewN _ _ = Wa
                      have HXa : Hid (Below w8.heap.size w8 Wa) := by rw [← hWa]; exact below_drewN HX.out _
                      clear hWa
                      refine (hRj.out _ HXa.out).mono ?_
                      rintro e wq ⟨rfl, mq, rfl⟩
                      go_wp2_with fail
                      generalize hWb : World.drewN _ _ = Wb
                      have HXb : Hid (Below w8.heap.size w8 Wb) := by rw [← hWb]; exact below_drewN HXa.out _
                      clear hWb
                      refine (hRi.out _ HXb.out).mono ?_
                      rintro e wq ⟨rfl, mq, rfl⟩
                      go_wp2_with fail
                      generalize hWc : World.drewN _ _ = Wc
                      have HXc : Hid (Below w8.heap.size w8 Wc) := by rw [← hWc]; exact below_drewN HXb.out _
                      clear hWc
                      refine (hRj.out _ HXc.out).mono ?_
                      rintro e wq ⟨rfl, mq, rfl⟩
                      go_wp2_with fail
                      generalize hWd : World.drewN _ _ = Wd
                      have HXd : Hid (Below w8.heap.size w8 Wd) := by rw [← hWd]; exact below_drewN HXc.out _
                      clear hWd
                      refine (hRi.out _ HXd.out).mono ?_
                      rintro e wq ⟨rfl, mq, rfl⟩
                      go_wp2_with fail
                      have HXd := Lib.hid (below_drewN HXd.out mq)
                      go_roundw
                      case rel => exact ⟨j + 1, by go_num, by omega, HXd⟩
                      case measure => simp [intOf]; omega
                    · have hne : (rj == ri) = false := by rw [beq_eq_false_iff_ne]; exact heq
                      clear hbef heq
                      go_wp2_with fail
                      go_quiet (fail)
                      go_wp2_with fail
                      generalize hWa : World.drewN _ _ = Wa
                      have HXa : Hid (Below w8.heap.size w8 Wa) := by rw [← hWa]; exact below_drewN HX.out _
                      clear hWa
                      refine (hRj.out _ HXa.out).mono ?_
                      rintro e wq ⟨rfl, mq, rfl⟩
                      go_wp2_with fail
                      generalize hWb : World.drewN _ _ = Wb
                      have HXb : Hid (Below w8.heap.size w8 Wb) := by rw [← hWb]; exact below_drewN HXa.out _
                      clear hWb
                      refine (hRi.out _ HXb.out).mono ?_
                      rintro e wq ⟨rfl, mq, rfl⟩
                      go_wp2_with fail
                      generalize hWc : World.drewN _ _ = Wc
                      have HXc : Hid (Below w8.heap.size w8 Wc) := by rw [← hWc]; exact below_drewN HXb.out _
                      clear hWc
                      refine (hRj.out _ HXc.out).mono ?_
                      rintro e wq ⟨rfl, mq, rfl⟩
                      go_wp2_with fail
                      generalize hWd : World.drewN _ _ = Wd
                      have HXd : Hid (Below w8.heap.size w8 Wd) := by rw [← hWd]; exact below_drewN HXc.out _
                      clear hWd
                      refine (hRi.out _ HXd.out).mono ?_
                      rintro e wq ⟨rfl, mq, rfl⟩
                      go_wp2_with fail
                      have HXd := Lib.hid (below_drewN HXd.out mq)
                      go_roundw
                      case rel => exact ⟨j + 1, by go_num, by omega, HXd⟩
                      case measure => simp [intOf]; omega
                · go_wp2_with fail
                  go_roundw
                  case rel => exact ⟨i + 1, by go_num, by omega, HX⟩
                  case measure => simp [intOf]; omega
            · have hu' : upB p hs i = false := by simpa using hu
              rw [if_neg hu, Int.add_zero] at s1
              have hff : (f == f + 1) = false := by rw [beq_eq_false_iff_ne]; omega
              have HU := Lib.hid hu'
              clear hu hu'
              go_quiet (fail)
              go_wp2_with fail
              go_quiet (fail)
              go_wp2_with fail
              go_quiet (fail)
              rw [World.drewN_drewN, World.drewN_drewN]
              generalize hW2 : World.drewN W1 _ = W2
              have HYZ : Hid (Below w8.heap.size w8 W2) := by rw [← hW2]; exact below_drewN HY1.out _
              clear hW2
              go_wp2_with fail
              go_loopw [16, 17, 157] (fun _ _ kv wx => ∃ j : Nat, kv = .int .i64 j ∧ j ≤ hs.length ∧ Hid (Below w8.heap.size w8 wx)) (fun _ _ kv _ => hs.length - (intOf kv).toNat)
              case atStart => exact ⟨0, rfl, Nat.zero_le _, HYZ⟩
              case round =>
                obtain ⟨j, rfl, hj, HX⟩ := hrel
                by_cases hjl : j < hs.length
                · have HAx := Lib.hid (HAW.out wr HX.out)
                  have sj := (HS7.out.next HX.out).int' (t := sharesL p hs) (k := j) (by rw [HSl.out]; exact hjl)
                  obtain ⟨v1', v2', v3'⟩ := HAx.out.rd.trip' hjl
                  have hbs := hbS.out wr HX.out
                  have hbh' := hbH.out wr HX.out
                  obtain ⟨u1, u2, _⟩ := HO.out.2 hs[j] (List.getElem_mem _)
                  obtain ⟨n1, n2⟩ := mul_bd hp0 (show p ≤ 500 by omega) u1 u2 (by omega)
                  obtain ⟨zj, hzj⟩ : ∃ z, p * hs[j].1 = z := ⟨_, rfl⟩
                  obtain ⟨fj, g0, g1, hgz, hsj⟩ := share_facts HSeq.out HUp.out HSl.out HO.out (by rw [HTv.out]; omega) hp0 hjl hzj HTv.out
                  rw [hsj] at sj
                  rw [hzj] at n1 n2
                  have w1j : IntKind.i64.wrap (p * hs[j].1) = zj := by rw [hzj]; exact IntWalk.i64_in _ (by omega)
                  have w2j : IntKind.i64.wrap fj = fj := IntWalk.i64_in _ (by omega)
                  have w4j : zj.tdiv T = fj := hgz
                  have x0 := HAx.out.x0
                  have x1 := HAx.out.x1
                  have al := HAx.out.al
                  have l4 := HAx.out.l4
                  have l3 := Nat.lt_trans HAx.out.l34 HAx.out.l4
                  have hjz : (j : Int) < hs.length := by omega
                  have hj0 : (0 : Int) ≤ (j : Int) := by omega
                  clear hsj hgz hzj v2' v3' u1 u2
                  by_cases huj : upB p hs j = true
                  · rw [if_pos huj] at sj
                    clear huj
                    go_wp2_with fail
                    go_quiet (fail)
                    go_wp2_with fail
                    go_roundw
                    case rel => exact ⟨j + 1, by go_num, by omega, below_drewN HX.out _⟩
                    case measure => simp [intOf]; omega
                  · rw [if_neg huj, Int.add_zero] at sj
                    clear huj
                    go_wp2_with fail
                    go_quiet (fail)
                    go_wp2_with fail
                    go_roundw
                    case rel => exact ⟨j + 1, by go_num, by omega, below_drewN HX.out _⟩
                    case measure => simp [intOf]; omega
                · go_wp2_with fail
                  go_roundw
                  case rel => exact ⟨i + 1, by go_num, by omega, HX⟩
                  case measure => simp [intOf]; omega
          · go_wp2_with fail
            refine (awake_any _).mono ?_
            rintro e w15 ⟨rfl, hb15⟩
            go_wp2_with fail
            go_ret
            have hx := HA7.out.bw.trans (HY.out.mono HA7.out.bw.size)
            exact ⟨rfl, hx.trans (hb15.mono hx.size)⟩
end Go.Proofs.Ytfojjecnmfkcfaa
