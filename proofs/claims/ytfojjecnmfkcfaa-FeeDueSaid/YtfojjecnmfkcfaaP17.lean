/- FeeMore's mathematics: a penny more; a higher value; wider limits. Bids, Appeal and Wrap as FeeMore asks; where it stands; a row of houses that is written in place. -/
import Derived.Test.YtfojjecnmfkcfaaP16
namespace Go.Proofs.Ytfojjecnmfkcfaa
open Go.RowKit
set_option linter.unusedVariables false
theorem ckBill_of {p q : Int} {hs : List (Int × Int × Int)} (h : ckBill p hs = 0) (h0 : 0 ≤ q) (h1 : q ≤ 500) : ckBill q hs = 0 := by
  obtain ⟨p0, p1, _⟩ := ckBill_ok h
  have e1 : inB p 0 500 = true := inB_iff.2 (by omega)
  have e2 : inB q 0 500 = true := inB_iff.2 (by omega)
  unfold ckBill at h ⊢
  rw [e1] at h; rw [e2]; exact h
theorem bids_next {hs : List (Int × Int × Int)} {p : Int} (ho : housesOk hs) (hk : bidOk hs p = true) (hlt : p < mostSum hs) :
    ∃ b : Nat, b < hs.length ∧ bidOk hs (p + 1) = true ∧ bidPs hs (p + 1) = bump (bidPs hs p) b := by
  have f := bidPs_fits ho p
  have s := bidPs_sum hk
  rcases bestK_cases hs (bidPs hs p) hs.length with h | ⟨b, hb, h⟩
  · have := full_sum ho f h; omega
  · have hk2 : bidOk hs (p + 1) = true := (bidOk_iff ho (p + 1)).2 (by have := (bidOk_iff ho p).1 hk; omega)
    refine ⟨b, hb, hk2, ?_⟩
    refine (bids_unique ho hk2 (fits_bump ho f hb (bestK_can _ _ _ _ h)) (still_bump ho f (bidPs_still ho p) h hb) ?_).symm
    unfold bump
    rw [sum_set _ _ _ (by have := f.1; have := ho.1; omega)]
    omega
theorem bids_last {hs : List (Int × Int × Int)} {p : Int} (ho : housesOk hs) (h : mostSum hs = p) : bidOk hs (p + 1) = false := by
  cases hc : bidOk hs (p + 1) with
  | false => rfl
  | true => have := (bidOk_iff ho (p + 1)).1 hc; omega
theorem bidsN_next {hs : List (Int × Int × Int)} {p : Int} {B B' : List Int} (hB : BidsN hs p B) (hB' : BidsN hs (p + 1) B') (hlt : p < mostSum hs) :
    ∃ b : Nat, b < hs.length ∧ ∀ i, B'.getD i 0 = B.getD i 0 + if i = b then 1 else 0 := by
  obtain ⟨b, hb, hk2, he⟩ := bids_next hB.ok hB.bid hlt
  refine ⟨b, hb, fun i => ?_⟩
  rw [hB.eq, hB'.eq, take_getD hB.ok, take_getD hB.ok, he]
  unfold bump
  have hl : b < (bidPs hs p).length := by rw [bidPs_len hB.ok]; have := hB.ok.1; omega
  rw [set_getD _ _ _ _ hl]
  by_cases h : i = b
  · rw [if_pos h, if_pos h, h]
  · rw [if_neg h, if_neg h]; omega
theorem reval_self {hs : List (Int × Int × Int)} {j : Nat} (hj : j < hs.length) : revalue hs j (hV hs j) = hs := by
  refine List.ext_getElem (by rw [revalue_length]) fun i h1 h2 => ?_
  have := revalue_getD hj (hV hs j) i
  simp only [List.getD_eq_getElem?_getD, List.getElem?_eq_getElem h1, List.getElem?_eq_getElem h2, Option.getD_some] at this
  rw [this]
  by_cases h : i = j
  · subst h; rw [if_pos rfl]; unfold hV hL hM; simp [List.getD_eq_getElem?_getD, List.getElem?_eq_getElem h2]
  · rw [if_neg h]
/-- A house valued higher pays no less, and the others no more. -/
theorem higher {hs : List (Int × Int × Int)} {p : Int} (ho : housesOk hs) (hk : bidOk hs p = true) {j : Nat} (hj : j < hs.length) {v : Int} (h1 : hV hs j ≤ v) (h2 : v ≤ 1000) :
    (bidPs hs p).getD j 0 ≤ (bidPs (revalue hs j v) p).getD j 0 ∧ ∀ i, i ≠ j → (bidPs (revalue hs j v) p).getD i 0 ≤ (bidPs hs p).getD i 0 := by
  have hv := hV_nonneg ho j
  have a := bids_mono ho hj hv.1 h1 h2 hk
  have b := fun i hij => bids_mono_other ho hj hv.1 h1 h2 hk (i := i) hij
  rw [reval_self hj] at a b
  exact ⟨a, b⟩
/-- What a house may become when limits that do not bind are widened. -/
def Freed (x : Int × Int × Int) (q : Int) (y : Int × Int × Int) : Prop := y.1 = x.1 ∧ 0 ≤ y.2.1 ∧ y.2.1 ≤ x.2.1 ∧ (y.2.1 = x.2.1 ∨ x.2.1 < q) ∧ x.2.2 ≤ y.2.2 ∧ y.2.2 ≤ 500 ∧ (y.2.2 = x.2.2 ∨ q < x.2.2)
theorem freed_same {hs fs : List (Int × Int × Int)} {p : Int} {B : List Int} (hc : ckBill p hs = 0) (hB : BidsN hs p B) (hl : fs.length = hs.length) (hf : ∀ i, i < hs.length → Freed (hs.getD i (0, 0, 0)) (B.getD i 0) (fs.getD i (0, 0, 0))) :
    ckBill p fs = 0 ∧ BidsN fs p B := by
  have ho := hB.ok
  obtain ⟨p0, p1, l0, l1, hall⟩ := ckBill_ok hc
  have hall' : ∀ x ∈ fs, 0 ≤ x.1 ∧ x.1 ≤ 1000 ∧ 0 ≤ x.2.1 ∧ x.2.1 ≤ x.2.2 ∧ x.2.2 ≤ 500 := by
    intro x hx
    obtain ⟨i, hi, rfl⟩ := List.mem_iff_getElem.1 hx
    have hi' : i < hs.length := by omega
    obtain ⟨f1, f2, f3, f4, f5, f6, f7⟩ := hf i hi'
    simp only [List.getD_eq_getElem?_getD, List.getElem?_eq_getElem hi, List.getElem?_eq_getElem hi', Option.getD_some] at f1 f2 f3 f4 f5 f6 f7
    have := hall hs[i] (List.getElem_mem _)
    omega
  have hck : ckBill p fs = 0 := by
    have e1 : inB p 0 500 = true := inB_iff.2 (by omega)
    have e2 : inB fs.length 1 6 = true := inB_iff.2 (by omega)
    have e3 : fs.any houseOkP = false := List.any_eq_false.2 fun x hx => by
      have := hall' x hx
      simp [houseOkP, houseOk, inB]; omega
    unfold ckBill
    rw [if_neg (by simp [e1]), if_neg (by simp [e2]), e3]
    rfl
  have ho' := housesOk_of hck
  have fit : fitsN fs B := ⟨by rw [hl]; exact hB.fit.1, fun i hi => by
    have hi' : i < hs.length := by omega
    obtain ⟨f1, f2, f3, f4, f5, f6, f7⟩ := hf i hi'
    have := hB.fit.2 i hi'
    unfold hL hM at *
    omega⟩
  have still : Still fs B := by
    intro i k hi hk hne h1 h2
    have hi' : i < hs.length := by omega
    have hk' : k < hs.length := by omega
    obtain ⟨f1, f2, f3, f4, f5, f6, f7⟩ := hf i hi'
    obtain ⟨g1, g2, g3, g4, g5, g6, g7⟩ := hf k hk'
    have bi := hB.fit.2 i hi'
    have bk := hB.fit.2 k hk'
    have := hB.still i k hi' hk' hne (by unfold hL hM at *; omega) (by unfold hL hM at *; omega)
    unfold hV at *
    rw [f1, g1]
    exact this
  have hk : bidOk fs p = true := (bidOk_iff ho' p).2 (by have := fitsN_sum fit; have := hB.sum; omega)
  exact ⟨hck, ho', hk, bids_unique_n ho' hk fit still hB.sum, fit, still, hB.sum⟩
end Go.Proofs.Ytfojjecnmfkcfaa
namespace Go.Proofs.Ytfojjecnmfkcfaa
open Go.RowKit
set_option linter.unusedVariables false
def BidG (hs : List (Int × Int × Int)) (B : List Int) (W : World) (e : Ending) (w' : World) : Prop :=
  ∃ b c : Nat, e = .returned (.tuple #[.slice (some ⟨b, 0, none⟩) hs.length c, .int .i64 0]) ∧ W.heap.size ≤ b ∧ Lst w' b B ∧ Below W.heap.size W w'
theorem bidsG_any (A : Option Addr) (c : Nat) (p : Int) (hs : List (Int × Int × Int)) (B : List Int) (w : World) (hr : Rd w w.heap.size A (trips hs)) (hc : ckBill p hs = 0) (hB : BidsN hs p B) :
    Calls Try.prog 36 #[.agg #[.int .i64 p, .slice A hs.length c]] w (BidG hs B w) := by
  obtain ⟨_, _, l0, l1, _⟩ := ckBill_ok hc
  have h : bidsCode p hs = 0 := by unfold bidsCode; rw [if_pos hc, if_pos hB.bid]
  have h2 : bidsL p hs = B := by unfold bidsL; rw [if_pos h]; exact hB.eq.symm
  have := Bids_any A c p hs w hr (by omega)
  rw [h, h2, hB.fit.1] at this
  refine this.mono ?_
  rintro e w' ⟨v, rfl, hown, hb⟩
  obtain ⟨b, c, rfl, h1, h2, h3⟩ := own_lst' hown hB.fit.1 (by omega)
  exact ⟨b, c, rfl, h1, h3, hb⟩
theorem bids0_any (A : Option Addr) (c : Nat) (p : Int) (hs : List (Int × Int × Int)) (w : World) (hr : Rd w w.heap.size A (trips hs)) (hc : ckBill p hs = 0) (hk : bidOk hs p = false) :
    Calls Try.prog 36 #[.agg #[.int .i64 p, .slice A hs.length c]] w fun e w' => (∃ A' c', e = .returned (.tuple #[.slice A' 0 c', .int .i64 1])) ∧ Below w.heap.size w w' := by
  obtain ⟨_, _, l0, l1, _⟩ := ckBill_ok hc
  have h : bidsCode p hs = 1 := by unfold bidsCode; rw [if_pos hc, hk]; rfl
  have h2 : bidsL p hs = [] := by unfold bidsL; rw [h]; rfl
  have := Bids_any A c p hs w hr (by omega)
  rw [h, h2] at this
  refine this.mono ?_
  rintro e w' ⟨v, rfl, hown, hb⟩
  obtain ⟨A', c', rfl, _⟩ := own_slice hown
  exact ⟨⟨A', c', rfl⟩, hb⟩
def AppG (p : Int) (hs : List (Int × Int × Int)) (j : Nat) (B : List Int) (W : World) (e : Ending) (w' : World) : Prop :=
  ∃ (b c : Nat) (T : List Int), e = .returned (.tuple #[.slice (some ⟨b, 0, none⟩) hs.length c, .int .i64 (B.getD j 0 - T.getD j 0), .int .i64 0]) ∧ Lst w' b T ∧ T.length = hs.length ∧ T.sum = p ∧ (∀ z ∈ T, 0 ≤ z ∧ z ≤ 500) ∧ B.getD j 0 ≤ T.getD j 0 ∧ Hid (∀ i, i ≠ j → T.getD i 0 ≤ B.getD i 0) ∧ Below W.heap.size W w'
theorem appealG_any (A : Option Addr) (c : Nat) (p : Int) (hs : List (Int × Int × Int)) (j : Nat) (v : Int) (B : List Int) (w : World) (hr : Rd w w.heap.size A (trips hs)) (hc : ckBill p hs = 0) (hB : BidsN hs p B) (hj : j < hs.length) (h0 : hV hs j ≤ v) (h1 : v ≤ 1000) :
    Calls Try.prog 28 #[.agg #[.int .i64 p, .slice A hs.length c], .int .i64 (j : Int), .int .i64 v] w (AppG p hs j B w) := by
  obtain ⟨_, _, l0, l1, _⟩ := ckBill_ok hc
  have ho := hB.ok
  have v0 : 0 ≤ v := by have := hV_nonneg ho j; omega
  have hk2 := bidOk_reval ho hj v0 h1 hB.bid
  have ho2 := housesOk_reval ho hj v0 h1
  have hcode : appealCode p hs (j : Int) v = 0 := by
    unfold appealCode askCode
    rw [if_pos hc, if_pos (inB_iff.2 (by omega)), if_pos (inB_iff.2 (by omega)), if_pos hB.bid]
  have := Appeal_any A c p hs (j : Int) v w hr (by omega)
  have hN := bidsN ho2 hk2
  rw [revalue_length] at hN
  have hL : appealL p hs (j : Int) v = (bidPs (revalue hs j v) p).take hs.length := by unfold appealL; rw [if_pos hcode, Int.toNat_natCast]
  have hD : appealD p hs (j : Int) v = (bidPs hs p).getD j 0 - (bidPs (revalue hs j v) p).getD j 0 := by unfold appealD; rw [if_pos hcode, Int.toNat_natCast]
  have hi := higher ho hB.bid hj h0 h1
  have e1 : ∀ i, B.getD i 0 = (bidPs hs p).getD i 0 := fun i => by rw [hB.eq, take_getD ho]
  have e2 : ∀ i, ((bidPs (revalue hs j v) p).take hs.length).getD i 0 = (bidPs (revalue hs j v) p).getD i 0 := fun i => by
    have := take_getD ho2 p i
    rwa [revalue_length] at this
  have hlen := hN.fit.1
  rw [revalue_length] at hlen
  rw [hcode, hL, hD] at this
  refine this.mono ?_
  rintro e w' ⟨u, rfl, hown, hb⟩
  rw [hlen] at hown
  obtain ⟨b, c', rfl, _, _, h3⟩ := own_lst' hown hlen (by omega)
  refine ⟨b, c', _, ?_, h3, hlen, hN.sum, fitsN_bd ho2 hN.fit, ?_, ?_, hb⟩
  · rw [e1, e2]
  · rw [e1, e2]; exact hi.1
  · intro i hij
    rw [e1, e2]; exact hi.2 i hij
def wrapV (v n : Int) : Int := if v.tmod n < 0 then v.tmod n + n else v.tmod n
theorem wrapV_bd (v n : Int) (h1 : 1 ≤ n) : 0 ≤ wrapV v n ∧ wrapV v n < n := by
  have a1 := Int.tmod_lt_of_pos v (show 0 < n by omega)
  have a2 := Int.neg_tmod v n
  have a3 := Int.tmod_lt_of_pos (-v) (show 0 < n by omega)
  rw [Int.neg_tmod] at a3
  unfold wrapV
  split <;> omega
theorem wrapV_any (v n : Int) (w : World) (h1 : 1 ≤ n) (h2 : n ≤ 1000000000) : Calls Try.prog 41 #[.int .i64 v, .int .i64 n] w fun e w' => e = .returned (.int .i64 (wrapV v n)) ∧ w' = w := by
  have nn : ¬ n = 0 := by omega
  have bd := wrapV_bd v n h1
  obtain ⟨r, hr⟩ : ∃ r, r = wrapV v n := ⟨_, rfl⟩
  rw [← hr] at bd ⊢
  unfold wrapV at hr
  obtain ⟨bd1, bd2⟩ := bd
  generalize hm : v.tmod n = m at *
  have HM := Lib.hid hm
  by_cases h : v.tmod n < 0
  all_goals
    rw [hm] at h
    first | rw [if_pos h] at hr | rw [if_neg h] at hr
    clear hm
    have hmm : v.tmod n = m := HM.out
    subst hr
    go_enter Try.func41, Try.ntmps41
    go_wp2_with fail
    go_ret
    exact ⟨rfl, rfl⟩
structure KS (W0 : World) (n : Nat) (wr : World) (b5 bB : Nat) (A : Option Addr) (cA : Nat) (p : Int) (hs : List (Int × Int × Int)) (B : List Int) : Prop where
  x0 : wr.cell? ⟨b5, 0, none⟩ = some (.int .i64 p)
  x1 : wr.cell? ⟨b5, 1, none⟩ = some (.slice A hs.length cA)
  rA : Rd wr b5 A (trips hs)
  lst : Lst wr bB B
  bl : Below W0.heap.size W0 wr
  lt : b5 < n
  ltB : bB < n
  nl : n ≤ wr.heap.size
  n0 : W0.heap.size ≤ n
theorem KS.go {W0 wr w1 : World} {n b5 bB : Nat} {A : Option Addr} {cA : Nat} {p : Int} {hs : List (Int × Int × Int)} {B : List Int} (h : KS W0 n wr b5 bB A cA p hs B) (hb : Below n wr w1) : KS W0 n w1 b5 bB A cA p hs B :=
  ⟨hb.at_ h.lt h.x0, hb.at_ h.lt h.x1, h.rA.keep fun b o hl => hb.cell (p := ⟨b, o, none⟩) (Nat.lt_trans hl h.lt),
   ⟨Nat.lt_of_lt_of_le h.lst.lt hb.size, fun j u hu => (hb.cell (p := ⟨bB, j, none⟩) h.ltB).trans (h.lst.cells j u hu), fun o => (hb.frozen (p := ⟨bB, o, none⟩) h.ltB).trans (h.lst.free o)⟩,
   h.bl.trans (hb.mono h.n0), h.lt, h.ltB, Nat.le_trans h.nl hb.size, h.n0⟩
theorem KS.below {W0 wr w1 : World} {n b5 bB : Nat} {A : Option Addr} {cA : Nat} {p : Int} {hs : List (Int × Int × Int)} {B : List Int} (h : KS W0 n wr b5 bB A cA p hs B) (hb : Below wr.heap.size wr w1) : KS W0 n w1 b5 bB A cA p hs B := h.go (hb.mono h.nl)
theorem KS.drewN {W0 wr : World} {n b5 bB : Nat} {A : Option Addr} {cA : Nat} {p : Int} {hs : List (Int × Int × Int)} {B : List Int} (h : KS W0 n wr b5 bB A cA p hs B) (m : Nat) : KS W0 n (wr.drewN m) b5 bB A cA p hs B := h.go (below_drewN (Below.refl _ _) m)
theorem KS.set {W0 wr : World} {n b5 bB : Nat} {A : Option Addr} {cA : Nat} {p : Int} {hs : List (Int × Int × Int)} {B : List Int} (h : KS W0 n wr b5 bB A cA p hs B) {b : Nat} (hb : n ≤ b) (o : Nat) (u : Value) : KS W0 n (wr.setCell ⟨b, o, none⟩ u) b5 bB A cA p hs B := h.go ((Below.refl _ _).setCell hb u)
/-- A row of houses in its own block. -/
structure Trp (w : World) (b : Nat) (fs : List (Int × Int × Int)) : Prop where
  lt : b < w.heap.size
  cells : ∀ j u, (trips fs)[j]? = some u → w.cell? ⟨b, j, none⟩ = some u
  free : ∀ o, w.frozen? ⟨b, o, none⟩ = false
theorem own_trp {w : World} {base : Nat} {v : Value} {fs : List (Int × Int × Int)} (h : w.ownsRow base 65 3 v fs.length (trips fs)) (hd : 1 ≤ fs.length) : ∃ b c, v = .slice (some ⟨b, 0, none⟩) fs.length c ∧ base ≤ b ∧ Trp w b fs := by
  rcases h.2 with ⟨rfl, hx⟩ | ⟨b, cap, cur, rfl, hb, hg, hc, _, h3, h4⟩
  · omega
  · refine ⟨b, cap, rfl, hb, (Array.getElem?_eq_some_iff.1 hg).1, fun j u hu => ?_, fun o => ?_⟩
    · have := h.cells (g := b) rfl j u hu
      rwa [addr_add, Nat.zero_add] at this
    · unfold World.frozen?
      rw [hg]
      simp
theorem Trp.rd {w : World} {b : Nat} {fs : List (Int × Int × Int)} (h : Trp w b fs) : Rd w w.heap.size (some ⟨b, 0, none⟩) (trips fs) := fun _ => ⟨b, 0, rfl, h.lt, fun j u hu => by
  rw [Nat.zero_add]; exact h.cells j u hu⟩
theorem Trp.below {w w' : World} {b : Nat} {fs : List (Int × Int × Int)} (h : Trp w b fs) (hb : Below w.heap.size w w') : Trp w' b fs :=
  ⟨Nat.lt_of_lt_of_le h.lt hb.size, fun j u hu => (hb.cell (p := ⟨b, j, none⟩) h.lt).trans (h.cells j u hu), fun o => (hb.frozen (p := ⟨b, o, none⟩) h.lt).trans (h.free o)⟩
theorem Trp.drewN {w : World} {b : Nat} {fs : List (Int × Int × Int)} (h : Trp w b fs) (m : Nat) : Trp (w.drewN m) b fs := ⟨h.lt, h.cells, h.free⟩
def set1 (fs : List (Int × Int × Int)) (j : Nat) (v : Int) : List (Int × Int × Int) := fs.set j ((fs.getD j (0, 0, 0)).1, v, (fs.getD j (0, 0, 0)).2.2)
def set2 (fs : List (Int × Int × Int)) (j : Nat) (v : Int) : List (Int × Int × Int) := fs.set j ((fs.getD j (0, 0, 0)).1, (fs.getD j (0, 0, 0)).2.1, v)
theorem trips_set1 (fs : List (Int × Int × Int)) : ∀ (j : Nat) (v : Int), j < fs.length → trips (set1 fs j v) = (trips fs).set (j * 3 + 1) (.int .i64 v) := by
  induction fs with
  | nil => intro j v h; simp at h
  | cons a fs ih =>
    intro j v h
    cases j with
    | zero => simp [set1, trips]
    | succ j =>
      have e := ih j v (by simpa using h)
      have e2 : set1 (a :: fs) (j + 1) v = a :: set1 fs j v := by simp [set1]
      rw [e2]
      show [_, _, _] ++ trips (set1 fs j v) = ([_, _, _] ++ trips fs).set _ _
      rw [e, show (j + 1) * 3 + 1 = j * 3 + 1 + 3 from by omega]
      rfl
theorem trips_set2 (fs : List (Int × Int × Int)) : ∀ (j : Nat) (v : Int), j < fs.length → trips (set2 fs j v) = (trips fs).set (j * 3 + 2) (.int .i64 v) := by
  induction fs with
  | nil => intro j v h; simp at h
  | cons a fs ih =>
    intro j v h
    cases j with
    | zero => simp [set2, trips]
    | succ j =>
      have e := ih j v (by simpa using h)
      have e2 : set2 (a :: fs) (j + 1) v = a :: set2 fs j v := by simp [set2]
      rw [e2]
      show [_, _, _] ++ trips (set2 fs j v) = ([_, _, _] ++ trips fs).set _ _
      rw [e, show (j + 1) * 3 + 2 = j * 3 + 2 + 3 from by omega]
      rfl
theorem Trp.putc {w : World} {b : Nat} {fs gs : List (Int × Int × Int)} (h : Trp w b fs) {m : Nat} (hm : m < (trips fs).length) {u : Value} (he : trips gs = (trips fs).set m u) : Trp (w.setCell ⟨b, m, none⟩ u) b gs := by
  have hat := h.cells m _ (List.getElem?_eq_getElem hm)
  refine ⟨by simpa [World.setCell] using h.lt, fun i x hx => ?_, fun o => by rw [World.frozen?_setCell]; exact h.free o⟩
  rw [he, List.getElem?_set] at hx
  by_cases e : m = i
  · subst e
    rw [if_pos rfl, if_pos hm] at hx
    cases hx
    exact World.cell?_setCell_same' _ _ _ (by rw [hat]; rfl)
  · rw [if_neg e] at hx
    rw [cell_far' (fun h => e h.symm)]
    exact h.cells i x hx
theorem Trp.put1 {w : World} {b : Nat} {fs : List (Int × Int × Int)} (h : Trp w b fs) {j : Nat} (hj : j < fs.length) (v : Int) : Trp (w.setCell ⟨b, j * 3 + 1, none⟩ (.int .i64 v)) b (set1 fs j v) :=
  h.putc (by rw [trips_length]; omega) (trips_set1 fs j v hj)
theorem Trp.put2 {w : World} {b : Nat} {fs : List (Int × Int × Int)} (h : Trp w b fs) {j : Nat} (hj : j < fs.length) (v : Int) : Trp (w.setCell ⟨b, j * 3 + 2, none⟩ (.int .i64 v)) b (set2 fs j v) :=
  h.putc (by rw [trips_length]; omega) (trips_set2 fs j v hj)
theorem Trp.far {w : World} {b : Nat} {fs : List (Int × Int × Int)} (h : Trp w b fs) {g : Nat} (hg : g ≠ b) (o : Nat) (u : Value) : Trp (w.setCell ⟨g, o, none⟩ u) b fs :=
  ⟨by simpa [World.setCell] using h.lt, fun j x hx => (cell_far (w := w) (fun h => hg h.symm)).trans (h.cells j x hx), fun o' => by rw [World.frozen?_setCell]; exact h.free o'⟩
theorem set1_get (fs : List (Int × Int × Int)) (j : Nat) (v : Int) (hj : j < fs.length) (i : Nat) : (set1 fs j v).getD i (0, 0, 0) = if i = j then ((fs.getD j (0, 0, 0)).1, v, (fs.getD j (0, 0, 0)).2.2) else fs.getD i (0, 0, 0) := by
  unfold set1
  by_cases h : i = j
  · subst h; simp [List.getD_eq_getElem?_getD, hj]
  · rw [if_neg h]; simp [List.getD_eq_getElem?_getD, Ne.symm h]
theorem set2_get (fs : List (Int × Int × Int)) (j : Nat) (v : Int) (hj : j < fs.length) (i : Nat) : (set2 fs j v).getD i (0, 0, 0) = if i = j then ((fs.getD j (0, 0, 0)).1, (fs.getD j (0, 0, 0)).2.1, v) else fs.getD i (0, 0, 0) := by
  unfold set2
  by_cases h : i = j
  · subst h; simp [List.getD_eq_getElem?_getD, hj]
  · rw [if_neg h]; simp [List.getD_eq_getElem?_getD, Ne.symm h]
theorem set1_len (fs : List (Int × Int × Int)) (j : Nat) (v : Int) : (set1 fs j v).length = fs.length := by simp [set1]
theorem set2_len (fs : List (Int × Int × Int)) (j : Nat) (v : Int) : (set2 fs j v).length = fs.length := by simp [set2]
/-- What Bids answers with a penny more. -/
def DearG (p : Int) (hs : List (Int × Int × Int)) (B : List Int) (A' : Option Addr) (n' : Nat) (code : Int) (w' : World) : Prop :=
  (mostSum hs = p ∧ code = 1) ∨ (mostSum hs ≠ p ∧ code = 0 ∧ n' = hs.length ∧ ∃ (b : Nat) (B' : List Int) (q : Nat), A' = some ⟨b, 0, none⟩ ∧ Lst w' b B' ∧ B'.length = hs.length ∧ q < hs.length ∧ ∀ i, B'.getD i 0 = B.getD i 0 + if i = q then 1 else 0)
theorem dear_any (A : Option Addr) (c : Nat) (p : Int) (hs : List (Int × Int × Int)) (B : List Int) (w : World) (hr : Rd w w.heap.size A (trips hs)) (hc : ckBill (p + 1) hs = 0) (hB : BidsN hs p B) :
    Calls Try.prog 36 #[.agg #[.int .i64 (p + 1), .slice A hs.length c]] w fun e w' => ∃ A' n' c' code, e = .returned (.tuple #[.slice A' n' c', .int .i64 code]) ∧ Hid (DearG p hs B A' n' code w') ∧ Below w.heap.size w w' := by
  by_cases hm : mostSum hs = p
  · refine (bids0_any A c (p + 1) hs w hr hc (bids_last hB.ok hm)).mono ?_
    rintro e w' ⟨⟨A', c', rfl⟩, hb⟩
    exact ⟨A', 0, c', 1, rfl, .inl ⟨hm, rfl⟩, hb⟩
  · have hlt : p < mostSum hs := by have := ((bidOk_iff hB.ok p).1 hB.bid).2; omega
    obtain ⟨b, hb, hk2, _⟩ := bids_next hB.ok hB.bid hlt
    have hN := bidsN hB.ok hk2
    obtain ⟨q, hq, hn⟩ := bidsN_next hB hN hlt
    refine (bidsG_any A c (p + 1) hs _ w hr hc hN).mono ?_
    rintro e w' ⟨b, c', rfl, _, hL, hb⟩
    exact ⟨_, _, c', 0, rfl, .inr ⟨hm, rfl, rfl, b, _, q, rfl, hL, hN.fit.1, hq, hn⟩, hb⟩
theorem Lst.atD {w : World} {b : Nat} {d : List Int} (h : Lst w b d) {j : Nat} (hj : j < d.length) : w.cell? ⟨b, j, none⟩ = some (.int .i64 (d.getD j 0)) := by
  rw [h.at_ hj]; simp [List.getD_eq_getElem?_getD, List.getElem?_eq_getElem hj]
theorem atD_bd {d : List Int} (h : ∀ z ∈ d, 0 ≤ z ∧ z ≤ 500) (j : Nat) : 0 ≤ d.getD j 0 ∧ d.getD j 0 ≤ 500 := by
  by_cases hj : j < d.length
  · have := h d[j] (List.getElem_mem _)
    simp [List.getD_eq_getElem?_getD, List.getElem?_eq_getElem hj]; omega
  · simp [List.getD_eq_getElem?_getD, List.getElem?_eq_none (show d.length ≤ j by omega)]
def mostTo (hs : List (Int × Int × Int)) (k : Nat) : Int := ((hs.map (·.2.2)).take k).sum
theorem mostTo_succ (hs : List (Int × Int × Int)) {k : Nat} (h : k < hs.length) : mostTo hs (k + 1) = mostTo hs k + hs[k].2.2 := by
  unfold mostTo; rw [List.take_succ_eq_append_getElem (by simpa using h)]; simp
theorem mostTo_all (hs : List (Int × Int × Int)) : mostTo hs hs.length = mostSum hs := by
  unfold mostTo mostSum; rw [List.take_of_length_le (by simp)]
theorem mostTo_bd {hs : List (Int × Int × Int)} (ho : housesOk hs) : ∀ k, 0 ≤ mostTo hs k ∧ mostTo hs k ≤ 500 * k := by
  intro k
  induction k with
  | zero => simp [mostTo]
  | succ k ih =>
    by_cases h : k < hs.length
    · rw [mostTo_succ hs h]; have := ho.2 hs[k] (List.getElem_mem _); omega
    · have : mostTo hs (k + 1) = mostTo hs k := by unfold mostTo; rw [List.take_of_length_le (by simp; omega), List.take_of_length_le (by simp; omega)]
      omega
/-- The world's part of the last loop. -/
structure FS (w0 wr : World) (bS bF cF : Nat) (p : Int) (n : Nat) (fs : List (Int × Int × Int)) : Prop where
  bl : Below w0.heap.size w0 wr
  s0 : wr.cell? ⟨bS, 0, none⟩ = some (.int .i64 p)
  s1 : wr.cell? ⟨bS, 1, none⟩ = some (.slice (some ⟨bF, 0, none⟩) n cF)
  tr : Trp wr bF fs
  n0 : w0.heap.size ≤ bF
  sf : bF < bS
  sl : bS < wr.heap.size
  len : fs.length = n
section
variable {w0 wr w1 : World} {bS bF cF : Nat} {p : Int} {n : Nat} {fs : List (Int × Int × Int)}
theorem FS.below (h : FS w0 wr bS bF cF p n fs) (hb : Below wr.heap.size wr w1) : FS w0 w1 bS bF cF p n fs :=
  ⟨h.bl.trans (hb.mono h.bl.size), hb.at_ h.sl h.s0, hb.at_ h.sl h.s1, h.tr.below hb, h.n0, h.sf, Nat.lt_of_lt_of_le h.sl hb.size, h.len⟩
theorem FS.drewN (h : FS w0 wr bS bF cF p n fs) (m : Nat) : FS w0 (wr.drewN m) bS bF cF p n fs := ⟨below_drewN h.bl m, h.s0, h.s1, h.tr.drewN m, h.n0, h.sf, h.sl, h.len⟩
theorem FS.put1 (h : FS w0 wr bS bF cF p n fs) {j : Nat} (hj : j < n) (v : Int) : FS w0 (wr.setCell ⟨bF, j * 3 + 1, none⟩ (.int .i64 v)) bS bF cF p n (set1 fs j v) := by
  have hne : ¬ bS = bF := by have := h.sf; omega
  exact ⟨h.bl.setCell h.n0 _, (cell_far hne).trans h.s0, (cell_far hne).trans h.s1, h.tr.put1 (by rw [h.len]; exact hj) v, h.n0, h.sf, by simpa [World.setCell] using h.sl, by rw [set1_len]; exact h.len⟩
theorem FS.put2 (h : FS w0 wr bS bF cF p n fs) {j : Nat} (hj : j < n) (v : Int) : FS w0 (wr.setCell ⟨bF, j * 3 + 2, none⟩ (.int .i64 v)) bS bF cF p n (set2 fs j v) := by
  have hne : ¬ bS = bF := by have := h.sf; omega
  exact ⟨h.bl.setCell h.n0 _, (cell_far hne).trans h.s0, (cell_far hne).trans h.s1, h.tr.put2 (by rw [h.len]; exact hj) v, h.n0, h.sf, by simpa [World.setCell] using h.sl, by rw [set2_len]; exact h.len⟩
end
def Now (hs : List (Int × Int × Int)) (B : List Int) (fs : List (Int × Int × Int)) (k : Nat) : Prop :=
  ∀ i, i < hs.length → (i < k → Freed (hs.getD i (0, 0, 0)) (B.getD i 0) (fs.getD i (0, 0, 0))) ∧ (k ≤ i → fs.getD i (0, 0, 0) = hs.getD i (0, 0, 0))
theorem Now.next {hs fs gs : List (Int × Int × Int)} {B : List Int} {k : Nat} (h : Now hs B fs k) (hk : k < hs.length) (hg : ∀ i, i ≠ k → gs.getD i (0, 0, 0) = fs.getD i (0, 0, 0)) (hy : Freed (hs.getD k (0, 0, 0)) (B.getD k 0) (gs.getD k (0, 0, 0))) : Now hs B gs (k + 1) := by
  intro i hi
  refine ⟨fun h1 => ?_, fun h1 => ?_⟩
  · by_cases e : i = k
    · subst e; exact hy
    · rw [hg i e]; exact (h i hi).1 (by omega)
  · rw [hg i (by omega)]; exact (h i hi).2 (by omega)
theorem fs_new {w12 W13 : World} {w0 : World} {bF cF : Nat} {p : Int} {n : Nat} {fs : List (Int × Int × Int)} {t : TypeId} (hT : Trp w12 bF fs) (hb : Below w0.heap.size w0 w12) (h0 : w0.heap.size ≤ bF) (hl : fs.length = n) (hW : w12.alloc (.cells #[.int .i64 p, .slice (some ⟨bF, 0, none⟩) n cF] t) = W13) : FS w0 W13 w12.heap.size bF cF p n fs := by
  subst hW
  have nb := below_new w12 (.cells #[.int .i64 p, .slice (some ⟨bF, 0, none⟩) n cF] t)
  exact ⟨hb.trans (nb.mono hb.size), news_new w12 [.int .i64 p, .slice (some ⟨bF, 0, none⟩) n cF] t rfl 0 _ rfl, news_new w12 [.int .i64 p, .slice (some ⟨bF, 0, none⟩) n cF] t rfl 1 _ rfl, hT.below nb, h0, hT.lt, by simp, hl⟩
theorem more_copy {W0 w0 wr wc : World} {n b5 bB : Nat} {A : Option Addr} {cA : Nat} {p : Int} {hs : List (Int × Int × Int)} {B : List Int} {bS bF cF N : Nat} {fs : List (Int × Int × Int)} {v l m : Int} {t : TypeId} (hF : FS w0 wr bS bF cF p N fs) (hK : KS W0 n wr b5 bB A cA p hs B) (h : wr.alloc (.cells #[.int .i64 v, .int .i64 l, .int .i64 m] t) = wc) :
    Hid (FS w0 wc bS bF cF p N fs) ∧ Hid (KS W0 n wc b5 bB A cA p hs B) ∧ wc.cell? ⟨wr.heap.size, 1, none⟩ = some (.int .i64 l) ∧ wc.cell? ⟨wr.heap.size, 2, none⟩ = some (.int .i64 m) ∧ wc.heap.size = wr.heap.size + 1 := by
  subst h
  exact ⟨hF.below (below_new _ _), hK.below (below_new _ _), news_new wr [.int .i64 v, .int .i64 l, .int .i64 m] t rfl 1 _ rfl, news_new wr [.int .i64 v, .int .i64 l, .int .i64 m] t rfl 2 _ rfl, by simp⟩
theorem freed_mk {v l m u a b : Int} (h1 : 0 ≤ a) (h2 : a ≤ l) (h3 : a = l ∨ l < u) (h4 : m ≤ b) (h5 : b ≤ 500) (h6 : b = m ∨ u < m) : Freed (v, l, m) u (v, a, b) := ⟨rfl, h1, h2, h3, h4, h5, h6⟩
section
variable {hs fs : List (Int × Int × Int)} {B : List Int} {k : Nat} {v l m u a b : Int}
theorem step12 (hN : ∀ gs, Hid ((∀ i, i ≠ k → gs.getD i (0, 0, 0) = fs.getD i (0, 0, 0)) → Freed (v, l, m) u (gs.getD k (0, 0, 0)) → Now hs B gs (k + 1))) (hk : k < fs.length) (hf : fs.getD k (0, 0, 0) = (v, l, m)) (h : Freed (v, l, m) u (v, a, b)) : Now hs B (set2 (set1 fs k a) k b) (k + 1) := by
  have hk2 : k < (set1 fs k a).length := by rw [set1_len]; exact hk
  refine (hN _).out (fun i hi => ?_) ?_
  · rw [set2_get _ _ _ hk2, if_neg hi, set1_get _ _ _ hk, if_neg hi]
  · rw [set2_get _ _ _ hk2, if_pos rfl, set1_get _ _ _ hk, if_pos rfl, hf]; exact h
theorem step1 (hN : ∀ gs, Hid ((∀ i, i ≠ k → gs.getD i (0, 0, 0) = fs.getD i (0, 0, 0)) → Freed (v, l, m) u (gs.getD k (0, 0, 0)) → Now hs B gs (k + 1))) (hk : k < fs.length) (hf : fs.getD k (0, 0, 0) = (v, l, m)) (h : Freed (v, l, m) u (v, a, m)) : Now hs B (set1 fs k a) (k + 1) := by
  refine (hN _).out (fun i hi => ?_) ?_
  · rw [set1_get _ _ _ hk, if_neg hi]
  · rw [set1_get _ _ _ hk, if_pos rfl, hf]; exact h
theorem step2 (hN : ∀ gs, Hid ((∀ i, i ≠ k → gs.getD i (0, 0, 0) = fs.getD i (0, 0, 0)) → Freed (v, l, m) u (gs.getD k (0, 0, 0)) → Now hs B gs (k + 1))) (hk : k < fs.length) (hf : fs.getD k (0, 0, 0) = (v, l, m)) (h : Freed (v, l, m) u (v, l, b)) : Now hs B (set2 fs k b) (k + 1) := by
  refine (hN _).out (fun i hi => ?_) ?_
  · rw [set2_get _ _ _ hk, if_neg hi]
  · rw [set2_get _ _ _ hk, if_pos rfl, hf]; exact h
end
end Go.Proofs.Ytfojjecnmfkcfaa
