/- FeeSmall, memory: two rows of one account that grow side by side. -/
import Derived.Test.YtfojjecnmfkcfaaGreatSmB
namespace Go.Proofs.YtfojjecnmfkcfaaGreat
open Go.RowKit
set_option linter.unusedVariables false
structure Grow2 (W w : World) (a b : Option Nat) : Prop where
  os : w.os = W.os
  tape : w.tape = W.tape
  output : w.output = W.output
  size : W.heap.size ≤ w.heap.size
  block : ∀ k, k < W.heap.size → some k ≠ a → some k ≠ b → w.heap[k]? = W.heap[k]?
theorem Grow2.refl (W : World) (a b : Option Nat) : Grow2 W W a b := ⟨rfl, rfl, rfl, Nat.le_refl _, fun _ _ _ _ => rfl⟩
theorem Grow2.left {W w w' : World} {a b : Option Nat} (h : Grow2 W w a b) (hg : w.grownBy w' a) : Grow2 W w' a b :=
  ⟨hg.os.trans h.os, hg.tape.trans h.tape, hg.output.trans h.output, Nat.le_trans h.size hg.size, fun k hk h1 h2 => (hg.block k (Nat.lt_of_lt_of_le hk h.size) h1).trans (h.block k hk h1 h2)⟩
theorem Grow2.right {W w w' : World} {a b : Option Nat} (h : Grow2 W w a b) (hg : w.grownBy w' b) : Grow2 W w' a b :=
  ⟨hg.os.trans h.os, hg.tape.trans h.tape, hg.output.trans h.output, Nat.le_trans h.size hg.size, fun k hk h1 h2 => (hg.block k (Nat.lt_of_lt_of_le hk h.size) h2).trans (h.block k hk h1 h2)⟩
structure S73 (W : World) (base : Nat) (facts : List (Value → World → Prop)) (v u : Value) (k : Nat) (xs xs1 ys ys1 : List Value) (l : Nat → Bool) (vals : Nat → Value) (w : World) : Prop where
  gr : Grow2 W w v.ownBlock u.ownBlock
  fact : ∀ i, i < 14 → i ≠ 5 → i ≠ 12 → l i = true → FL facts i (vals i) w
  v0 : l 5 = false → w.ownsRow base 39 2 v k xs
  v1 : l 5 = true → ∃ g cap, vals 5 = .slice (some ⟨g, 0, none⟩) (k + 1) cap ∧ w.ownsRow base 39 2 (.slice (some ⟨g, 0, none⟩) (k + 1) cap) (k + 1) xs1 ∧ (v.ownBlock = some g ∨ W.heap.size ≤ g)
  u0 : l 12 = false → w.ownsRow base 39 2 u k ys
  u1 : l 12 = true → l 5 = true ∧ ∃ g cap, vals 12 = .slice (some ⟨g, 0, none⟩) (k + 1) cap ∧ w.ownsRow base 39 2 (.slice (some ⟨g, 0, none⟩) (k + 1) cap) (k + 1) ys1 ∧ ∀ g' cap', vals 5 = .slice (some ⟨g', 0, none⟩) (k + 1) cap' → g ≠ g'
section
variable {W : World} {base : Nat} {facts : List (Value → World → Prop)} {v u : Value} {k : Nat} {xs xs1 ys ys1 : List Value} {l : Nat → Bool} {vals : Nat → Value} {w w' : World}
theorem S73.simple (h : S73 W base facts v u k xs xs1 ys ys1 l vals w) (hs : ∀ p ∈ facts, StbO v.ownBlock p) {i : Nat} (h5 : i ≠ 5) (h12 : i ≠ 12) {x : Value} (hb : Below w.heap.size w w') (hf : FL facts i x w') :
    S73 W base facts v u k xs xs1 ys ys1 (fun j => if j = i then true else l j) (fun j => if j = i then x else vals j) w' := by
  refine ⟨h.gr.left (below_grown _ hb), fun j hj n5 n12 hl => ?_, fun hl => ?_, fun hl => ?_, fun hl => ?_, fun hl => ?_⟩
  · by_cases e2 : j = i
    · subst e2; simpa using hf
    · simp only [if_neg e2] at hl ⊢
      exact FL.keepO hs j _ _ _ (h.fact j hj n5 n12 hl) (below_grown _ hb)
  · simp only [if_neg (Ne.symm h5)] at hl
    exact own_keep (h.v0 hl) hb
  · simp only [if_neg (Ne.symm h5)] at hl ⊢
    obtain ⟨g, cap, e, ho, ha⟩ := h.v1 hl
    exact ⟨g, cap, e, own_keep ho hb, ha⟩
  · simp only [if_neg (Ne.symm h12)] at hl
    exact own_keep (h.u0 hl) hb
  · simp only [if_neg (Ne.symm h12), if_neg (Ne.symm h5)] at hl ⊢
    obtain ⟨h0, g, cap, e, ho, ha⟩ := h.u1 hl
    exact ⟨h0, g, cap, e, own_keep ho hb, ha⟩
theorem S73.app5 (h : S73 W base facts v u k xs xs1 ys ys1 l vals w) (hs : ∀ p ∈ facts, StbO v.ownBlock p) (hap : u.ownBlock = none ∨ u.ownBlock ≠ v.ownBlock) (hl0 : l 5 = false) {g cap : Nat} (hown : w'.ownsRow base 39 2 (.slice (some ⟨g, 0, none⟩) (k + 1) cap) (k + 1) xs1) (hg : w.grownBy w' v.ownBlock) (hat : v.ownBlock = some g ∨ g = w.heap.size) :
    S73 W base facts v u k xs xs1 ys ys1 (fun j => if j = 5 then true else l j) (fun j => if j = 5 then (.slice (some ⟨g, 0, none⟩) (k + 1) cap) else vals j) w' := by
  have hl12 : l 12 = false := by
    cases e : l 12
    · rfl
    · rw [(h.u1 e).1] at hl0; cases hl0
  refine ⟨h.gr.left hg, fun j hj n5 n12 hl => ?_, fun hl => by simp at hl, fun hl => ?_, fun hl => (h.u0 hl12).kept hg hap, fun hl => ?_⟩
  · simp only [if_neg n5] at hl ⊢
    exact FL.keepO hs j _ _ _ (h.fact j hj n5 n12 hl) hg
  · refine ⟨g, cap, by simp, hown, ?_⟩
    rcases hat with hat | hat
    · exact .inl hat
    · exact .inr (by rw [hat]; exact h.gr.size)
  · have : l 12 = true := by simpa using hl
    rw [this] at hl12; cases hl12
theorem S73.app12 (h : S73 W base facts v u k xs xs1 ys ys1 l vals w) (hs : ∀ p ∈ facts, StbO u.ownBlock p) (hap : ∀ b, u.ownBlock = some b → v.ownBlock ≠ some b ∧ b < W.heap.size) (hl5 : l 5 = true) (hl0 : l 12 = false) {g cap : Nat} (hown : w'.ownsRow base 39 2 (.slice (some ⟨g, 0, none⟩) (k + 1) cap) (k + 1) ys1) (hg : w.grownBy w' u.ownBlock) (hat : u.ownBlock = some g ∨ g = w.heap.size) :
    S73 W base facts v u k xs xs1 ys ys1 (fun j => if j = 12 then true else l j) (fun j => if j = 12 then (.slice (some ⟨g, 0, none⟩) (k + 1) cap) else vals j) w' := by
  obtain ⟨g5, c5, e5, o5, a5⟩ := h.v1 hl5
  have hne : u.ownBlock ≠ some g5 := fun e => by
    obtain ⟨n1, n2⟩ := hap g5 e
    rcases a5 with a5 | a5
    · exact n1 a5
    · omega
  refine ⟨h.gr.right hg, fun j hj n5 n12 hl => ?_, fun hl => ?_, fun hl => ⟨g5, c5, by simpa using e5, o5.kept hg (.inr fun e => hne e.symm), a5⟩, fun hl => by simp at hl, fun hl => ⟨by simpa using hl5, g, cap, by simp, hown, fun g' c' e => ?_⟩⟩
  · simp only [if_neg n12] at hl ⊢
    exact FL.keepO hs j _ _ _ (h.fact j hj n5 n12 hl) hg
  · simp only [show ¬ (5 = 12) by omega, if_false] at hl
    rw [hl5] at hl; cases hl
  · simp only [show ¬ (5 = 12) by omega, if_false] at e
    rw [e5] at e
    injection e with e _ _
    injection e with e
    injection e with e _
    subst e
    rcases hat with hat | hat
    · intro e; subst e; exact hne hat
    · have := (o5.lt g5 rfl).2
      omega
end
/-- Where the loop stands. -/
structure Acol (wm wr : World) (G : Nat) (cs ps : List (Int × Int)) (n : Nat) (v u : Value) : Prop where
  ov : wr.ownsRow wm.heap.size 39 2 v n (pairs cs)
  ou : wr.ownsRow wm.heap.size 39 2 u n (pairs ps)
  ap : ∀ b, u.ownBlock = some b → v.ownBlock ≠ some b
  far : FarB wm wr G
  lt : G < wm.heap.size
  k : CA4 wr G v u (.int .i64 0) (.int .i64 0)
  f : ∀ o, wr.frozen? ⟨G, o, none⟩ = false
theorem Acol.next {wm wr w' : World} {G n : Nat} {cs ps : List (Int × Int)} {v u : Value} (h : Acol wm wr G cs ps n v u) (hb : Below wr.heap.size wr w') : Acol wm w' G cs ps n v u := by
  have hz : G < wr.heap.size := Nat.lt_of_lt_of_le h.lt h.far.sz
  exact ⟨own_keep h.ov hb, own_keep h.ou hb, h.ap, h.far.next hb, h.lt, h.k.next hz hb, fun o => (hb.frozen (p := ⟨G, o, none⟩) hz).trans (h.f o)⟩
/-- Behind both appends, ahead of both stores. -/
structure AMid (wm w1 : World) (G : Nat) (cs ps : List (Int × Int)) (n : Nat) (v1 u1 : Value) : Prop where
  c0 : ∃ x, w1.cell? ⟨G, 0, none⟩ = some x
  c1 : ∃ x, w1.cell? ⟨G, 1, none⟩ = some x
  f : ∀ o, w1.frozen? ⟨G, o, none⟩ = false
  st : Acol wm ((w1.setCell ⟨G, 0, none⟩ v1).setCell ⟨G, 1, none⟩ u1) G cs ps n v1 u1
theorem Acol.mid {wm wr w1 : World} {G n g1 g2 c1 c2 : Nat} {cs ps cs1 ps1 : List (Int × Int)} {v u : Value} (h : Acol wm wr G cs ps n v u) (hg : Grow2 wr w1 v.ownBlock u.ownBlock)
    (o1 : w1.ownsRow wm.heap.size 39 2 (.slice (some ⟨g1, 0, none⟩) (n + 1) c1) (n + 1) (pairs cs1)) (o2 : w1.ownsRow wm.heap.size 39 2 (.slice (some ⟨g2, 0, none⟩) (n + 1) c2) (n + 1) (pairs ps1)) (hne : g2 ≠ g1) : AMid wm w1 G cs1 ps1 (n + 1) (.slice (some ⟨g1, 0, none⟩) (n + 1) c1) (.slice (some ⟨g2, 0, none⟩) (n + 1) c2) := by
  have hz : G < wr.heap.size := Nat.lt_of_lt_of_le h.lt h.far.sz
  have hv : some G ≠ v.ownBlock := fun e => by have := (h.ov.lt G e.symm).1; have := h.lt; omega
  have hu : some G ≠ u.ownBlock := fun e => by have := (h.ou.lt G e.symm).1; have := h.lt; omega
  have hb := hg.block G hz hv hu
  have cc : ∀ o, w1.cell? ⟨G, o, none⟩ = wr.cell? ⟨G, o, none⟩ := fun o => World.cell?_of_block (a := ⟨G, o, none⟩) hb
  have fz : ∀ o, w1.frozen? ⟨G, o, none⟩ = false := fun o => (World.frozen?_of_block (a := ⟨G, o, none⟩) hb).trans (h.f o)
  have n1 := (o1.lt g1 rfl).1
  have n2 := (o2.lt g2 rfl).1
  have hlt := h.lt
  have hsz := h.far.sz
  have f1 : FarB wm w1 G := ⟨hg.os.trans h.far.os, hg.tape.trans h.far.tape, hg.output.trans h.far.output, by have := hg.size; omega, fun b hb hn => (hg.block b (by omega) (fun e => by have := (h.ov.lt b e.symm).1; omega) (fun e => by have := (h.ou.lt b e.symm).1; omega)).trans (h.far.far b hb (by intro e; exact hn (by rw [e])))⟩
  refine ⟨⟨_, (cc 0).trans h.k.c0⟩, ⟨_, (cc 1).trans h.k.c1⟩, fz, own_far (own_far o1 hlt) hlt, own_far (own_far o2 hlt) hlt, fun b e e' => ?_, grownBy_trans (grownBy_trans f1 (grownBy_setCell _ _ _ _)) (grownBy_setCell _ _ _ _), hlt, ?_, fun o => by simpa using fz o⟩
  · injection e with e
    injection e' with e'
    exact hne (e.trans e'.symm)
  · have n : ∀ (W : World) (i j : Nat) (x : Value), i ≠ j → (W.setCell ⟨G, j, none⟩ x).cell? ⟨G, i, none⟩ = W.cell? ⟨G, i, none⟩ := fun W i j x h => World.cell?_setCell_other _ _ _ _ (by intro e; injection e with _ e; exact h e.symm)
    refine ⟨?_, ?_, ?_, ?_⟩
    · rw [n _ 0 1 _ (by omega)]; exact World.cell?_setCell_same _ _ _ ((cc 0).trans h.k.c0)
    · exact World.cell?_setCell_same _ _ _ ((n _ 1 0 _ (by omega)).trans ((cc 1).trans h.k.c1))
    · rw [n _ 2 1 _ (by omega), n _ 2 0 _ (by omega), cc 2]; exact h.k.c2
    · rw [n _ 3 1 _ (by omega), n _ 3 0 _ (by omega), cc 3]; exact h.k.c3
/-- What the last loop makes. -/
def tarS (n : Nat) : List (Int × Int) := (List.range n).map fun (i : Nat) => ((10 : Int) + (i : Int), (100 : Int) * (i : Int))
def houS (n : Nat) : List (Int × Int × Int) := (List.range n).map fun (i : Nat) => ((i : Int), 0, 9)
def chaS (n : Nat) : List (Int × Int) := (List.range n).map fun (i : Nat) => ((i : Int), 1)
def payS (n : Nat) : List (Int × Int) := (List.range n).map fun (i : Nat) => ((i : Int) + 1, 1)
theorem tarS_succ (n : Nat) : pairs (tarS (n + 1)) = pairs (tarS n) ++ [.int .i64 (10 + n), .int .i64 (100 * n)] := by simp [tarS, List.range_succ, pairs]
theorem houS_succ (n : Nat) : trips (houS (n + 1)) = trips (houS n) ++ [.int .i64 n, .int .i64 0, .int .i64 9] := by simp [houS, List.range_succ, trips]
theorem chaS_succ (n : Nat) : pairs (chaS (n + 1)) = pairs (chaS n) ++ [.int .i64 n, .int .i64 1] := by simp [chaS, List.range_succ, pairs]
theorem payS_succ (n : Nat) : pairs (payS (n + 1)) = pairs (payS n) ++ [.int .i64 (n + 1), .int .i64 1] := by simp [payS, List.range_succ, pairs]
theorem tarS_len (n : Nat) : (tarS n).length = n := by simp [tarS]
theorem houS_len (n : Nat) : (houS n).length = n := by simp [houS]
theorem chaS_len (n : Nat) : (chaS n).length = n := by simp [chaS]
theorem payS_len (n : Nat) : (payS n).length = n := by simp [payS]
theorem tarS_ck {n : Nat} (h : n < 11) : (ckTariff (tarS (min n 6)) == 0) = (decide ((0 : Int) < n) && decide ((n : Int) < 5)) := by
  have : ∀ n : Fin 11, (ckTariff (tarS (min n.1 6)) == 0) = (decide ((0 : Int) < n.1) && decide ((n.1 : Int) < 5)) := by decide +kernel
  exact this ⟨n, h⟩
theorem houS_ck {n : Nat} (h : n < 11) : (ckBill n (houS (min n 8)) == 0) = (decide ((0 : Int) < n) && decide ((n : Int) < 7)) := by
  have : ∀ n : Fin 11, (ckBill n.1 (houS (min n.1 8)) == 0) = (decide ((0 : Int) < n.1) && decide ((n.1 : Int) < 7)) := by decide +kernel
  exact this ⟨n, h⟩
theorem accS_ck {n : Nat} (h : n < 11) : (ckAcc (chaS (min n 10)) (payS (min n 10)) 0 0 == 0) = decide ((n : Int) < 9) := by
  have : ∀ n : Fin 11, (ckAcc (chaS (min n.1 10)) (payS (min n.1 10)) 0 0 == 0) = decide ((n.1 : Int) < 9) := by decide +kernel
  exact this ⟨n, h⟩
/-- A made row of zeros. -/
def Zr (B n k : Nat) (w : World) : Prop := B ≤ k ∧ k < w.heap.size ∧ ∀ o, o < n → ∃ z, w.cell? ⟨k, o, none⟩ = some (.int .i64 z)
def PZr (B n : Nat) (v : Value) (w : World) : Prop := ∃ k : Nat, v = .slice (some ⟨k, 0, none⟩) n n ∧ Zr B n k w
theorem Zr.next {B n k : Nat} {w w' : World} (h : Zr B n k w) (hb : Below w.heap.size w w') : Zr B n k w' := ⟨h.1, Nat.lt_of_lt_of_le h.2.1 hb.size, fun o ho => by obtain ⟨z, e⟩ := h.2.2 o ho; exact ⟨z, hb.at_ h.2.1 e⟩⟩
theorem stbB_zr (B n : Nat) : StbB (PZr B n) := by
  rintro v w w' ⟨k, e, h⟩ hb
  exact ⟨k, e, h.next hb⟩
theorem zr_new (B n : Nat) (w : World) (t : TypeId) (hB : B ≤ w.heap.size) : Zr B n w.heap.size (w.alloc (.cells (zerosA n) t)) := by
  refine ⟨hB, by simp, fun o ho => ⟨0, ?_⟩⟩
  exact new_cell w (List.replicate n (.int .i64 0)) t _ o rfl (by rw [List.getElem?_replicate, if_pos ho])
theorem Zr.came {B n k : Nat} {w : World} (h : Zr B n k w) : ∃ ls : List Int, ls.length = n ∧ Came w (some ⟨k, 0, none⟩) ls.length n (ints ls) := by
  obtain ⟨ls, e, hc⟩ := nums_ints (n := n) h.2.1 h.2.2
  exact ⟨ls, e, by rw [e]; exact Nat.le_refl _, hc.2⟩
/-- A tariff that reads so, a bill, an account: what the last loop hands over. -/
structure Last (w0 wr : World) (gB gA n M6 M8 M10 : Nat) (At : Option Addr) (ct : Nat) (Ab : Option Addr) (cb : Nat) (Ac_ : Option Addr) (cc : Nat) (Ap : Option Addr) (cp : Nat) : Prop where
  tc : M6 ≤ ct
  tr : Rd wr wr.heap.size At (pairs (tarS M6))
  lB : gB < wr.heap.size
  b0 : wr.cell? ⟨gB, 0, none⟩ = some (.int .i64 n)
  b1 : wr.cell? ⟨gB, 1, none⟩ = some (.slice Ab M8 cb)
  bc : M8 ≤ cb
  br : Rd wr wr.heap.size Ab (trips (houS M8))
  lA : gA < wr.heap.size
  k : CA4 wr gA (.slice Ac_ M10 cc) (.slice Ap M10 cp) (.int .i64 0) (.int .i64 0)
  e1 : Ent wr Ac_ cc (chaS M10)
  e2 : Ent wr Ap cp (payS M10)
  bw : Below w0.heap.size w0 wr
section
variable {w0 wr w' : World} {gB gA n M6 M8 M10 : Nat} {At : Option Addr} {ct : Nat} {Ab : Option Addr} {cb : Nat} {Ac_ : Option Addr} {cc : Nat} {Ap : Option Addr} {cp : Nat}
theorem Last.next (h : Last w0 wr gB gA n M6 M8 M10 At ct Ab cb Ac_ cc Ap cp) (hb : Below wr.heap.size wr w') : Last w0 w' gB gA n M6 M8 M10 At ct Ab cb Ac_ cc Ap cp :=
  ⟨h.tc, h.tr.next hb, Nat.lt_of_lt_of_le h.lB hb.size, hb.at_ h.lB h.b0, hb.at_ h.lB h.b1, h.bc, h.br.next hb, Nat.lt_of_lt_of_le h.lA hb.size, h.k.next h.lA hb, h.e1.next hb, h.e2.next hb, h.bw.trans (hb.mono h.bw.size)⟩
theorem Last.tariffs (h : Last w0 wr gB gA n M6 M8 M10 At ct Ab cb Ac_ cc Ap cp) (a b : Int) : Calls Tryz.prog 10 #[.slice At M6 ct, .int .i64 a, .int .i64 b] wr (RetT wr) := by
  have J := feeTariffs_walk At ct (tarS M6) a b wr ⟨by rw [tarS_len]; exact h.tc, h.tr⟩
  rw [tarS_len] at J
  exact J.mono fun _ _ h => h
theorem Last.shares (h : Last w0 wr gB gA n M6 M8 M10 At ct Ab cb Ac_ cc Ap cp) : Calls Tryz.prog 7 #[.agg #[.int .i64 n, .slice Ab M8 cb]] wr (RetT wr) := by
  have J := feeShares_walk Ab cb n (houS M8) wr ⟨by rw [houS_len]; exact h.bc, h.br⟩
  rw [houS_len] at J
  exact J.mono fun _ _ h => h
theorem Last.given (h : Last w0 wr gB gA n M6 M8 M10 At ct Ab cb Ac_ cc Ap cp) {L : Option Addr} {m cl : Nat} {qs : List Int} (hq : Came wr L qs.length cl (ints qs)) (hm : qs.length = m) (days : Int) : Calls Tryz.prog 8 #[.agg #[.int .i64 n, .slice Ab M8 cb], .slice L m cl, .slice none 0 0, .int .i64 days] wr (RetT wr) := by
  have J := feeGiven_walk Ab cb n (houS M8) L cl qs none 0 [] days wr ⟨by rw [houS_len]; exact h.bc, h.br⟩ hq ⟨Nat.le_refl _, Rd.nil⟩
  rw [houS_len, hm] at J
  exact J.mono fun _ _ h => h
theorem Last.accounts (h : Last w0 wr gB gA n M6 M8 M10 At ct Ab cb Ac_ cc Ap cp) (day : Int) : Calls Tryz.prog 9 #[.agg #[.slice Ac_ M10 cc, .slice Ap M10 cp, .int .i64 0, .int .i64 0], .int .i64 day] wr (RetT wr) := by
  have J := feeAccounts_walk Ac_ cc Ap cp (chaS M10) (payS M10) 0 0 day wr ⟨h.e1.cap, h.e1.rd⟩ ⟨h.e2.cap, h.e2.rd⟩
  rw [chaS_len, payS_len] at J
  exact J.mono fun _ _ h => h
theorem Last.payments (h : Last w0 wr gB gA n M6 M8 M10 At ct Ab cb Ac_ cc Ap cp) (day : Int) : Calls Tryz.prog 9 #[.agg #[.slice none 0 0, .slice Ap M10 cp, .int .i64 0, .int .i64 0], .int .i64 day] wr (RetT wr) := by
  have J := feeAccounts_walk none 0 Ap cp [] (payS M10) 0 0 day wr ⟨Nat.le_refl _, Rd.nil⟩ ⟨h.e2.cap, h.e2.rd⟩
  rw [payS_len] at J
  exact J.mono fun _ _ h => h
theorem Last.ckT (h : Last w0 wr gB gA n M6 M8 M10 At ct Ab cb Ac_ cc Ap cp) (h6 : M6 ≤ 6) : Calls Tryz.prog 13 #[.slice At M6 ct] wr fun e w' => e = .returned (.int .i64 (ckTariff (tarS M6))) ∧ Below wr.heap.size wr w' := by
  have J := checkTariff_any At ct (tarS M6) wr h.tr (by rw [tarS_len]; omega) (by rw [tarS_len]; exact h.tc)
  rw [tarS_len] at J
  exact J
theorem Last.ckB (h : Last w0 wr gB gA n M6 M8 M10 At ct Ab cb Ac_ cc Ap cp) (h8 : M8 ≤ 8) : Calls Tryz.prog 14 #[.agg #[.int .i64 n, .slice Ab M8 cb]] wr fun e w' => e = .returned (.int .i64 (ckBill n (houS M8))) ∧ Below wr.heap.size wr w' := by
  have J := check_any Ab cb n (houS M8) wr h.br (by rw [houS_len]; omega)
  rw [houS_len] at J
  exact J
theorem Last.ckA (h : Last w0 wr gB gA n M6 M8 M10 At ct Ab cb Ac_ cc Ap cp) (h10 : M10 ≤ 10) : Calls Tryz.prog 15 #[.agg #[.slice Ac_ M10 cc, .slice Ap M10 cp, .int .i64 0, .int .i64 0]] wr fun e w' => e = .returned (.int .i64 (ckAcc (chaS M10) (payS M10) 0 0)) ∧ Below wr.heap.size wr w' := by
  have J := CheckAccount_any Ac_ Ap cc cp (chaS M10) (payS M10) 0 0 wr h.e1 h.e2 (by rw [chaS_len]; omega) (by rw [payS_len]; omega)
  unfold accV at J
  rw [chaS_len, payS_len] at J
  exact J
end
theorem ent_len {w : World} {base n : Nat} {v : Value} {t : List (Int × Int)} (h : w.ownsRow base 39 2 v n (pairs t)) (hn : t.length = n) : ∃ A c, v = .slice A n c ∧ Ent w A c t := by
  subst hn
  exact ent_of_own h
theorem last_of {w0 w7 w8 w9 wr : World} {gB gA n M6 M8 M10 : Nat} {vt vb va vp : Value} (hB7 : gB < w7.heap.size) (hA7 : gA < w7.heap.size) (hne : gB ≠ gA) (h70 : w0.heap.size ≤ gB) (h71 : w0.heap.size ≤ gA) (b7 : Below w0.heap.size w0 w7)
    (ht : w8.ownsRow w7.heap.size 35 2 vt M6 (pairs (tarS M6))) (b8 : Below w7.heap.size w7 w8) (hb : Col w8 w9 gB 1 2 37 3 (fun _ => .int .i64 n) M8 (trips (houS M8)) vb) (ha : Acol w9 wr gA (chaS M10) (payS M10) M10 va vp) :
    ∃ At ct Ab cb Ac_ cc Ap cp, vt = .slice At M6 ct ∧ vb = .slice Ab M8 cb ∧ Last w0 wr gB gA n M6 M8 M10 At ct Ab cb Ac_ cc Ap cp := by
  obtain ⟨At, ct, rfl, htc, htr⟩ := own_sliceI ht
  obtain ⟨Ab, cb, rfl, hbc, hbr⟩ := own_sliceI hb.own
  obtain ⟨Ac_, cc, rfl, e1⟩ := ent_len ha.ov (chaS_len _)
  obtain ⟨Ap, cp, rfl, e2⟩ := ent_len ha.ou (payS_len _)
  have s8 := b8.size
  have s9 := hb.far.sz
  have s10 := ha.far.sz
  have bw9 : Below w0.heap.size w0 w9 := hb.bel (b7.trans (b8.mono b7.size)) h70
  refine ⟨At, ct, Ab, cb, Ac_, cc, Ap, cp, rfl, rfl, htc, ?_, by omega, ?_, ?_, hbc, ?_, by omega, ha.k, e1, e2, bw9.grown ha.far bw9.size (fun k e => by injection e; omega)⟩
  · exact RdI.rd ((htr.keep fun b h1 h2 => hb.far.far b h2 (by omega)).keep fun b h1 h2 => ha.far.far b (by omega) (by omega)) (by omega)
  · exact (ha.far.cell (by omega) hne).trans (hb.o 0 (by omega))
  · exact (ha.far.cell (by omega) hne).trans (hb.o 1 (by omega))
  · exact RdI.rd (hbr.keep fun b h1 h2 => ha.far.far b h2 (by omega)) (by omega)
end Go.Proofs.YtfojjecnmfkcfaaGreat
