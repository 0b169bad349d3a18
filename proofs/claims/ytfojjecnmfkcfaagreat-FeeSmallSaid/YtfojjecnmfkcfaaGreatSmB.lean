/- FeeSmall, memory: rows that grow in a column of a struct; bills and accounts that are made so. -/
import Derived.Test.YtfojjecnmfkcfaaGreatSmA
namespace Go.Proofs.YtfojjecnmfkcfaaGreat
open Go.RowKit
set_option linter.unusedVariables false
/-- A row of its own in column J of the struct (of m cells) at G; other old blocks are as in wm. -/
structure Col (wm wr : World) (G J m : Nat) (E : TypeId) (sz : Nat) (f : Nat → Value) (n : Nat) (xs : List Value) (v : Value) : Prop where
  own : wr.ownsRow wm.heap.size E sz v n xs
  far : FarB wm wr G
  lt : G < wm.heap.size
  o : ∀ j, j < m → wr.cell? ⟨G, j, none⟩ = some (if j = J then v else f j)
  of : ∀ j, j < m → wr.frozen? ⟨G, j, none⟩ = false
section
variable {wm wr w1 w' : World} {G J m : Nat} {E : TypeId} {sz : Nat} {f : Nat → Value} {n : Nat} {xs ys : List Value} {v v1 : Value}
theorem Col.next (h : Col wm wr G J m E sz f n xs v) (hb : Below wr.heap.size wr w') : Col wm w' G J m E sz f n xs v := by
  have hz : G < wr.heap.size := Nat.lt_of_lt_of_le h.lt h.far.sz
  exact ⟨own_keep h.own hb, h.far.next hb, h.lt, fun j hj => hb.at_ hz (h.o j hj), fun j hj => (hb.frozen (p := ⟨G, j, none⟩) hz).trans (h.of j hj)⟩
theorem Col.alloc (h : Col wm wr G J m E sz f n xs v) (x : Obj) : Col wm (wr.alloc x) G J m E sz f n xs v := h.next (below_new wr x)
structure CMid (wm w1 : World) (G J m : Nat) (E : TypeId) (sz : Nat) (f : Nat → Value) (n : Nat) (xs : List Value) (v1 : Value) : Prop where
  o1 : ∃ u, w1.cell? ⟨G, J, none⟩ = some u
  of : w1.frozen? ⟨G, J, none⟩ = false
  st : Col wm (w1.setCell ⟨G, J, none⟩ v1) G J m E sz f n xs v1
theorem Col.app (h : Col wm wr G J m E sz f n xs v) (hJ : J < m) (ho : w1.ownsRow wm.heap.size E sz v1 (n + 1) (xs ++ ys)) (hg : wr.grownBy w1 v.ownBlock) : CMid wm w1 G J m E sz f (n + 1) (xs ++ ys) v1 := by
  have hz := h.far.sz
  have hlt := h.lt
  have hne : ∀ b, b < wm.heap.size → some b ≠ v.ownBlock := fun b hb e => by have := (h.own.lt b e.symm).1; omega
  have c : ∀ j, j < m → w1.cell? ⟨G, j, none⟩ = some (if j = J then v else f j) := fun j hj => (World.grownBy.cell_far hg ⟨G, j, none⟩ (by show G < _; omega) (hne G hlt)).trans (h.o j hj)
  have fz : ∀ j, j < m → w1.frozen? ⟨G, j, none⟩ = false := fun j hj => (World.grownBy.frozen_far hg ⟨G, j, none⟩ (by show G < _; omega) (hne G hlt)).trans (h.of j hj)
  have f1 : FarB wm w1 G := ⟨hg.os.trans h.far.os, hg.tape.trans h.far.tape, hg.output.trans h.far.output, by have := hg.size; omega, fun b hb hn => (hg.block b (by omega) (hne b hb)).trans (h.far.far b hb (by intro e; exact hn (by rw [e])))⟩
  refine ⟨⟨_, c J hJ⟩, fz J hJ, own_far ho hlt, grownBy_trans f1 (grownBy_setCell _ _ _ _), hlt, fun j hj => ?_, fun j hj => ?_⟩
  · by_cases e : j = J
    · subst e
      rw [if_pos rfl]
      exact World.cell?_setCell_same _ _ _ (c j hj)
    · rw [if_neg e, World.cell?_setCell_other _ _ _ _ (by intro e'; injection e' with _ e'; exact e e'.symm), c j hj, if_neg e]
  · simpa using fz j hj
theorem col_start {wm : World} (hlt : G < wm.heap.size) (ho : ∀ j, j < m → wm.cell? ⟨G, j, none⟩ = some (if j = J then .slice none 0 0 else f j)) (hf : ∀ j, j < m → wm.frozen? ⟨G, j, none⟩ = false) : Col wm wm G J m E sz f 0 [] (.slice none 0 0) :=
  ⟨World.ownsRow_nil _ _ _ _, FarB.refl _ _, hlt, ho, hf⟩
theorem Col.bel {w0 : World} (h : Col wm wr G J m E sz f n xs v) (hb : Below w0.heap.size w0 wm) (hG : w0.heap.size ≤ G) : Below w0.heap.size w0 wr := hb.grown h.far hb.size (fun k e => by injection e; omega)
end
theorem infoHouseS : (Tryz.prog.info? 37).map (fun i => (i.zero, i.size, i.bytes)) = some (some (.agg #[.int .i64 0, .int .i64 0, .int .i64 0]), 3, 24) := by kernel_rfl
theorem infoEntryS : (Tryz.prog.info? 39).map (fun i => (i.zero, i.size, i.bytes)) = some (some (.agg #[.int .i64 0, .int .i64 0]), 2, 16) := by kernel_rfl
theorem infoStepS : (Tryz.prog.info? 35).map (fun i => (i.zero, i.size, i.bytes)) = some (some (.agg #[.int .i64 0, .int .i64 0]), 2, 16) := by kernel_rfl
theorem trips_app (hs : List (Int × Int × Int)) (a b c : Int) : trips (hs ++ [(a, b, c)]) = trips hs ++ [.int .i64 a, .int .i64 b, .int .i64 c] := by simp [trips]
theorem pairs_app (hs : List (Int × Int)) (a b : Int) : pairs (hs ++ [(a, b)]) = pairs hs ++ [.int .i64 a, .int .i64 b] := by simp [pairs]
/-- A bill in a variable. -/
structure Bl (w0 wr : World) (g : Nat) (p : Int) (hs : List (Int × Int × Int)) (A : Option Addr) (c : Nat) : Prop where
  lt : g < wr.heap.size
  c0 : wr.cell? ⟨g, 0, none⟩ = some (.int .i64 p)
  c1 : wr.cell? ⟨g, 1, none⟩ = some (.slice A hs.length c)
  cap : hs.length ≤ c
  rd : Rd wr wr.heap.size A (trips hs)
  bw : Below w0.heap.size w0 wr
section
variable {w0 wr w' : World} {g : Nat} {p : Int} {hs : List (Int × Int × Int)} {A : Option Addr} {c : Nat}
theorem Bl.next (h : Bl w0 wr g p hs A c) (hb : Below wr.heap.size wr w') : Bl w0 w' g p hs A c := ⟨Nat.lt_of_lt_of_le h.lt hb.size, hb.at_ h.lt h.c0, hb.at_ h.lt h.c1, h.cap, h.rd.next hb, h.bw.trans (hb.mono h.bw.size)⟩
theorem Bl.shares (h : Bl w0 wr g p hs A c) : Calls Tryz.prog 7 #[.agg #[.int .i64 p, .slice A hs.length c]] wr (RetT wr) := (feeShares_walk A c p hs wr ⟨h.cap, h.rd⟩).mono fun _ _ h => h
theorem Bl.given (h : Bl w0 wr g p hs A c) {L : Option Addr} {cl : Nat} {qs : List Int} {M : Option Addr} {cm : Nat} {ls : List Int} (hq : Came wr L qs.length cl (ints qs)) (hm : Came wr M ls.length cm (ints ls)) (days : Int) :
    Calls Tryz.prog 8 #[.agg #[.int .i64 p, .slice A hs.length c], .slice L qs.length cl, .slice M ls.length cm, .int .i64 days] wr (RetT wr) := (feeGiven_walk A c p hs L cl qs M cm ls days wr ⟨h.cap, h.rd⟩ hq hm).mono fun _ _ h => h
theorem Bl.appeals (h : Bl w0 wr g p hs A c) (x y z : Int) : Calls Tryz.prog 11 #[.agg #[.int .i64 p, .slice A hs.length c], .int .i64 x, .int .i64 y, .int .i64 z] wr (RetT wr) := (feeAppeals_walk A c p hs x y z wr ⟨h.cap, h.rd⟩).mono fun _ _ h => h
theorem bl_of {wm : World} {v : Value} (h : Col wm wr g 1 2 37 3 (fun _ => .int .i64 p) hs.length (trips hs) v) (hb : Below w0.heap.size w0 wm) (hg : w0.heap.size ≤ g) : ∃ A c, v = .slice A hs.length c ∧ Bl w0 wr g p hs A c := by
  obtain ⟨A, c, rfl, hc, hr⟩ := own_slice h.own
  exact ⟨A, c, rfl, Nat.lt_of_lt_of_le h.lt h.far.sz, h.o 0 (by omega), h.o 1 (by omega), hc, hr, h.bel hb hg⟩
end
/-- An account in a variable. -/
structure Ac (w0 wr : World) (g : Nat) (gr la : Int) (cs ps : List (Int × Int)) (A : Option Addr) (c : Nat) (B : Option Addr) (d : Nat) : Prop where
  lt : g < wr.heap.size
  k : CA4 wr g (.slice A cs.length c) (.slice B ps.length d) (.int .i64 gr) (.int .i64 la)
  cap : cs.length ≤ c
  cap2 : ps.length ≤ d
  rd : Rd wr wr.heap.size A (pairs cs)
  rd2 : Rd wr wr.heap.size B (pairs ps)
  bw : Below w0.heap.size w0 wr
theorem Ac.next {w0 wr w' : World} {g : Nat} {gr la : Int} {cs ps : List (Int × Int)} {A : Option Addr} {c : Nat} {B : Option Addr} {d : Nat} (h : Ac w0 wr g gr la cs ps A c B d) (hb : Below wr.heap.size wr w') : Ac w0 w' g gr la cs ps A c B d :=
  ⟨Nat.lt_of_lt_of_le h.lt hb.size, h.k.next h.lt hb, h.cap, h.cap2, h.rd.next hb, h.rd2.next hb, h.bw.trans (hb.mono h.bw.size)⟩
theorem Ac.accounts {w0 wr : World} {g : Nat} {gr la : Int} {cs ps : List (Int × Int)} {A : Option Addr} {c : Nat} {B : Option Addr} {d : Nat} (h : Ac w0 wr g gr la cs ps A c B d) (day : Int) :
    Calls Tryz.prog 9 #[.agg #[.slice A cs.length c, .slice B ps.length d, .int .i64 gr, .int .i64 la], .int .i64 day] wr (RetT wr) := (feeAccounts_walk A c B d cs ps gr la day wr ⟨h.cap, h.rd⟩ ⟨h.cap2, h.rd2⟩).mono fun _ _ h => h
def PInt (v : Value) (_ : World) : Prop := ∃ d : Int, v = .int .i64 d
def PAg3 (v : Value) (_ : World) : Prop := ∃ a b c : Int, v = .agg #[.int .i64 a, .int .i64 b, .int .i64 c]
def PAg2 (v : Value) (_ : World) : Prop := ∃ a b : Int, v = .agg #[.int .i64 a, .int .i64 b]
def PRo3 (B : Nat) (v : Value) (w : World) : Prop := ∃ (a b c : Int) (k : Nat), v = .slice (some ⟨k, 0, none⟩) 1 1 ∧ B ≤ k ∧ k < w.heap.size ∧ ∀ j u, [Value.int .i64 a, .int .i64 b, .int .i64 c][j]? = some u → w.cell? ((⟨k, 0, none⟩ : Addr).add j) = some u
def PRo2 (B : Nat) (v : Value) (w : World) : Prop := ∃ (a b : Int) (k : Nat), v = .slice (some ⟨k, 0, none⟩) 1 1 ∧ B ≤ k ∧ k < w.heap.size ∧ ∀ j u, [Value.int .i64 a, .int .i64 b][j]? = some u → w.cell? ((⟨k, 0, none⟩ : Addr).add j) = some u
theorem stbB_int : StbB PInt := fun _ _ _ h _ => h
theorem stbB_ag3 : StbB PAg3 := fun _ _ _ h _ => h
theorem stbB_ag2 : StbB PAg2 := fun _ _ _ h _ => h
theorem stbB_ro3 (B : Nat) : StbB (PRo3 B) := by
  rintro v w w' ⟨a, b, c, k, e, h1, h2, h3⟩ hb
  exact ⟨a, b, c, k, e, h1, Nat.lt_of_lt_of_le h2 hb.size, fun j u hu => (hb.cell (p := (⟨k, 0, none⟩ : Addr).add j) (by rw [addr_add]; exact h2)).trans (h3 j u hu)⟩
theorem stbB_ro2 (B : Nat) : StbB (PRo2 B) := by
  rintro v w w' ⟨a, b, k, e, h1, h2, h3⟩ hb
  exact ⟨a, b, k, e, h1, Nat.lt_of_lt_of_le h2 hb.size, fun j u hu => (hb.cell (p := (⟨k, 0, none⟩ : Addr).add j) (by rw [addr_add]; exact h2)).trans (h3 j u hu)⟩
def Ro4 (B k : Nat) (w : World) : Prop := B ≤ k ∧ k < w.heap.size ∧ ∀ o, o < 4 → ∃ z, w.cell? ⟨k, o, none⟩ = some (.int .i64 z)
def PRo4 (B : Nat) (v : Value) (w : World) : Prop := ∃ k : Nat, v = .slice (some ⟨k, 0, none⟩) 4 4 ∧ Ro4 B k w
def PSl4 (B n : Nat) (v : Value) (w : World) : Prop := ∃ k : Nat, v = .slice (some ⟨k, 0, none⟩) n 4 ∧ Ro4 B k w
theorem Ro4.next {B k : Nat} {w w' : World} (h : Ro4 B k w) (hb : Below w.heap.size w w') : Ro4 B k w' := ⟨h.1, Nat.lt_of_lt_of_le h.2.1 hb.size, fun o ho => by obtain ⟨z, e⟩ := h.2.2 o ho; exact ⟨z, hb.at_ h.2.1 e⟩⟩
theorem stbB_ro4 (B : Nat) : StbB (PRo4 B) := by
  rintro v w w' ⟨k, e, h⟩ hb
  exact ⟨k, e, h.next hb⟩
theorem stbB_sl4 (B n : Nat) : StbB (PSl4 B n) := by
  rintro v w w' ⟨k, e, h⟩ hb
  exact ⟨k, e, h.next hb⟩
theorem ro4_new (B : Nat) (w : World) (a b c d : Int) (t : TypeId) (hB : B ≤ w.heap.size) : Ro4 B w.heap.size (w.alloc (.cells #[.int .i64 a, .int .i64 b, .int .i64 c, .int .i64 d] t)) := by
  refine ⟨hB, by simp, fun o ho => ?_⟩
  have k := fun j u (h : [Value.int .i64 a, .int .i64 b, .int .i64 c, .int .i64 d][j]? = some u) => new_cell w _ t _ j rfl h
  match o, ho with
  | 0, _ => exact ⟨_, k 0 _ rfl⟩
  | 1, _ => exact ⟨_, k 1 _ rfl⟩
  | 2, _ => exact ⟨_, k 2 _ rfl⟩
  | 3, _ => exact ⟨_, k 3 _ rfl⟩
theorem Ro4.came {B k n : Nat} {w : World} (h : Ro4 B k w) (hn : n ≤ 4) : ∃ ls : List Int, ls.length = n ∧ Came w (some ⟨k, 0, none⟩) ls.length 4 (ints ls) := by
  obtain ⟨ls, e, hc⟩ := nums_ints (n := n) h.2.1 (fun o ho => h.2.2 o (by omega))
  exact ⟨ls, e, by rw [e]; exact hn, hc.2⟩
def cA1 (gr la : Int) (j : Nat) : Value := if j = 1 then .slice none 0 0 else if j = 2 then .int .i64 gr else .int .i64 la
def cA2 (v : Value) (gr la : Int) (j : Nat) : Value := if j = 0 then v else if j = 2 then .int .i64 gr else .int .i64 la
theorem col_first (w : World) (gr la : Int) (t : TypeId) {E : TypeId} {sz : Nat} {W : World} (e : W = w.alloc (.cells #[.slice none 0 0, .slice none 0 0, .int .i64 gr, .int .i64 la] t)) : Col W W w.heap.size 0 4 E sz (cA1 gr la) 0 (pairs []) (.slice none 0 0) ∧ Below w.heap.size w W := by
  subst e
  have k := fun j u (h : [Value.slice none 0 0, .slice none 0 0, .int .i64 gr, .int .i64 la][j]? = some u) => new_cell w _ t _ j rfl h
  refine ⟨col_start (by simp) (fun j hj => ?_) (fun j hj => new_free _ _ _ _ _ rfl), below_new _ _⟩
  match j, hj with
  | 0, _ => exact k 0 _ rfl
  | 1, _ => exact k 1 _ rfl
  | 2, _ => exact k 2 _ rfl
  | 3, _ => exact k 3 _ rfl
theorem col_second {wm wn : World} {G : Nat} {gr la : Int} {E E' : TypeId} {sz sz' n : Nat} {xs : List Value} {v : Value} (h : Col wm wn G 0 4 E sz (cA1 gr la) n xs v) : Col wn wn G 1 4 E' sz' (cA2 v gr la) 0 (pairs []) (.slice none 0 0) := by
  refine col_start (Nat.lt_of_lt_of_le h.lt h.far.sz) (fun j hj => ?_) h.of
  rw [h.o j hj]
  match j, hj with
  | 0, _ => rfl
  | 1, _ => rfl
  | 2, _ => rfl
  | 3, _ => rfl
theorem ac_of {w0 wm wn wr : World} {G : Nat} {gr la : Int} {E : TypeId} {cs ps : List (Int × Int)} {A : Option Addr} {c : Nat} {u : Value} (h1 : Col wm wn G 0 4 E 2 (cA1 gr la) cs.length (pairs cs) (.slice A cs.length c)) (h2 : Col wn wr G 1 4 E 2 (cA2 (.slice A cs.length c) gr la) ps.length (pairs ps) u) (hb : Below w0.heap.size w0 wm) (hg : w0.heap.size ≤ G) :
    ∃ B d, u = .slice B ps.length d ∧ Ac w0 wr G gr la cs ps A c B d := by
  obtain ⟨B, d, rfl, hd, hr⟩ := own_slice h2.own
  obtain ⟨A', c', e, hc, hr1⟩ := own_sliceI h1.own
  injection e with e1 _ e3
  subst e1 e3
  have hs := h2.far.sz
  have hlt := h1.lt
  have hs1 := h1.far.sz
  refine ⟨B, d, rfl, by omega, ⟨h2.o 0 (by omega), h2.o 1 (by omega), h2.o 2 (by omega), h2.o 3 (by omega)⟩, hc, hd, ?_, hr, h2.bel (h1.bel hb hg) hg⟩
  exact RdI.rd (hr1.keep fun b m1 m2 => h2.far.far b m2 (by omega)) hs
end Go.Proofs.YtfojjecnmfkcfaaGreat
