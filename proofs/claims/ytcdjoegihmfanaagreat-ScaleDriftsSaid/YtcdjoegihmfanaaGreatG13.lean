/- Nets: what trips can weigh, by the sums of both bridges; a real net lies in it. Bounds of best sums. nets: the least and the greatest sum of the nets of trips. fitting, trip, whole, Net, Total. Net, Total. slices.Compare at lists of numbers. slices.Sort at the indices of a bridge's proofs. -/
import Derived.Test.YtcdjoegihmfanaaGreatG12
import Derived.Test.YtcdjoegihmfanaaGreatG9
import Derived.Test.YtcdjoegihmfanaaGreatG3
import Derived.Deep.QuietTactic
import Derived.BigQuiet
import Derived.Test.YtcdjoegihmfanaaGreatG8
import Derived.Test.YtcdjoegihmfanaaGreatG10
namespace Go.Proofs.YtcdjoegihmfanaaGreat
set_option linter.unusedVariables false
/-- What stands on the slips of trips alone: the least, and the greatest. -/
def tripLo (e0 e1 : Int) (t : Tr) : Int := t.ir - t.or - ((if t.ib = 0 then e0 else e1) + (if t.ob = 0 then e0 else e1)) - t.mud
def tripHi (e0 e1 : Int) (t : Tr) : Int := t.ir - t.or + ((if t.ib = 0 then e0 else e1) + (if t.ob = 0 then e0 else e1))
def netS (e0 e1 : Int) (ps : List Pr) (l : List Tr) (c : Nat) : Option (Int × Int) :=
  match sumsR (evP e0 e1 ps 0 (asksOf l 0)) c, sumsR (evP e0 e1 ps 1 (asksOf l 1)) c with
  | some p, some q => some (p.1 + q.1 + (l.map (tripLo e0 e1)).sum, p.2 + q.2 + (l.map (tripHi e0 e1)).sum)
  | _, _ => none
/-- What a rule of values sums to over events. -/
def wsumV (v : Int → Int) : List Ev → Int
  | [] => 0
  | e :: t => e.w * v e.m + wsumV v t
theorem wsum_map (v : Int → Int) : ∀ l : List Ev, wsum l (l.map fun e => v e.m) = wsumV v l
  | [] => rfl
  | e :: t => by simp only [List.map_cons, wsum, wsumV, wsum_map v t]
theorem wsumV_put (v : Int → Int) : ∀ (l : List Ev) (p : Ev), wsumV v (putE l p) = wsumV v l + p.w * v p.m
  | [], p => by simp [putE, wsumV]
  | e :: t, p => by
    simp only [putE]
    split
    · rename_i h
      simp only [wsumV, mergeE, Int.add_mul, h]; omega
    · split
      · simp only [wsumV]; omega
      · simp only [wsumV, wsumV_put v t p]; omega
def askSum (v : Int → Int) (asks : List (Int × Int)) : Int := (asks.map fun p => p.2 * v p.1).sum
theorem wsumV_putA (v : Int → Int) : ∀ (asks : List (Int × Int)) (l : List Ev), wsumV v (putA l asks) = wsumV v l + askSum v asks
  | [], l => by simp [putA, askSum]
  | p :: t, l => by
    show wsumV v (putA (putE l ⟨p.1, -50, 50, p.2⟩) t) = _
    rw [wsumV_putA v t, wsumV_put]
    simp only [askSum, List.map_cons, List.sum_cons]; omega
theorem wsumV_map (v : Int → Int) (e0 e1 : Int) (ps : List Pr) : ∀ l : List Nat, wsumV v (l.map (evI e0 e1 ps)) = 0
  | [] => rfl
  | i :: t => by simp only [List.map_cons, wsumV, wsumV_map v e0 e1 ps t, evI]; omega
theorem fits_put {v : Int → Int} {p : Ev} (hp : fits1 p (v p.m)) : ∀ {l : List Ev}, (∀ e ∈ l, fits1 e (v e.m)) → ∀ e ∈ putE l p, fits1 e (v e.m)
  | [], _, e, he => by simp [putE] at he; subst he; exact hp
  | a :: t, h, e, he => by
    have ha := h a (by simp)
    have ht : ∀ e ∈ t, fits1 e (v e.m) := fun e he => h e (List.mem_cons_of_mem _ he)
    simp only [putE] at he
    split at he
    · rename_i hm
      rcases List.mem_cons.1 he with rfl | he
      · unfold fits1 at hp ha ⊢
        simp only [mergeE]
        rw [← hm] at hp
        omega
      · exact ht e he
    · split at he
      · rcases List.mem_cons.1 he with rfl | he
        · exact hp
        · exact h e he
      · rcases List.mem_cons.1 he with rfl | he
        · exact ha
        · exact fits_put hp ht e he
theorem fits_putA {v : Int → Int} (hv : ∀ m, -50 ≤ v m ∧ v m ≤ 50) : ∀ {asks : List (Int × Int)} {l : List Ev}, (∀ e ∈ l, fits1 e (v e.m)) → ∀ e ∈ putA l asks, fits1 e (v e.m)
  | [], _, h => h
  | p :: t, l, h => fits_putA hv (asks := t) (fits_put (by have := hv p.1; exact ⟨this.1, this.2, this.1, this.2⟩) h)
/-- A drift fits the proofs of a bridge. -/
def fitsD (e0 e1 : Int) (ps : List Pr) (n : Int) (f : Int) (cs : List (Int × Int)) : Prop := ∀ i, i < ps.length → (pAt ps i).b = n → (spI e0 e1 ps i).1 ≤ valueD f cs (pAt ps i).m ∧ valueD f cs (pAt ps i).m ≤ (spI e0 e1 ps i).2
theorem valueD_bd : ∀ {cs : List (Int × Int)} {f m : Int}, -50 ≤ f ∧ f ≤ 50 → (∀ c ∈ cs, -50 ≤ c.2 ∧ c.2 ≤ 50) → -50 ≤ valueD f cs m ∧ valueD f cs m ≤ 50
  | [], _, _, h, _ => h
  | c :: t, f, m, h, hc => by
    rw [valueD_cons]
    exact valueD_bd (cs := t) (by have := hc c (by simp); split <;> omega) fun x hx => hc x (List.mem_cons_of_mem _ hx)
/-- A drift that fits gives a way through the events, with what is asked. -/
theorem drift_evP {e0 e1 : Int} {ps : List Pr} (ho : Once ps) {n f : Int} {cs : List (Int × Int)} (hf : fitsD e0 e1 ps n f cs) (hv : ∀ m, -50 ≤ valueD f cs m ∧ valueD f cs m ≤ 50) (asks : List (Int × Int)) :
    Way (evP e0 e1 ps n asks) cs.length ((evP e0 e1 ps n asks).map fun e => valueD f cs e.m) ∧ wsum (evP e0 e1 ps n asks) ((evP e0 e1 ps n asks).map fun e => valueD f cs e.m) = askSum (valueD f cs) asks := by
  constructor
  · refine drift_way (evP_sorted ho n asks) ?_
    refine fits_putA hv fun e he => ?_
    simp only [List.mem_map] at he
    obtain ⟨i, hi, rfl⟩ := he
    obtain ⟨h1, h2⟩ := ((ordL_is ho n).2 i).1 hi
    have := hf i h1 h2
    have := hv (pAt ps i).m
    exact ⟨by simp only [evI]; omega, by simp only [evI]; omega, by simp only [evI]; omega, by simp only [evI]; omega⟩
  · rw [wsum_map (valueD f cs)]
    unfold evP
    rw [wsumV_putA, wsumV_map]; omega
theorem askSum_trips (v0 v1 : Int → Int) : ∀ (l : List Tr), (∀ t ∈ l, (t.ib = 0 ∨ t.ib = 1) ∧ (t.ob = 0 ∨ t.ob = 1)) →
    askSum v0 (asksOf l 0) + askSum v1 (asksOf l 1) = (l.map fun t => (if t.ob = 0 then v0 t.om else v1 t.om) - (if t.ib = 0 then v0 t.im else v1 t.im)).sum
  | [], _ => rfl
  | t :: l, h => by
    have ih := askSum_trips v0 v1 l fun x hx => h x (List.mem_cons_of_mem _ hx)
    have ht := h t (by simp)
    simp only [asksOf, List.flatMap_cons, askSum, List.map_append, List.sum_append, List.map_cons, List.sum_cons] at ih ⊢
    rcases ht.1 with h1 | h1 <;> rcases ht.2 with h2 | h2 <;> simp [h1, h2] <;> omega
/-- The bridges' drifts, and what each trip really weighed. -/
theorem net_in {e0 e1 : Int} {ps : List Pr} (ho : Once ps) {f0 f1 : Int} {c0 c1 : List (Int × Int)} (h0 : fitsD e0 e1 ps 0 f0 c0) (h1 : fitsD e0 e1 ps 1 f1 c1) (v0 : ∀ m, -50 ≤ valueD f0 c0 m ∧ valueD f0 c0 m ≤ 50) (v1 : ∀ m, -50 ≤ valueD f1 c1 m ∧ valueD f1 c1 m ≤ 50)
    {c : Nat} (l0 : c0.length ≤ c) (l1 : c1.length ≤ c) (l : List Tr) (hl : ∀ t ∈ l, (t.ib = 0 ∨ t.ib = 1) ∧ (t.ob = 0 ∨ t.ob = 1)) :
    ∃ s, netS e0 e1 ps l c = some s ∧
      s.1 ≤ (l.map fun t => (if t.ob = 0 then valueD f0 c0 t.om else valueD f1 c1 t.om) - (if t.ib = 0 then valueD f0 c0 t.im else valueD f1 c1 t.im)).sum + (l.map (tripLo e0 e1)).sum ∧
      (l.map fun t => (if t.ob = 0 then valueD f0 c0 t.om else valueD f1 c1 t.om) - (if t.ib = 0 then valueD f0 c0 t.im else valueD f1 c1 t.im)).sum + (l.map (tripHi e0 e1)).sum ≤ s.2 := by
  obtain ⟨w0, s0⟩ := drift_evP ho h0 v0 (asksOf l 0)
  obtain ⟨w1, s1⟩ := drift_evP ho h1 v1 (asksOf l 1)
  have w0' := w0.1
  have k0 : Way (evP e0 e1 ps 0 (asksOf l 0)) c ((evP e0 e1 ps 0 (asksOf l 0)).map fun e => valueD f0 c0 e.m) := ⟨w0.1, Nat.le_trans w0.2 l0⟩
  have k1 : Way (evP e0 e1 ps 1 (asksOf l 1)) c ((evP e0 e1 ps 1 (asksOf l 1)).map fun e => valueD f1 c1 e.m) := ⟨w1.1, Nat.le_trans w1.2 l1⟩
  unfold netS
  cases r0 : sumsR (evP e0 e1 ps 0 (asksOf l 0)) c with
  | none => exact absurd k0 (sums_none r0 _)
  | some p =>
    cases r1 : sumsR (evP e0 e1 ps 1 (asksOf l 1)) c with
    | none => exact absurd k1 (sums_none r1 _)
    | some q =>
      obtain ⟨a1, a2⟩ := sums_some (a := p.1) (b := p.2) r0
      obtain ⟨b1, b2⟩ := sums_some (a := q.1) (b := q.2) r1
      have q1 := a1.2 _ k0
      have q2 := a2.2 _ k0
      have q3 := b1.2 _ k1
      have q4 := b2.2 _ k1
      unfold noBetter at q1 q2 q3 q4
      simp at q1 q2 q3 q4
      have hs := askSum_trips (valueD f0 c0) (valueD f1 c1) l hl
      rw [← s0, ← s1] at hs
      refine ⟨_, rfl, ?_, ?_⟩ <;> simp only <;> omega
end Go.Proofs.YtcdjoegihmfanaaGreat
namespace Go.Proofs.YtcdjoegihmfanaaGreat
set_option linter.unusedVariables false
theorem wsum_bd : ∀ {l : List Ev} {xs : List Int}, fitsL l xs → (∀ e ∈ l, -1000 ≤ e.w ∧ e.w ≤ 1000) → -50000 * (l.length : Int) ≤ wsum l xs ∧ wsum l xs ≤ 50000 * l.length
  | [], [], _, _ => by simp [wsum]
  | e :: l, x :: xs, h, hw => by
    have h1 := wsum_bd (l := l) (xs := xs) h.2 (fun q hq => hw q (List.mem_cons_of_mem _ hq))
    have h2 := mul_bdd (hw e (by simp)) (x := x) h.1.2.2
    simp only [wsum, List.length_cons]
    omega
theorem sumsR_bd {l : List Ev} {c : Nat} {a b : Int} (h : sumsR l c = some (a, b)) (hw : ∀ e ∈ l, -1000 ≤ e.w ∧ e.w ≤ 1000) : (-50000 * (l.length : Int) ≤ a ∧ a ≤ 50000 * l.length) ∧ -50000 * (l.length : Int) ≤ b ∧ b ≤ 50000 * l.length := by
  obtain ⟨⟨⟨xs, h1, rfl⟩, _⟩, ⟨ys, h2, rfl⟩, _⟩ := sums_some h
  exact ⟨wsum_bd h1.1 hw, wsum_bd h2.1 hw⟩
end Go.Proofs.YtcdjoegihmfanaaGreat
namespace Go.Proofs.YtcdjoegihmfanaaGreat
open Go.RowKit
set_option linter.unusedVariables false
/-- The sums of the first bridges. -/
def accN (e0 e1 : Int) (ps : List Pr) (l : List Tr) (c : Nat) : Nat → Option (Int × Int)
  | 0 => some (0, 0)
  | k + 1 => match accN e0 e1 ps l c k, sumsR (evP e0 e1 ps (k : Nat) (asksOf l (k : Nat))) c with
    | some a, some p => some (a.1 + p.1, a.2 + p.2)
    | _, _ => none
theorem netS_acc (e0 e1 : Int) (ps : List Pr) (l : List Tr) (c : Nat) : netS e0 e1 ps l c = (accN e0 e1 ps l c 2).map fun a => (a.1 + (l.map (tripLo e0 e1)).sum, a.2 + (l.map (tripHi e0 e1)).sum) := by
  unfold netS
  simp only [accN]
  show _ = Option.map _ (match (match some ((0 : Int), (0 : Int)), sumsR (evP e0 e1 ps 0 (asksOf l 0)) c with | some a, some p => some (a.1 + p.1, a.2 + p.2) | _, _ => none), sumsR (evP e0 e1 ps 1 (asksOf l 1)) c with | some a, some p => some (a.1 + p.1, a.2 + p.2) | _, _ => none)
  cases sumsR (evP e0 e1 ps 0 (asksOf l 0)) c <;> cases sumsR (evP e0 e1 ps 1 (asksOf l 1)) c <;> simp
/-- A span and a truth, as results. -/
def netE (o : Option (Int × Int)) : Ending := .returned (.tuple #[.agg #[.int .i64 (o.getD (0, 0)).1, .int .i64 (o.getD (0, 0)).2], .bool o.isSome])
def trOk2 (t : Tr) : Prop := trOk t ∧ (0 ≤ t.ir ∧ t.ir ≤ 20000) ∧ (0 ≤ t.or ∧ t.or ≤ 20000) ∧ (0 ≤ t.mud ∧ t.mud ≤ 200)
theorem trip_bd {e0 e1 : Int} (h0 : 0 ≤ e0 ∧ e0 ≤ 50) (h1 : 0 ≤ e1 ∧ e1 ≤ 50) {t : Tr} (ht : trOk2 t) : (-21000 ≤ tripLo e0 e1 t ∧ tripLo e0 e1 t ≤ 21000) ∧ -21000 ≤ tripHi e0 e1 t ∧ tripHi e0 e1 t ≤ 21000 := by
  obtain ⟨_, a, b, c⟩ := ht
  unfold tripLo tripHi
  split <;> split <;> omega
def sumT (f : Tr → Int) (l : List Tr) : Int := (l.map f).sum
theorem sumT_snoc (f : Tr → Int) (l : List Tr) (t : Tr) : sumT f (l ++ [t]) = sumT f l + f t := by unfold sumT; rw [List.map_append, List.sum_append]; simp
theorem sumT_bd {f : Tr → Int} : ∀ {l : List Tr}, (∀ t ∈ l, -21000 ≤ f t ∧ f t ≤ 21000) → -21000 * (l.length : Int) ≤ sumT f l ∧ sumT f l ≤ 21000 * l.length
  | [], _ => by simp [sumT]
  | t :: l, h => by
    have h1 := sumT_bd (l := l) fun x hx => h x (List.mem_cons_of_mem _ hx)
    have h2 := h t (by simp)
    have e : sumT f (t :: l) = f t + sumT f l := by simp [sumT]
    rw [e, List.length_cons]
    omega
theorem reE_eq {l : List Ev} {c : Nat} {r : Option (Int × Int)} (h : sumsR l c = r) : reE l c = .returned (.tuple #[.agg #[.int .i64 (r.getD (0, 0)).1, .int .i64 (r.getD (0, 0)).2], .bool r.isSome]) := by
  unfold reE solS solB
  rw [h]
  cases r <;> rfl
theorem infoMapI : (Tryz.prog.info? 152).map (fun i => (i.zero, i.size, i.bytes)) = some (some (.map none), 1, 8) := by kernel_rfl
theorem index_maps (W : World) (mm : Nat → Nat) (k : Nat) (hk : k < 2) : (Instr.index 216 (.agg #[.map (some (mm 0)), .map (some (mm 1))]) (.int .i64 (k : Int))).run Tryz.prog W = .ok (.map (some (mm k))) W := by
  obtain ⟨i0, hi, _, hi2, _⟩ := info_parts infoMapI
  refine run_index_row W 216 152 2 _ k _ i0 _ infoBooks mapII rfl hi hi2 hk ?_
  match k, hk with
  | 0, _ => rfl
  | 1, _ => rfl
theorem accN_none {e0 e1 : Int} {ps : List Pr} {l : List Tr} {c k : Nat} (hk : k ≤ 2) (h : accN e0 e1 ps l c k = none) : accN e0 e1 ps l c 2 = none := by
  match k, hk with
  | 0, _ => simp [accN] at h
  | 1, _ => rw [accN, h]
  | 2, _ => exact h
set_option maxRecDepth 100000 in
set_option maxHeartbeats 4000000 in
theorem nets_any (g : Nat) (e0 e1 : Int) (PA : Option Addr) (c : Nat) (ps : List Pr) (TA : Option Addr) (d : Nat) (ts : List Tr) (LA : Option Addr) (lc : Nat) (l : List Tr) (ch : Nat) (W : World) (hG : Gd W g e0 e1 PA c ps TA d ts) (hR : Rd W W.heap.size LA (trs l)) (hl : l.length ≤ 400) (hok : ∀ t ∈ l, trOk2 t) (hch : ch ≤ 4) :
    Calls Tryz.prog 112 #[.pointer (some ⟨g, 0, none⟩), .slice LA l.length lc, .int .i64 (ch : Nat)] W fun e w' => e = netE (netS e0 e1 ps l ch) ∧ Below W.heap.size W w' := by
  have HG := Lib.hid hG
  have HR := Lib.hid hR
  have HOK := Lib.hid hok
  have HNS := Lib.hid (netS_acc e0 e1 ps l ch)
  clear hG hR hok
  unfold netE
  go_enter Tryz.func112, Tryz.ntmps112
  go_wp2_with fail
  have b1 := below_new W (.cells #[.int .i64 0, .int .i64 0] 36)
  have R1 := Blk.new W [.int .i64 0, .int .i64 0] 36
  have z1 : (W.alloc (.cells #[.int .i64 0, .int .i64 0] 36)).heap.size = W.heap.size + 1 := by simp
  change Blk (W.alloc (.cells #[.int .i64 0, .int .i64 0] 36)) _ _ at R1
  generalize W.alloc (.cells #[.int .i64 0, .int .i64 0] 36) = W1 at *
  have b2 := below_new W1 (.cells #[.int .i64 0, .int .i64 0] 36)
  have O2 := Blk.new W1 [.int .i64 0, .int .i64 0] 36
  change Blk (W1.alloc (.cells #[.int .i64 0, .int .i64 0] 36)) _ _ at O2
  have R2 := R1.below b2
  have hbw := b1.trans (b2.mono b1.size)
  rw [z1] at O2
  clear b1 b2 R1 z1
  generalize W1.alloc (.cells #[.int .i64 0, .int .i64 0] 36) = W2 at *
  refine (loaded_any LA lc l W2 ((HR.out.next hbw)) hl (fun t ht => (HOK.out t ht).1)).mono ?_
  rintro e w3 ⟨m0, m1, rfl, hm0, hm1, hb3⟩
  have R3 := Lib.hid (R2.below hb3)
  have O3 := Lib.hid (O2.below hb3)
  have HBW := Lib.hid (hbw.trans (hb3.mono hbw.size))
  have HM0 := Lib.hid hm0
  have HM1 := Lib.hid hm1
  clear hb3 hm0 hm1 R2 O2 hbw
  go_wp2_with fail
  obtain ⟨mm, hmm⟩ : ∃ mm : Nat → Nat, mm = fun j => if j = 0 then m0 else m1 := ⟨_, rfl⟩
  have HMM : Hid (∀ j, j < 2 → MI intE Tryz.prog 3 w3 (mm j) (2 * l.length) (askF (asksOf l (j : Nat)))) := Lib.hid (fun j hj => by
    subst hmm
    match j, hj with
    | 0, _ => exact HM0.out
    | 1, _ => exact HM1.out)
  have e0m : m0 = mm 0 := by subst hmm; rfl
  have e1m : m1 = mm 1 := by subst hmm; rfl
  rw [e0m, e1m]
  clear HM0 HM1 e0m e1m hmm
  have hix := fun (w : World) k hk => Lib.hid (index_maps w mm k hk)
  go_loopw [9, 10, 11, 12, 19] (fun _ _ _ _ i wr => ∃ (k : Nat) (x y : Int), k ≤ 2 ∧ i = .int .i64 (k : Nat) ∧ Hid (accN e0 e1 ps l ch k = some (x, y)) ∧ Hid ((-50000000 * (k : Int) ≤ x ∧ x ≤ 50000000 * (k : Int)) ∧ -50000000 * (k : Int) ≤ y ∧ y ≤ 50000000 * (k : Int)) ∧ Hid (Blk wr (W.heap.size + 1) [.int .i64 x, .int .i64 y]) ∧ Hid (Blk wr W.heap.size [.int .i64 0, .int .i64 0]) ∧ Hid (w3.grownBy wr (some (W.heap.size + 1)))) (fun _ _ _ _ i _ => 2 - (intOf i).toNat)
  case atStart => exact ⟨0, 0, 0, by omega, rfl, Lib.hid rfl, Lib.hid (by omega), O3, R3, Lib.hid (grownBy_self _ _)⟩
  case round =>
    obtain ⟨k, x, y, hk, rfl, HACC, HBD, HO, HRS, HGR⟩ := hrel
    have hbl := below_grown HBW.out HGR.out (by omega)
    have HBL := Lib.hid hbl
    by_cases hlt : k < 2
    · have hmk := (HMM.out k hlt).block (HGR.out.block _ (HMM.out k hlt).lt (by intro e; injection e with e; exact (HMM.out k hlt).ne_cell (O3.out.cells 0 _ rfl) e.symm))
      obtain ⟨r, HRR⟩ : ∃ r, Hid (sumsR (evP e0 e1 ps (k : Nat) (asksOf l (k : Nat))) ch = r) := ⟨_, Lib.hid rfl⟩
      have hoka := okAsks_trips hl (k : Nat)
      have hrc := reach_any g e0 e1 PA c ps TA d ts (k : Nat) (mm k) (2 * l.length) (asksOf l (k : Nat)) ch wr (HG.out.below hbl) hmk (by omega) hoka hch
      rw [reE_eq HRR.out] at hrc
      have HRC := Lib.hid hrc
      have hlen := evP_len (e0 := e0) (e1 := e1) (ps := ps) (n := (k : Nat)) HG.out.ok.lp hoka
      have hbdd := evP_bd (e0 := e0) (e1 := e1) (ps := ps) HG.out.ok.once (n := (k : Nat)) hoka
      have HPB : Hid (∀ p, r = some p → (-50000000 ≤ p.1 ∧ p.1 ≤ 50000000) ∧ -50000000 ≤ p.2 ∧ p.2 ≤ 50000000) := Lib.hid (fun p hp => by
        have := sumsR_bd (a := p.1) (b := p.2) (HRR.out.trans hp) hbdd
        omega)
      have hi0 := (hix wr k hlt).out
      have k1 : (k : Int) < 2 := by omega
      clear hmk hoka hrc hlen hbdd hbl
      go_wp2_with fail
      refine HRC.out.mono ?_
      rintro e w5 ⟨rfl, hb5⟩
      have HO5 := Lib.hid (HO.out.below hb5)
      have HRS5 := Lib.hid (HRS.out.below hb5)
      have HGR5 := Lib.hid (grown_below HGR.out hb5)
      have HBL5 := Lib.hid (HBL.out.trans (hb5.mono HBL.out.size))
      clear HRC hi0 hb5
      cases r with
      | none =>
        have HN : Hid (netS e0 e1 ps l ch = none) := Lib.hid (by
          rw [HNS.out, accN_none (k := k + 1) (by omega) (by rw [accN, HACC.out, HRR.out])]; rfl)
        have r0 := HRS5.out.cells 0 _ rfl
        have r1 := HRS5.out.cells 1 _ rfl
        have f0 := HRS5.out.free 0
        have f1 := HRS5.out.free 1
        have lr := HRS5.out.lt
        go_wp2_with fail
        obtain ⟨q0, q1⟩ := two_set (u := .int .i64 0) (v := .int .i64 0) r0 r1
        have hbz := (HBL5.out.setCell (p := ⟨W.heap.size, 0, none⟩) (Nat.le_refl _) (.int .i64 0)).setCell (p := ⟨W.heap.size, 1, none⟩) (Nat.le_refl _) (.int .i64 0)
        have hlz : W.heap.size < ((w5.setCell ⟨W.heap.size, 0, none⟩ (.int .i64 0)).setCell ⟨W.heap.size, 1, none⟩ (.int .i64 0)).heap.size := by simpa [World.setCell] using lr
        generalize (w5.setCell _ _).setCell _ _ = Z at q0 q1 hbz hlz ⊢
        have hba := below_new Z (.cells #[.int .i64 0, .int .i64 0] 36)
        have q0 := hba.at_ hlz q0
        have q1 := hba.at_ hlz q1
        have hbq := hbz.trans (hba.mono hbz.size)
        generalize Z.alloc _ = Y at q0 q1 hbq ⊢
        exact bodyPost_ret (v := .tuple #[.agg #[.int .i64 0, .int .i64 0], .bool false]) (by simp [results, Tryz.results112, go_sem, q0, q1]) rfl ⟨by rw [HN.out]; rfl, hbq⟩
      | some p =>
        obtain ⟨p1, p2⟩ := p
        have hpb := HPB.out _ rfl
        have hxy := HBD.out
        have HACC2 : Hid (accN e0 e1 ps l ch (k + 1) = some (x + p1, y + p2)) := Lib.hid (by rw [accN, HACC.out, HRR.out])
        have v1 : wrap64 (x + p1) = x + p1 := IntWalk.wrap64_in _ (by omega)
        have v2 : wrap64 (y + p2) = y + p2 := IntWalk.wrap64_in _ (by omega)
        have HV := Lib.hid (And.intro v1 v2)
        have HBD2 : Hid ((-50000000 * ((k + 1 : Nat) : Int) ≤ x + p1 ∧ x + p1 ≤ 50000000 * ((k + 1 : Nat) : Int)) ∧ -50000000 * ((k + 1 : Nat) : Int) ≤ y + p2 ∧ y + p2 ≤ 50000000 * ((k + 1 : Nat) : Int)) := Lib.hid (by omega)
        have o0 := HO5.out.cells 0 _ rfl
        have o1 := HO5.out.cells 1 _ rfl
        have f0 := HO5.out.free 0
        have f1 := HO5.out.free 1
        have lo := HO5.out.lt
        clear v1 v2 hpb hxy
        go_wp2_with fail
        go_roundw
        case rel =>
          simp only [HV.out.1, HV.out.2]
          refine ⟨k + 1, _, _, hlt, by go_num, HACC2, HBD2, Lib.hid (((HO5.out.set (j := 0) (by simp) _).set (j := 1) (by simp) _).alloc _), Lib.hid ((HRS5.out.block (by simp [World.setCell]) ((heap_far (by omega)).trans (heap_far (by omega)))).alloc _), Lib.hid (only_allocg (only_setg (only_setg HGR5.out _ _) _ _) _)⟩
        case measure => simp [intOf]; omega
    · have HN : Hid (netS e0 e1 ps l ch = some (x + sumT (tripLo e0 e1) l, y + sumT (tripHi e0 e1) l)) := Lib.hid (by
        rw [HNS.out, show (2 : Nat) = k by omega, HACC.out]; rfl)
      have hxy : (-100000000 ≤ x ∧ x ≤ 100000000) ∧ -100000000 ≤ y ∧ y ≤ 100000000 := by have := HBD.out; omega
      have HXY := Lib.hid hxy
      obtain ⟨wo, hwo⟩ : ∃ z, z = wr := ⟨_, rfl⟩
      subst hwo
      clear hxy hbl hix HACC HBD
      go_wp2_with fail
      go_loopw [14, 15, 16, 48] (fun _ _ _ i wr => ∃ k : Nat, k ≤ l.length ∧ i = .int .i64 (k : Nat) ∧ Hid (Blk wr (W.heap.size + 1) [.int .i64 (x + sumT (tripLo e0 e1) (l.take k)), .int .i64 (y + sumT (tripHi e0 e1) (l.take k))]) ∧ Hid (Blk wr W.heap.size [.int .i64 0, .int .i64 0]) ∧ Hid (Below W.heap.size W wr)) (fun _ _ _ i _ => l.length - (intOf i).toNat)
      case atStart =>
        refine ⟨0, Nat.zero_le _, rfl, Lib.hid ?_, HRS, HBL⟩
        have e1 : ∀ f, sumT f (l.take 0) = 0 := fun f => by simp [sumT]
        rw [e1, e1, Int.add_zero, Int.add_zero]
        exact HO.out
      case round =>
        clear HO HRS HGR HBL hlt hk
        obtain ⟨k, hk, rfl, HO, HRS, HBL⟩ := hrel
        by_cases hlt : k < l.length
        · obtain ⟨b, off, rfl, hb, x0, x1, x2, x3, x4, x5, x6⟩ := (HR.out.next HBL.out).tr hlt
          have hto := HOK.out _ (List.getElem_mem hlt)
          have HT := Lib.hid (List.take_succ_eq_append_getElem hlt)
          have k0 : (0 : Int) ≤ (k : Int) := by omega
          have k1 : (k : Int) < (l.length : Int) := by omega
          have htb := trip_bd HG.out.ok.h0 HG.out.ok.h1 hto
          have hsl : ∀ f, (∀ t ∈ l, -21000 ≤ f t ∧ f t ≤ 21000) → -8400000 ≤ sumT f (l.take k) ∧ sumT f (l.take k) ≤ 8400000 := fun f hf => by
            have := sumT_bd (l := l.take k) fun t ht => hf t (List.mem_of_mem_take ht)
            have h2 : (l.take k).length ≤ 400 := by rw [List.length_take]; omega
            omega
          have hs1 := hsl (tripLo e0 e1) fun t ht => (trip_bd HG.out.ok.h0 HG.out.ok.h1 (HOK.out t ht)).1
          have hs2 := hsl (tripHi e0 e1) fun t ht => (trip_bd HG.out.ok.h0 HG.out.ok.h1 (HOK.out t ht)).2
          have HS1 := Lib.hid (And.intro hs1 hs2)
          have HSN : Hid (∀ f, sumT f (l.take (k + 1)) = sumT f (l.take k) + f l[k]) := Lib.hid (fun f => by rw [HT.out, sumT_snoc])
          clear hsl hs1 hs2 HT
          generalize l[k] = t at *
          obtain ⟨tib, tim, tir, tob, tom, tor, tmud⟩ := t
          obtain ⟨⟨him, hom, hib, hob⟩, hir, hor, hmud⟩ := hto
          simp only at x0 x1 x2 x3 x4 x5 x6 him hom hib hob hir hor hmud
          obtain ⟨ib, rfl⟩ : ∃ ib : Nat, tib = (ib : Nat) := ⟨tib.toNat, by omega⟩
          obtain ⟨ob, rfl⟩ : ∃ ob : Nat, tob = (ob : Nat) := ⟨tob.toNat, by omega⟩
          have hGr := HG.out.below HBL.out
          have hb0 := HG.out.ok.h0
          have hb1 := HG.out.ok.h1
          have herr : ∀ j : Nat, (j : Int) = 0 ∨ (j : Int) = 1 → wr.cell? ⟨g, j, none⟩ = some (.int .i64 (if ((j : Nat) : Int) = 0 then e0 else e1)) := fun j hj => by
            match j, hj with
            | 0, _ => exact hGr.bk.c0
            | 1, _ => exact hGr.bk.c1
            | j + 2, hj => exact absurd hj (by omega)
          have ei := herr ib hib
          have eo := herr ob hob
          obtain ⟨vi, HVI⟩ : ∃ v, Hid ((if ((ib : Nat) : Int) = 0 then e0 else e1) = v) := ⟨_, Lib.hid rfl⟩
          obtain ⟨vo, HVO⟩ : ∃ v, Hid ((if ((ob : Nat) : Int) = 0 then e0 else e1) = v) := ⟨_, Lib.hid rfl⟩
          have hvi : 0 ≤ vi ∧ vi ≤ 50 := by rw [← HVI.out]; split <;> omega
          have hvo : 0 ≤ vo ∧ vo ≤ 50 := by rw [← HVO.out]; split <;> omega
          have HTL : Hid (tripLo e0 e1 ⟨(ib : Nat), tim, tir, (ob : Nat), tom, tor, tmud⟩ = tir - tor - (vi + vo) - tmud ∧ tripHi e0 e1 ⟨(ib : Nat), tim, tir, (ob : Nat), tom, tor, tmud⟩ = tir - tor + (vi + vo)) := Lib.hid (by
            unfold tripLo tripHi
            simp only
            rw [HVI.out, HVO.out]
            exact ⟨rfl, rfl⟩)
          rw [HVI.out] at ei
          rw [HVO.out] at eo
          have hgl := hGr.bk.lt
          have hba := below_new wr (.cells #[.int .i64 (ib : Nat), .int .i64 tim, .int .i64 tir, .int .i64 (ob : Nat), .int .i64 tom, .int .i64 tor, .int .i64 tmud] 120)
          have hP := Blk.new wr [.int .i64 (ib : Nat), .int .i64 tim, .int .i64 tir, .int .i64 (ob : Nat), .int .i64 tom, .int .i64 tor, .int .i64 tmud] 120
          change Blk (wr.alloc (.cells #[.int .i64 (ib : Nat), .int .i64 tim, .int .i64 tir, .int .i64 (ob : Nat), .int .i64 tom, .int .i64 tor, .int .i64 tmud] 120)) _ _ at hP
          have HO4 := Lib.hid (HO.out.below hba)
          have HRS4 := Lib.hid (HRS.out.below hba)
          have HBL4 := Lib.hid (HBL.out.trans (hba.mono HBL.out.size))
          have ei := hba.at_ hgl ei
          have eo := hba.at_ hgl eo
          have hgl := Nat.lt_of_lt_of_le hgl hba.size
          clear hGr herr hba
          go_wp2_with fail
          obtain ⟨W4, hW4⟩ : ∃ W4, wr.alloc (.cells #[.int .i64 (ib : Nat), .int .i64 tim, .int .i64 tir, .int .i64 (ob : Nat), .int .i64 tom, .int .i64 tor, .int .i64 tmud] 120) = W4 := ⟨_, rfl⟩
          obtain ⟨tp, htp⟩ : ∃ tp, wr.heap.size = tp := ⟨_, rfl⟩
          rw [hW4, htp] at hP
          rw [hW4] at HO4 HRS4 HBL4 ei eo hgl
          rw [hW4, htp]
          have z0 := hP.cells 0 _ rfl
          have z2 := hP.cells 2 _ rfl
          have z3 := hP.cells 3 _ rfl
          have z5 := hP.cells 5 _ rfl
          have z6 := hP.cells 6 _ rfl
          have lp := hP.lt
          have o0 := HO4.out.cells 0 _ rfl
          have o1 := HO4.out.cells 1 _ rfl
          have f0 := HO4.out.free 0
          have f1 := HO4.out.free 1
          have lo := HO4.out.lt
          have i0 : (0 : Int) ≤ (ib : Int) := by omega
          have i1 : (ib : Int) < 2 := by omega
          have j0 : (0 : Int) ≤ (ob : Int) := by omega
          have j1 : (ob : Int) < 2 := by omega
          have wa : IntKind.i64.wrap (tir - tor) = tir - tor := IntWalk.i64_in _ (by omega)
          have wb : IntKind.i64.wrap (vi + vo) = vi + vo := IntWalk.i64_in _ (by omega)
          clear hW4 htp hP x0 x1 x2 x3 x4 x5 x6
          go_quiet (fail)
          go_wp2_with fail
          go_roundw
          case rel =>
            have hxy := HXY.out
            have hs := HS1.out
            have hsl := HSN.out (tripLo e0 e1)
            have hsh := HSN.out (tripHi e0 e1)
            rw [HTL.out.1] at hsl
            rw [HTL.out.2] at hsh
            generalize sumT (tripLo e0 e1) (l.take k) = S1 at *
            generalize sumT (tripHi e0 e1) (l.take k) = S2 at *
            have w1 : wrap64 (x + S1 + (tir - tor)) = x + S1 + (tir - tor) := IntWalk.wrap64_in _ (by omega)
            have w2 : wrap64 (x + S1 + (tir - tor) - (vi + vo)) = x + S1 + (tir - tor) - (vi + vo) := IntWalk.wrap64_in _ (by omega)
            have w3 : wrap64 (x + S1 + (tir - tor) - (vi + vo) - tmud) = x + sumT (tripLo e0 e1) (l.take (k + 1)) := by rw [hsl, IntWalk.wrap64_in _ (by omega)]; omega
            have w4 : wrap64 (y + S2 + (tir - tor)) = y + S2 + (tir - tor) := IntWalk.wrap64_in _ (by omega)
            have w5 : wrap64 (y + S2 + (tir - tor) + (vi + vo)) = y + sumT (tripHi e0 e1) (l.take (k + 1)) := by rw [hsh, IntWalk.wrap64_in _ (by omega)]; omega
            rw [w1, w2, w3, w4, w5]
            refine ⟨k + 1, hlt, by go_num, Lib.hid (((HO4.out.drewN nq).set (j := 0) (by simp) _).set (j := 1) (by simp) _), Lib.hid ((HRS4.out.drewN nq).block (by simp [World.setCell]) ((heap_far (by omega)).trans (heap_far (by omega)))), Lib.hid (((below_drewN HBL4.out nq).setCell (p := ⟨W.heap.size + 1, 0, none⟩) (by simp) _).setCell (p := ⟨W.heap.size + 1, 1, none⟩) (by simp) _)⟩
          case measure => simp [intOf]; omega
        · have HTK : Hid (l.take k = l) := Lib.hid (List.take_of_length_le (by omega))
          rw [HTK.out] at HO
          have o0 := HO.out.cells 0 _ rfl
          have o1 := HO.out.cells 1 _ rfl
          have r0 := HRS.out.cells 0 _ rfl
          have r1 := HRS.out.cells 1 _ rfl
          have f0 := HRS.out.free 0
          have f1 := HRS.out.free 1
          have lr := HRS.out.lt
          have lo := HO.out.lt
          obtain ⟨X, HX⟩ : ∃ X, Hid (x + sumT (tripLo e0 e1) l = X) := ⟨_, Lib.hid rfl⟩
          obtain ⟨Y, HY⟩ : ∃ Y, Hid (y + sumT (tripHi e0 e1) l = Y) := ⟨_, Lib.hid rfl⟩
          rw [HX.out] at o0 HN
          rw [HY.out] at o1 HN
          go_wp2_with fail
          obtain ⟨q0, q1⟩ := two_set (u := .int .i64 X) (v := .int .i64 Y) r0 r1
          exact bodyPost_ret (v := .tuple #[.agg #[.int .i64 X, .int .i64 Y], .bool true]) (by simp [results, Tryz.results112, go_sem, q0, q1]) rfl ⟨by rw [HN.out]; rfl, (HBL.out.setCell (p := ⟨W.heap.size, 0, none⟩) (Nat.le_refl _) _).setCell (p := ⟨W.heap.size, 1, none⟩) (Nat.le_refl _) _⟩
end Go.Proofs.YtcdjoegihmfanaaGreat
namespace Go.Proofs.YtcdjoegihmfanaaGreat
open Go.RowKit
set_option linter.unusedVariables false
def ftCode (e0 e1 : Int) (ps : List Pr) (ch : Int) : Int := if inB ch 0 4 = false then 4 else if (netS e0 e1 ps [] ch.toNat).isSome then 0 else 7
theorem trOk2_of {e0 e1 : Int} {ps : List Pr} {ts : List Tr} (h : BkOk e0 e1 ps ts) : ∀ t ∈ ts, trOk2 t := fun t ht => by
  obtain ⟨a, b, c, d, e, f, g, _⟩ := h.tr t ht
  exact ⟨⟨a, c, f, g⟩, b, d, e⟩
set_option maxHeartbeats 1000000 in
theorem fitting_any (g : Nat) (e0 e1 : Int) (PA : Option Addr) (c : Nat) (ps : List Pr) (TA : Option Addr) (d : Nat) (ts : List Tr) (ch : Int) (W : World) (hG : Gd W g e0 e1 PA c ps TA d ts) :
    Calls Tryz.prog 159 #[.pointer (some ⟨g, 0, none⟩), .int .i64 ch] W fun e w' => ((ftCode e0 e1 ps ch = 0 ∧ e = .returned (.tuple #[.pointer (some ⟨g, 0, none⟩), .int .i64 0])) ∨ (ftCode e0 e1 ps ch ≠ 0 ∧ e = .returned (.tuple #[.pointer none, .int .i64 (ftCode e0 e1 ps ch)]))) ∧ Below W.heap.size W w' := by
  have HG := Lib.hid hG
  clear hG
  go_enter Tryz.func159, Tryz.ntmps159
  go_wp2_with fail
  refine (in_any _ _ _ _).mono ?_
  rintro e w1 ⟨rfl, rfl⟩
  cases h1 : inB ch 0 4
  · have H1 : Hid (ftCode e0 e1 ps ch = 4) := Lib.hid (if_pos h1)
    clear h1
    go_wp2_with fail
    go_ret2
    exact ⟨.inr ⟨by rw [H1.out]; decide, by rw [H1.out]; rfl⟩, Below.refl _ _⟩
  · have hin := inB_iff.1 h1
    obtain ⟨q, rfl⟩ : ∃ q : Nat, ch = (q : Nat) := ⟨ch.toNat, by omega⟩
    have H1 : Hid (ftCode e0 e1 ps (q : Nat) = if (netS e0 e1 ps [] q).isSome then 0 else 7) := Lib.hid (by unfold ftCode; rw [h1, if_neg (by simp), Int.toNat_natCast])
    have hn := nets_any g e0 e1 PA c ps TA d ts none 0 [] q W HG.out (fun h => absurd rfl h) (by simp) (by simp) (by omega)
    unfold netE at hn
    obtain ⟨r, HRR⟩ : ∃ r, Hid (netS e0 e1 ps [] q = r) := ⟨_, Lib.hid rfl⟩
    rw [HRR.out] at hn H1
    have HN := Lib.hid hn
    clear h1 hin hn
    go_wp2_with fail
    refine HN.out.mono ?_
    rintro e w2 ⟨rfl, hb2⟩
    cases r with
    | none =>
      go_wp2_with fail
      go_ret2
      exact ⟨.inr ⟨by rw [H1.out]; decide, by rw [H1.out]; rfl⟩, hb2.alloc hb2.size _⟩
    | some p =>
      go_wp2_with fail
      go_ret2
      exact ⟨.inl ⟨by rw [H1.out]; rfl, rfl⟩, hb2.alloc hb2.size _⟩
/-- A desk at work in a right book, or an error. -/
def DeskB (code : Int) (e0 e1 : Int) (A : Option Addr) (c : Nat) (ps : List Pr) (TA : Option Addr) (d : Nat) (ts : List Tr) (W : World) (e : Ending) (w' : World) : Prop :=
  (code = 0 ∧ ∃ g, e = .returned (.tuple #[.pointer (some ⟨g, 0, none⟩), .int .i64 0]) ∧ W.heap.size ≤ g ∧ Gd w' g e0 e1 A c ps TA d ts ∧ Below W.heap.size W w') ∨
  (code ≠ 0 ∧ e = .returned (.tuple #[.pointer none, .int .i64 code]) ∧ Below W.heap.size W w')
def whCode (e0 e1 : Int) (ps : List Pr) (ts : List Tr) (ch : Int) : Int := if ckBook e0 e1 ps ts ≠ 0 then ckBook e0 e1 ps ts else ftCode e0 e1 ps ch
def trCode (e0 e1 : Int) (ps : List Pr) (ts : List Tr) (i ch : Int) : Int := if ckBook e0 e1 ps ts ≠ 0 then ckBook e0 e1 ps ts else if inB i 0 ((ts.length : Int) - 1) = false then 2 else ftCode e0 e1 ps ch
set_option maxHeartbeats 1000000 in
theorem whole_any (e0 e1 : Int) (A B : Option Addr) (c d : Nat) (ps : List Pr) (ts : List Tr) (ch : Int) (w : World) (hA : BA w A B c d ps ts) :
    Calls Tryz.prog 143 #[bkV e0 e1 (.slice A ps.length c) (.slice B ts.length d), .int .i64 ch] w (DeskB (whCode e0 e1 ps ts ch) e0 e1 A c ps B d ts w) := by
  have HC := fun w1 (hb : Below w.heap.size w w1) => Lib.hid (opened_any e0 e1 A B c d ps ts w1 (hA.next hb))
  have HA := Lib.hid hA
  clear hA
  unfold bkV at HC ⊢
  go_enter Tryz.func143, Tryz.ntmps143
  go_wp2_with fail
  have b0 := below_new w (.cells #[.int .i64 e0, .int .i64 e1, .slice A ps.length c, .slice B ts.length d] 26)
  refine (HC _ b0).out.mono ?_
  rintro e w1 (⟨h0, g, rfl, hg, hk, hb1⟩ | ⟨h0, rfl, hb1⟩)
  · have hbw := b0.trans (hb1.mono b0.size)
    have hG := Gd.mk' (HA.out.next hbw) hk (ckBook_ok h0)
    have H0 : Hid (whCode e0 e1 ps ts ch = ftCode e0 e1 ps ch) := Lib.hid (if_neg (by rw [h0]; simp))
    have HF := Lib.hid (fitting_any g e0 e1 A c ps B d ts ch w1 hG)
    have HG := Lib.hid hG
    have hgw : w.heap.size ≤ g := Nat.le_trans b0.size hg
    clear HC h0 hk hb1 hG b0 hg
    go_wp2_with fail
    refine HF.out.mono ?_
    rintro e w2 ⟨(⟨h1, rfl⟩ | ⟨h1, rfl⟩), hb2⟩
    · have H1 := Lib.hid h1
      clear h1
      go_wp2_with fail
      go_ret2
      exact .inl ⟨by rw [H0.out]; exact H1.out, g, rfl, hgw, HG.out.below hb2, hbw.trans (hb2.mono hbw.size)⟩
    · have H1 := Lib.hid h1
      clear h1
      go_wp2_with fail
      go_ret2
      exact .inr ⟨by rw [H0.out]; exact H1.out, by rw [H0.out]; rfl, hbw.trans (hb2.mono hbw.size)⟩
  · have hbw := b0.trans (hb1.mono b0.size)
    have H0 : Hid (whCode e0 e1 ps ts ch = ckBook e0 e1 ps ts) := Lib.hid (if_pos h0)
    have h0' : (ckBook e0 e1 ps ts == 0) = false := by simpa using h0
    have h0'' : (ckBook e0 e1 ps ts != 0) = true := by simpa using h0
    have H2 := Lib.hid h0
    clear HC h0 hb1 b0
    go_wp2_with fail
    go_ret2
    exact .inr ⟨by rw [H0.out]; exact H2.out, by rw [H0.out]; rfl, hbw⟩
set_option maxHeartbeats 1000000 in
theorem trip_any (e0 e1 : Int) (A B : Option Addr) (c d : Nat) (ps : List Pr) (ts : List Tr) (i ch : Int) (w : World) (hA : BA w A B c d ps ts) :
    Calls Tryz.prog 111 #[bkV e0 e1 (.slice A ps.length c) (.slice B ts.length d), .int .i64 i, .int .i64 ch] w (DeskB (trCode e0 e1 ps ts i ch) e0 e1 A c ps B d ts w) := by
  have HC := fun w1 (hb : Below w.heap.size w w1) => Lib.hid (opened_any e0 e1 A B c d ps ts w1 (hA.next hb))
  have HA := Lib.hid hA
  have hln : ts.length ≤ 1000 := hA.lb
  have hw1 : wrap64 ((ts.length : Int) - 1) = (ts.length : Int) - 1 := IntWalk.wrap64_in _ (by omega)
  clear hA
  unfold bkV at HC ⊢
  go_enter Tryz.func111, Tryz.ntmps111
  go_wp2_with fail
  have b0 := below_new w (.cells #[.int .i64 e0, .int .i64 e1, .slice A ps.length c, .slice B ts.length d] 26)
  have B0 := Blk.new w [.int .i64 e0, .int .i64 e1, .slice A ps.length c, .slice B ts.length d] 26
  change Blk (w.alloc (.cells #[.int .i64 e0, .int .i64 e1, .slice A ps.length c, .slice B ts.length d] 26)) _ _ at B0
  generalize w.alloc (.cells #[.int .i64 e0, .int .i64 e1, .slice A ps.length c, .slice B ts.length d] 26) = W0 at *
  refine (HC _ b0).out.mono ?_
  rintro e w1 (⟨h0, g, rfl, hg, hk, hb1⟩ | ⟨h0, rfl, hb1⟩)
  · have hbw := b0.trans (hb1.mono b0.size)
    have hG := Gd.mk' (HA.out.next hbw) hk (ckBook_ok h0)
    have H0 : Hid (trCode e0 e1 ps ts i ch = if inB i 0 ((ts.length : Int) - 1) = false then 2 else ftCode e0 e1 ps ch) := Lib.hid (if_neg (by rw [h0]; simp))
    have HF := Lib.hid (fitting_any g e0 e1 A c ps B d ts ch w1 hG)
    have HG := Lib.hid hG
    have hgw : w.heap.size ≤ g := Nat.le_trans b0.size hg
    have B1 := B0.below hb1
    have q3 := B1.cells 3 _ rfl
    have lq := B1.lt
    clear HC h0 hk hb1 hG b0 hg B0 B1
    go_wp2_with fail
    refine (in_any _ _ _ _).mono ?_
    rintro e w3 ⟨rfl, rfl⟩
    cases h1 : inB i 0 ((ts.length : Int) - 1)
    · have H1 : Hid (trCode e0 e1 ps ts i ch = 2) := Lib.hid (by rw [H0.out, if_pos h1])
      clear h1
      go_wp2_with fail
      go_ret2
      exact .inr ⟨by rw [H1.out]; decide, by rw [H1.out]; rfl, hbw⟩
    · have H1 : Hid (trCode e0 e1 ps ts i ch = ftCode e0 e1 ps ch) := Lib.hid (by rw [H0.out, h1, if_neg (by simp)])
      clear h1
      go_wp2_with fail
      refine HF.out.mono ?_
      rintro e w2 ⟨(⟨h1, rfl⟩ | ⟨h1, rfl⟩), hb2⟩
      · have H2 := Lib.hid h1
        clear h1
        go_wp2_with fail
        go_ret2
        exact .inl ⟨by rw [H1.out]; exact H2.out, g, rfl, hgw, HG.out.below hb2, hbw.trans (hb2.mono hbw.size)⟩
      · have H2 := Lib.hid h1
        clear h1
        go_wp2_with fail
        go_ret2
        exact .inr ⟨by rw [H1.out]; exact H2.out, by rw [H1.out]; rfl, hbw.trans (hb2.mono hbw.size)⟩
  · have hbw := b0.trans (hb1.mono b0.size)
    have H0 : Hid (trCode e0 e1 ps ts i ch = ckBook e0 e1 ps ts) := Lib.hid (if_pos h0)
    have h0' : (ckBook e0 e1 ps ts == 0) = false := by simpa using h0
    have h0'' : (ckBook e0 e1 ps ts != 0) = true := by simpa using h0
    have H2 := Lib.hid h0
    clear HC h0 hb1 b0 B0
    go_wp2_with fail
    go_ret2
    exact .inr ⟨by rw [H0.out]; exact H2.out, by rw [H0.out]; rfl, hbw⟩
end Go.Proofs.YtcdjoegihmfanaaGreat
namespace Go.Proofs.YtcdjoegihmfanaaGreat
open Go.RowKit
set_option linter.unusedVariables false
theorem Rd.trSub {w : World} {B b off : Nat} {t : List Tr} {k : Nat} (h : Rd w B (some ⟨b, off, none⟩) (trs t)) (hk : k < t.length) : Rd w B (some ⟨b, off + k * 7, none⟩) (trs [t[k]]) := fun _ => by
  have hn : trs t ≠ [] := fun e => by
    have := congrArg List.length e
    unfold trs at this
    rw [rowsOf_length (f := trF) (k := 7) (fun _ => rfl)] at this
    simp at this; omega
  obtain ⟨b', off', e, hb, hc⟩ := h hn
  injection e with e; injection e with e1 e2; subst e1 e2
  refine ⟨b, _, rfl, hb, fun j u hu => ?_⟩
  have hj : j < 7 := by have := (List.getElem?_eq_some_iff.1 hu).1; simpa [trs, rowsOf, trF, ints] using this
  have h7 : ∀ x, (trF x).length = 7 := fun _ => rfl
  have := Rd.row h7 h hk hj
  rw [Nat.add_assoc, this]
  rw [← hu]
  match j, hj with
  | 0, _ => rfl
  | 1, _ => rfl
  | 2, _ => rfl
  | 3, _ => rfl
  | 4, _ => rfl
  | 5, _ => rfl
  | 6, _ => rfl
theorem le_self_one (k : Int) : k ≤ k + 1 := by omega
theorem nat_le1 {k n d : Nat} (h : k < n) (h2 : n ≤ d) : (k : Int) + 1 ≤ (d : Int) := by omega
theorem wrap_k1 {k n : Nat} (h : k < n) (h2 : n ≤ 4) : wrap64 ((k : Int) + 1) = (k : Int) + 1 := IntWalk.wrap64_in _ (by omega)
/-- The trip with an index, alone. -/
def tripAt (ts : List Tr) (i : Int) : List Tr := (ts[i.toNat]?).toList
def netR (e0 e1 : Int) (ps : List Pr) (ts : List Tr) (i ch : Int) : Int × Int := if trCode e0 e1 ps ts i ch = 0 then (netS e0 e1 ps (tripAt ts i) ch.toNat).getD (0, 0) else (0, 0)
def totR (e0 e1 : Int) (ps : List Pr) (ts : List Tr) (ch : Int) : Int × Int := if whCode e0 e1 ps ts ch = 0 then (netS e0 e1 ps ts ch.toNat).getD (0, 0) else (0, 0)
theorem ft_in {e0 e1 : Int} {ps : List Pr} {ch : Int} (h : ftCode e0 e1 ps ch = 0) : 0 ≤ ch ∧ ch ≤ 4 := by
  unfold ftCode at h
  by_cases h1 : inB ch 0 4 = false
  · rw [if_pos h1] at h; omega
  · have := inB_iff.1 (by simpa using h1); omega
theorem wh_in {e0 e1 : Int} {ps : List Pr} {ts : List Tr} {ch : Int} (h : whCode e0 e1 ps ts ch = 0) : 0 ≤ ch ∧ ch ≤ 4 := by
  unfold whCode at h
  split at h
  · omega
  · exact ft_in h
theorem tr_in {e0 e1 : Int} {ps : List Pr} {ts : List Tr} {i ch : Int} (h : trCode e0 e1 ps ts i ch = 0) : (0 ≤ ch ∧ ch ≤ 4) ∧ 0 ≤ i ∧ i < ts.length := by
  unfold trCode at h
  split at h
  · omega
  · by_cases h1 : inB i 0 ((ts.length : Int) - 1) = false
    · rw [if_pos h1] at h; omega
    · rw [if_neg h1] at h
      have := inB_iff.1 (by simpa using h1)
      exact ⟨ft_in h, by omega⟩
set_option maxHeartbeats 1000000 in
theorem Total_any (e0 e1 : Int) (A B : Option Addr) (c d : Nat) (ps : List Pr) (ts : List Tr) (ch : Int) (w : World) (hA : BA w A B c d ps ts) :
    Calls Tryz.prog 72 #[bkV e0 e1 (.slice A ps.length c) (.slice B ts.length d), .int .i64 ch] w fun e w' => e = spE (totR e0 e1 ps ts ch) (whCode e0 e1 ps ts ch) ∧ Below w.heap.size w w' := by
  have HC := fun w1 (hb : Below w.heap.size w w1) => Lib.hid (whole_any e0 e1 A B c d ps ts ch w1 (hA.next hb))
  have HA := Lib.hid hA
  clear hA
  unfold bkV at HC ⊢
  go_enter Tryz.func72, Tryz.ntmps72
  go_wp2_with fail
  have b0 := below_new w (.cells #[.int .i64 e0, .int .i64 e1, .slice A ps.length c, .slice B ts.length d] 26)
  have B0 := Blk.new w [.int .i64 e0, .int .i64 e1, .slice A ps.length c, .slice B ts.length d] 26
  change Blk (w.alloc (.cells #[.int .i64 e0, .int .i64 e1, .slice A ps.length c, .slice B ts.length d] 26)) _ _ at B0
  have hz0 : (w.alloc (.cells #[.int .i64 e0, .int .i64 e1, .slice A ps.length c, .slice B ts.length d] 26)).heap.size = w.heap.size + 1 := by simp
  generalize w.alloc (.cells #[.int .i64 e0, .int .i64 e1, .slice A ps.length c, .slice B ts.length d] 26) = W0 at *
  have b1 := below_new W0 (.cells #[.int .i64 0, .int .i64 0] 36)
  have B1 := Blk.new W0 [.int .i64 0, .int .i64 0] 36
  change Blk (W0.alloc (.cells #[.int .i64 0, .int .i64 0] 36)) _ _ at B1
  have B0 := B0.below b1
  have hbw := b0.trans (b1.mono b0.size)
  rw [hz0] at B1
  clear b0 b1 hz0
  generalize W0.alloc (.cells #[.int .i64 0, .int .i64 0] 36) = W1 at *
  refine (HC W1 hbw).out.mono ?_
  rintro e w1 (⟨h0, g, rfl, hg, hG, hb1⟩ | ⟨h0, rfl, hb1⟩)
  · have hbw := hbw.trans (hb1.mono hbw.size)
    have B1 := B1.below hb1
    have B0 := B0.below hb1
    have q3 := B0.cells 3 _ rfl
    have lq := B0.lt
    have H0 := Lib.hid h0
    have HG := Lib.hid hG
    obtain ⟨hc0, hc4⟩ := wh_in h0
    obtain ⟨q, rfl⟩ : ∃ q : Nat, ch = (q : Nat) := ⟨ch.toNat, by omega⟩
    have hn := nets_any g e0 e1 A c ps B d ts B d ts q w1 hG hG.rt (by have := hG.ok.lt; omega) (trOk2_of hG.ok) (by omega)
    clear hc0 hc4
    obtain ⟨r, HRR⟩ : ∃ r, Hid (netS e0 e1 ps ts q = r) := ⟨_, Lib.hid rfl⟩
    have HE : Hid (totR e0 e1 ps ts (q : Nat) = r.getD (0, 0)) := Lib.hid (by unfold totR; rw [if_pos H0.out, Int.toNat_natCast]; rw [HRR.out])
    unfold netE at hn
    rw [HRR.out] at hn
    have HN := Lib.hid hn
    have HB1 := Lib.hid B1
    clear HC h0 hb1 hG hn B0 B1 hg
    go_wp2_with fail
    refine HN.out.mono ?_
    rintro e w3 ⟨rfl, hb3⟩
    have B3 := HB1.out.below hb3
    have hbw := hbw.trans (hb3.mono hbw.size)
    have c0 := B3.cells 0 _ rfl
    have c1 := B3.cells 1 _ rfl
    have f0 := B3.free 0
    have f1 := B3.free 1
    have lt := B3.lt
    clear HN HB1 B3 hb3 q3 lq
    generalize r.getD (0, 0) = R at HE
    obtain ⟨x0, x1⟩ := R
    go_wp2_with fail
    obtain ⟨r0, r1⟩ := two_set (u := .int .i64 x0) (v := .int .i64 x1) c0 c1
    have hbz := (hbw.setCell (p := ⟨w.heap.size + 1, 0, none⟩) (by simp) (.int .i64 x0)).setCell (p := ⟨w.heap.size + 1, 1, none⟩) (by simp) (.int .i64 x1)
    have hlz : w.heap.size + 1 < ((w3.setCell ⟨w.heap.size + 1, 0, none⟩ (.int .i64 x0)).setCell ⟨w.heap.size + 1, 1, none⟩ (.int .i64 x1)).heap.size := by simpa [World.setCell] using lt
    generalize (w3.setCell _ _).setCell _ _ = Z at r0 r1 hbz hlz ⊢
    have hba := below_new Z (.cells #[.int .i64 x0, .int .i64 x1] 36)
    have q0 := hba.at_ hlz r0
    have q1 := hba.at_ hlz r1
    have hbq := hbz.trans (hba.mono hbz.size)
    generalize Z.alloc _ = Y at q0 q1 hbq ⊢
    exact bodyPost_ret (v := .tuple #[.agg #[.int .i64 x0, .int .i64 x1], .int .i64 0]) (by simp [results, Tryz.results72, go_sem, q0, q1]) rfl ⟨spE_eq (s := (x0, x1)) HE.out.symm H0.out.symm, hbq⟩
  · have B1 := B1.below hb1
    have hbw := hbw.trans (hb1.mono hbw.size)
    have c0 := B1.cells 0 _ rfl
    have c1 := B1.cells 1 _ rfl
    have f0 := B1.free 0
    have f1 := B1.free 1
    have lt := B1.lt
    have H0 := Lib.hid h0
    have h0' : (whCode e0 e1 ps ts ch == 0) = false := by simpa using h0
    have h0'' : (whCode e0 e1 ps ts ch != 0) = true := by simpa using h0
    clear HC h0 hb1 B0 B1
    go_wp2_with fail
    obtain ⟨r0, r1⟩ := two_set (u := .int .i64 0) (v := .int .i64 0) c0 c1
    refine bodyPost_ret (v := .tuple #[.agg #[.int .i64 0, .int .i64 0], .int .i64 (whCode e0 e1 ps ts ch)]) (by simp [results, Tryz.results72, go_sem, r0, r1]) rfl ⟨spE_eq (s := (0, 0)) (by unfold totR; rw [if_neg H0.out]) rfl, (hbw.setCell (p := ⟨w.heap.size + 1, 0, none⟩) (by simp) _).setCell (p := ⟨w.heap.size + 1, 1, none⟩) (by simp) _⟩
set_option maxHeartbeats 1000000 in
theorem Net_any (e0 e1 : Int) (A B : Option Addr) (c d : Nat) (ps : List Pr) (ts : List Tr) (i ch : Int) (w : World) (hA : BA w A B c d ps ts) :
    Calls Tryz.prog 37 #[bkV e0 e1 (.slice A ps.length c) (.slice B ts.length d), .int .i64 i, .int .i64 ch] w fun e w' => e = spE (netR e0 e1 ps ts i ch) (trCode e0 e1 ps ts i ch) ∧ Below w.heap.size w w' := by
  have HC := fun w1 (hb : Below w.heap.size w w1) => Lib.hid (trip_any e0 e1 A B c d ps ts i ch w1 (hA.next hb))
  have HA := Lib.hid hA
  clear hA
  unfold bkV at HC ⊢
  go_enter Tryz.func37, Tryz.ntmps37
  go_wp2_with fail
  have b0 := below_new w (.cells #[.int .i64 e0, .int .i64 e1, .slice A ps.length c, .slice B ts.length d] 26)
  have B0 := Blk.new w [.int .i64 e0, .int .i64 e1, .slice A ps.length c, .slice B ts.length d] 26
  change Blk (w.alloc (.cells #[.int .i64 e0, .int .i64 e1, .slice A ps.length c, .slice B ts.length d] 26)) _ _ at B0
  have hz0 : (w.alloc (.cells #[.int .i64 e0, .int .i64 e1, .slice A ps.length c, .slice B ts.length d] 26)).heap.size = w.heap.size + 1 := by simp
  generalize w.alloc (.cells #[.int .i64 e0, .int .i64 e1, .slice A ps.length c, .slice B ts.length d] 26) = W0 at *
  have b1 := below_new W0 (.cells #[.int .i64 0, .int .i64 0] 36)
  have B1 := Blk.new W0 [.int .i64 0, .int .i64 0] 36
  change Blk (W0.alloc (.cells #[.int .i64 0, .int .i64 0] 36)) _ _ at B1
  have B0 := B0.below b1
  have hbw := b0.trans (b1.mono b0.size)
  rw [hz0] at B1
  clear b0 b1 hz0
  generalize W0.alloc (.cells #[.int .i64 0, .int .i64 0] 36) = W1 at *
  refine (HC W1 hbw).out.mono ?_
  rintro e w1 (⟨h0, g, rfl, hg, hG, hb1⟩ | ⟨h0, rfl, hb1⟩)
  · have hbw := hbw.trans (hb1.mono hbw.size)
    have B1 := B1.below hb1
    have B0 := B0.below hb1
    have q3 := B0.cells 3 _ rfl
    have lq := B0.lt
    have H0 := Lib.hid h0
    have HG := Lib.hid hG
    obtain ⟨⟨hc0, hc4⟩, hi0, hi1⟩ := tr_in h0
    obtain ⟨q, rfl⟩ : ∃ q : Nat, ch = (q : Nat) := ⟨ch.toNat, by omega⟩
    obtain ⟨k, rfl⟩ : ∃ k : Nat, i = (k : Nat) := ⟨i.toNat, by omega⟩
    have hk : k < ts.length := by omega
    obtain ⟨tb, toff, rfl, _⟩ := hG.rt.tr hk
    have hta : tripAt ts (k : Nat) = [ts[k]] := by unfold tripAt; rw [Int.toNat_natCast, List.getElem?_eq_getElem hk]; rfl
    have hn := nets_any g e0 e1 A c ps _ d ts (some ⟨tb, toff + k * 7, none⟩) (d - k) [ts[k]] q w1 hG (hG.rt.trSub hk) (by simp) (fun t ht => by simp at ht; subst ht; exact trOk2_of hG.ok _ (List.getElem_mem hk)) (by omega)
    have HTA := Lib.hid hta
    have hcd := hG.ct
    have hwk : wrap64 ((k : Int) + 1) = (k : Int) + 1 := wrap_k1 hk hG.ok.lt
    have k0 : (0 : Int) ≤ (k : Int) := Int.natCast_nonneg k
    have k1 : (k : Int) ≤ (k : Int) + 1 := le_self_one _
    have k2 : (k : Int) + 1 ≤ (d : Int) := nat_le1 hk hcd
    clear hta hi0 hi1 hc0 hc4
    obtain ⟨r, HRR⟩ : ∃ r, Hid (netS e0 e1 ps [ts[k]] q = r) := ⟨_, Lib.hid rfl⟩
    have HE : Hid (netR e0 e1 ps ts (k : Nat) (q : Nat) = r.getD (0, 0)) := Lib.hid (by unfold netR; rw [if_pos H0.out, Int.toNat_natCast]; rw [HTA.out]; rw [HRR.out])
    unfold netE at hn
    rw [HRR.out] at hn
    have HN := Lib.hid hn
    have HB1 := Lib.hid B1
    clear HC h0 hb1 hG hn B0 B1 hg
    go_wp2_with fail
    refine HN.out.mono ?_
    rintro e w3 ⟨rfl, hb3⟩
    have B3 := HB1.out.below hb3
    have hbw := hbw.trans (hb3.mono hbw.size)
    have c0 := B3.cells 0 _ rfl
    have c1 := B3.cells 1 _ rfl
    have f0 := B3.free 0
    have f1 := B3.free 1
    have lt := B3.lt
    clear HN HB1 B3 hb3 q3 lq
    generalize r.getD (0, 0) = R at HE
    obtain ⟨x0, x1⟩ := R
    go_wp2_with fail
    obtain ⟨r0, r1⟩ := two_set (u := .int .i64 x0) (v := .int .i64 x1) c0 c1
    have hbz := (hbw.setCell (p := ⟨w.heap.size + 1, 0, none⟩) (by simp) (.int .i64 x0)).setCell (p := ⟨w.heap.size + 1, 1, none⟩) (by simp) (.int .i64 x1)
    have hlz : w.heap.size + 1 < ((w3.setCell ⟨w.heap.size + 1, 0, none⟩ (.int .i64 x0)).setCell ⟨w.heap.size + 1, 1, none⟩ (.int .i64 x1)).heap.size := by simpa [World.setCell] using lt
    generalize (w3.setCell _ _).setCell _ _ = Z at r0 r1 hbz hlz ⊢
    have hba := below_new Z (.cells #[.int .i64 x0, .int .i64 x1] 36)
    have q0 := hba.at_ hlz r0
    have q1 := hba.at_ hlz r1
    have hbq := hbz.trans (hba.mono hbz.size)
    generalize Z.alloc _ = Y at q0 q1 hbq ⊢
    exact bodyPost_ret (v := .tuple #[.agg #[.int .i64 x0, .int .i64 x1], .int .i64 0]) (by simp [results, Tryz.results37, go_sem, q0, q1]) rfl ⟨spE_eq (s := (x0, x1)) HE.out.symm H0.out.symm, hbq⟩
  · have B1 := B1.below hb1
    have hbw := hbw.trans (hb1.mono hbw.size)
    have c0 := B1.cells 0 _ rfl
    have c1 := B1.cells 1 _ rfl
    have f0 := B1.free 0
    have f1 := B1.free 1
    have lt := B1.lt
    have H0 := Lib.hid h0
    have h0' : (trCode e0 e1 ps ts i ch == 0) = false := by simpa using h0
    have h0'' : (trCode e0 e1 ps ts i ch != 0) = true := by simpa using h0
    clear HC h0 hb1 B0 B1
    go_wp2_with fail
    obtain ⟨r0, r1⟩ := two_set (u := .int .i64 0) (v := .int .i64 0) c0 c1
    refine bodyPost_ret (v := .tuple #[.agg #[.int .i64 0, .int .i64 0], .int .i64 (trCode e0 e1 ps ts i ch)]) (by simp [results, Tryz.results37, go_sem, r0, r1]) rfl ⟨spE_eq (s := (0, 0)) (by unfold netR; rw [if_neg H0.out]) rfl, (hbw.setCell (p := ⟨w.heap.size + 1, 0, none⟩) (by simp) _).setCell (p := ⟨w.heap.size + 1, 1, none⟩) (by simp) _⟩
end Go.Proofs.YtcdjoegihmfanaaGreat
namespace Go.Proofs.YtcdjoegihmfanaaGreat
open Go.RowKit
set_option linter.unusedVariables false
def cmpI (x y : Int) : Int := if x < y then -1 else if y < x then 1 else 0
theorem nan_any (x : Int) (w : World) : Calls Tryz.prog 198 #[.int .i64 x] w fun e w' => e = .returned (.bool false) ∧ w' = w := by
  go_enter Tryz.func198, Tryz.ntmps198
  go_wp2_with fail
  go_ret
  exact ⟨by simp, rfl⟩
theorem cmpI_any (x y : Int) (w : World) : Calls Tryz.prog 157 #[.int .i64 x, .int .i64 y] w fun e w' => e = .returned (.int .i64 (cmpI x y)) ∧ w' = w := by
  have HL : x < y → Hid (cmpI x y = -1) := fun h => Lib.hid (if_pos h)
  have HG : y < x → Hid (cmpI x y = 1) := fun h => Lib.hid (by unfold cmpI; rw [if_neg (by omega), if_pos h])
  have HE : ¬ x < y → ¬ y < x → Hid (cmpI x y = 0) := fun h k => Lib.hid (by unfold cmpI; rw [if_neg h, if_neg k])
  go_enter Tryz.func157, Tryz.ntmps157
  go_wp2_with fail
  refine (nan_any _ _).mono ?_
  rintro e w1 ⟨rfl, rfl⟩
  go_wp2_with fail
  refine (nan_any _ _).mono ?_
  rintro e w1 ⟨rfl, rfl⟩
  by_cases h1 : x < y
  · have H := HL h1
    clear HL HG HE
    go_wp2_with fail
    go_ret
    exact ⟨ret_int H.out.symm, rfl⟩
  · by_cases h2 : y < x
    · have H := HG h2
      clear HL HG HE
      go_wp2_with fail
      go_ret
      exact ⟨ret_int H.out.symm, rfl⟩
    · have H := HE (by omega) (by omega)
      clear HL HG HE
      go_wp2_with fail
      go_ret
      exact ⟨ret_int H.out.symm, rfl⟩
theorem lex_drop {l m : List Nat} {k : Nat} (h : k < l.length) (h' : k < m.length) : lexLt (l.drop k) (m.drop k) = (decide (l[k] < m[k]) || (decide (l[k] = m[k]) && lexLt (l.drop (k + 1)) (m.drop (k + 1)))) := by
  rw [List.drop_eq_getElem_cons h, List.drop_eq_getElem_cons h', lexLt]
set_option maxHeartbeats 1000000 in
theorem compare_any (A B : Option Addr) (ca cb : Nat) (l m : List Nat) (w : World) (hl : Rd w w.heap.size A (nums l)) (hm : Rd w w.heap.size B (nums m)) (hll : l.length ≤ 1000) (hml : m.length ≤ 1000) :
    Calls Tryz.prog 101 #[.slice A l.length ca, .slice B m.length cb] w fun e w' => (∃ r : Int, e = .returned (.int .i64 r) ∧ (0 ≤ r ↔ lexLt l m = false)) ∧ w' = w := by
  have HL := Lib.hid hl
  have HM := Lib.hid hm
  clear hl hm
  go_enter Tryz.func101, Tryz.ntmps101
  go_wp2_with fail
  go_loopw [5, 6, 7, 8, 11] (fun _ _ _ _ i wr => wr = w ∧ ∃ k : Nat, k ≤ l.length ∧ k ≤ m.length ∧ i = .int .i64 (k : Nat) ∧ Hid (lexLt l m = lexLt (l.drop k) (m.drop k))) (fun _ _ _ _ i _ => l.length - (intOf i).toNat)
  case atStart => exact ⟨rfl, 0, Nat.zero_le _, Nat.zero_le _, rfl, Lib.hid rfl⟩
  case round =>
    obtain ⟨rfl, k, hk, hk2, rfl, HI⟩ := hrel
    by_cases hlt : k < l.length
    · obtain ⟨b, off, rfl, hb, x0⟩ := HL.out.nat hlt
      have k0 : (0 : Int) ≤ (k : Int) := by omega
      have k1 : (k : Int) < (l.length : Int) := by omega
      by_cases hlt2 : k < m.length
      · obtain ⟨b2, off2, rfl, hb2, y0⟩ := HM.out.nat hlt2
        have HD := Lib.hid (lex_drop hlt hlt2)
        generalize l[k] = x at *
        generalize m[k] = y at *
        have k2 : ¬ (m.length : Int) ≤ (k : Int) := by omega
        have k3 : (k : Int) < (m.length : Int) := by omega
        go_wp2_with fail
        refine (cmpI_any _ _ _).mono ?_
        rintro e w1 ⟨rfl, rfl⟩
        by_cases hx : x = y
        · have HC : cmpI (x : Int) (y : Int) = 0 := by unfold cmpI; rw [if_neg (by omega), if_neg (by omega)]
          have HI2 : Hid (lexLt l m = lexLt (l.drop (k + 1)) (m.drop (k + 1))) := Lib.hid (by rw [HI.out, HD.out, decide_eq_false (by omega), decide_eq_true hx]; simp)
          rw [HC]
          clear hx HC
          go_wp2_with fail
          go_roundw
          case rel => exact ⟨by first | rfl | trivial, k + 1, hlt, hlt2, by go_num, HI2⟩
          case measure => simp [intOf]; omega
        · have HC : (cmpI (x : Int) (y : Int) == 0) = false := by unfold cmpI; simp; split <;> simp; omega
          have HC2 : (cmpI (x : Int) (y : Int) != 0) = true := by simp [bne, HC]
          have HI2 : Hid (0 ≤ cmpI (x : Int) (y : Int) ↔ lexLt l m = false) := Lib.hid (by
            rw [HI.out, HD.out, decide_eq_false hx]
            unfold cmpI
            by_cases h : x < y
            · rw [if_pos (by omega), decide_eq_true h]; simp
            · rw [if_neg (by omega), if_pos (by omega), decide_eq_false h]; simp)
          clear hx
          go_wp2_with fail
          go_ret
          exact ⟨⟨_, rfl, HI2.out⟩, rfl⟩
      · have k2 : (m.length : Int) ≤ (k : Int) := by omega
        have HI2 : Hid (lexLt l m = false) := Lib.hid (by
          rw [HI.out, List.drop_of_length_le (by omega : m.length ≤ k), List.drop_eq_getElem_cons hlt]; rfl)
        go_wp2_with fail
        go_ret
        exact ⟨⟨_, rfl, by rw [HI2.out]; simp⟩, rfl⟩
    · by_cases h2 : l.length < m.length
      · have h3 : (l.length : Int) < (m.length : Int) := by omega
        have HI2 : Hid (lexLt l m = true) := Lib.hid (by
          rw [HI.out, List.drop_of_length_le (by omega : l.length ≤ k), List.drop_eq_getElem_cons (by omega : k < m.length)]; rfl)
        go_wp2_with fail
        go_ret
        exact ⟨⟨_, rfl, by rw [HI2.out]; simp⟩, rfl⟩
      · have h3 : ¬ (l.length : Int) < (m.length : Int) := by omega
        have HI2 : Hid (lexLt l m = false) := Lib.hid (by
          rw [HI.out, List.drop_of_length_le (by omega : l.length ≤ k), List.drop_of_length_le (by omega : m.length ≤ k)]; rfl)
        go_wp2_with fail
        go_ret
        exact ⟨⟨_, rfl, by rw [HI2.out]; simp⟩, rfl⟩
end Go.Proofs.YtcdjoegihmfanaaGreat
namespace Go.Proofs.YtcdjoegihmfanaaGreat
open Go.RowKit Go.Sort
set_option linter.unusedVariables false
/-- The indices of a bridge's proofs. -/
def ownI (ps : List Pr) (n : Int) : List Nat := (List.range ps.length).filter fun i => (pAt ps i).b == n
theorem ownI_lt {ps : List Pr} {n : Int} : (ownI ps n).Pairwise (· < ·) := List.Pairwise.filter _ List.pairwise_lt_range
theorem insI_perm (ps : List Pr) (i : Nat) : ∀ l : List Nat, (insI ps i l).Perm (i :: l)
  | [] => List.Perm.refl _
  | j :: t => by
    simp only [insI]
    split
    · exact List.Perm.refl _
    · exact ((insI_perm ps i t).cons j).trans (List.Perm.swap _ _ _)
theorem ordL_perm (ps : List Pr) (n : Int) : (ordL ps n).Perm (ownI ps n) := by
  unfold ordL ownI
  generalize (List.range ps.length).filter (fun i => (pAt ps i).b == n) = s
  induction s with
  | nil => exact List.Perm.refl _
  | cons a s ih => exact (insI_perm ps a _).trans (ih.cons a)
theorem ordI_sorted (ps : List Pr) (n : Int) : ((ordL ps n).map fun i : Nat => (i : Int)).mergeSort (fun x y => decide (x ≤ y)) = (ownI ps n).map fun i : Nat => (i : Int) := by
  have h1 : ((ordL ps n).map fun i : Nat => (i : Int)).mergeSort leI = ((ownI ps n).map fun i : Nat => (i : Int)).mergeSort leI := mergeSort_of_perm_i ((ordL_perm ps n).map _)
  have h2 : ((ownI ps n).map fun i : Nat => (i : Int)).Pairwise fun a b => leI a b = true := by
    rw [List.pairwise_map]
    exact ownI_lt.imp fun {a b} h => by simp only [leI, decide_eq_true_eq]; omega
  have h3 := List.mergeSort_of_pairwise h2
  exact h1.trans h3
theorem sortI_any (base : Nat) (ps : List Pr) (n : Int) (A : Option Addr) (c : Nat) (w : World) (hl : (ordL ps n).length ≤ 1000) (ho : w.ownsRow base 3 1 (.slice A (ordL ps n).length c) (ordL ps n).length (nums (ordL ps n))) :
    Calls Tryz.prog 100 #[.slice A (ordL ps n).length c] w fun e w' => e = .returned (.tuple #[]) ∧ Rd w' w'.heap.size A (nums (ownI ps n)) ∧ Below base w w' := by
  have hlen : (ownI ps n).length = (ordL ps n).length := (ordL_perm ps n).length_eq.symm
  rcases ho.2 with ⟨e, h0⟩ | ⟨g, cap, cur, e, hb, hg, _⟩
  · injection e with e1 e2 e3
    subst e1 e3
    have h1 : ownI ps n = [] := List.eq_nil_of_length_eq_zero (by omega)
    rw [h0]
    refine (AnyM.slices_Sort_int_none Tryz.laysSort none 0 w).mono ?_
    rintro e w' ⟨rfl, rfl⟩
    exact ⟨rfl, fun hn => absurd (by rw [h1]; rfl) hn, Below.refl _ _⟩
  · injection e with e1 e2 e3
    subst e1 e3
    have hgl : g < w.heap.size := (Array.getElem?_eq_some_iff.1 hg).1
    have hH : Holds (Value.int .i64) w g 0 ((ordL ps n).map fun i : Nat => (i : Int)).toArray := by
      intro j hj
      have hj' : j < (ordL ps n).length := by simpa using hj
      have hc := own_cells ho j (.int .i64 ((ordL ps n)[j] : Int)) (by simp [nums, ints, hj'])
      refine ⟨?_, ho.frozenAt _⟩
      rw [Nat.zero_add, hc]
      simp [hj']
    have h := AnyM.slices_Sort_int Tryz.laysSort g 0 c ((ordL ps n).map fun i : Nat => (i : Int)) w hH hgl (by simp; omega)
    rw [ordI_sorted, List.length_map] at h
    refine h.mono ?_
    rintro e w' ⟨rfl, m, os, rfl⟩
    have hK := holds_putRow (Value.int .i64) (Sort.ahead w m) g 0 _ ((ownI ps n).map fun i : Nat => (i : Int)).toArray (holds_ahead (Value.int .i64) w m g 0 _ hH) (by simp [hlen])
    have hsz : w.heap.size ≤ (grow (putRow (Value.int .i64) (Sort.ahead w m) g 0 ((ownI ps n).map fun i : Nat => (i : Int)).toArray) os).heap.size := by
      show w.heap.size ≤ (_ ++ os).size
      rw [Array.size_append]; simp [putRow, mapBlock, Sort.ahead]
    have hold : ∀ k, k < w.heap.size → (grow (putRow (Value.int .i64) (Sort.ahead w m) g 0 ((ownI ps n).map fun i : Nat => (i : Int)).toArray) os).heap[k]? = (putRow (Value.int .i64) (Sort.ahead w m) g 0 ((ownI ps n).map fun i : Nat => (i : Int)).toArray).heap[k]? := fun k hk => Sort.heap_grow_old _ _ (by simpa [putRow, mapBlock, Sort.ahead] using hk)
    refine ⟨rfl, fun _ => ⟨g, 0, rfl, Nat.lt_of_lt_of_le hgl hsz, fun j u hu => ?_⟩, rfl, rfl, rfl, hsz, fun k hk => ?_⟩
    · have hj : j < (ownI ps n).length := by have := (List.getElem?_eq_some_iff.1 hu).1; simpa [nums, ints] using this
      have hc := (hK j (by simpa using hj)).1
      rw [World.cell?_of_block (a := ⟨g, 0 + j, none⟩) (hold g hgl), hc, ← hu]
      simp [nums, ints, hj]
    · rw [hold k (by omega)]
      have : g ≠ k := by omega
      simp [putRow, mapBlock, Sort.ahead, Array.getElem?_modify, this]
end Go.Proofs.YtcdjoegihmfanaaGreat
