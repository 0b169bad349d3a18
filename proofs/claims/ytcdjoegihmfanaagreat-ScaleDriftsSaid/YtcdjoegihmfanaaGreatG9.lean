/- A call in a round; blocks that outlast. sides, top, before: the best of a row of sums. The values that make the best sum, traced back through the table. Events as cells; the table of best sums in memory, and its numbers' bounds. -/
import Derived.Test.YtcdjoegihmfanaaGreatG8
import Derived.Test.YtcdjoegihmfanaaGreatG6
import Derived.Test.YtcdjoegihmfanaaGreatG2
import Derived.Test.YtcdjoegihmfanaaGreatG3
import Derived.Deep.MidRow
import Derived.Laws.EntriesVeiled
namespace Go.Proofs.YtcdjoegihmfanaaGreat
open Go.RowKit
set_option linter.unusedVariables false
/-- A call in a round. -/
theorem call_round {P : Program} {l m f : Nat} {args : Array Value} {w : World} {R Q : Ending → World → Prop} (h : Calls P f args w R) (hq : ∀ e w', R e w' → Q e w') : CallsIn (Fence.wide.inRound l) m P f args w Q := CallsIn.inRound l (callsIn_wide.2 (h.mono hq))
end Go.Proofs.YtcdjoegihmfanaaGreat
namespace Go.Proofs.YtcdjoegihmfanaaGreat
open Go.RowKit
set_option linter.unusedVariables false
/-- The function that says which of two sums is better; a side. -/
def sdF (b : Bool) : Value := .func (.func (if b then 181 else 180)) #[] #[]
def sdV (b : Bool) : Value := .agg #[sdF b]
theorem less_any (x y : Int) (w : World) : Calls Tryz.prog 180 #[.int .i64 x, .int .i64 y] w fun e w' => e = .returned (.bool (decide (x < y))) ∧ w' = w := by
  go_enter Tryz.func180, Tryz.ntmps180
  go_wp2
  go_ret
  exact ⟨rfl, rfl⟩
theorem more_any (x y : Int) (w : World) : Calls Tryz.prog 181 #[.int .i64 x, .int .i64 y] w fun e w' => e = .returned (.bool (decide (y < x))) ∧ w' = w := by
  go_enter Tryz.func181, Tryz.ntmps181
  go_wp2
  go_ret
  exact ⟨rfl, rfl⟩
theorem better_any (b : Bool) (x y : Int) (w : World) : Calls Tryz.prog (if b then 181 else 180) #[.int .i64 x, .int .i64 y] w fun e w' => e = .returned (.bool (betterB b x y)) ∧ w' = w := by
  cases b
  · exact less_any x y w
  · exact more_any x y w
theorem sides_any (w : World) : Calls Tryz.prog 148 #[] w fun e w' => e = .returned (.tuple #[sdV false, sdV true]) ∧ Below w.heap.size w w' := by
  go_enter Tryz.func148, Tryz.ntmps148
  go_wp2_with fail
  exact bodyPost_ret (v := .tuple #[sdV false, sdV true]) (by simp [results, Tryz.results148, go_sem, sdV, sdF]) rfl ⟨rfl, by go_grown⟩
theorem run_index_row {P : Program} (w : World) (t e : TypeId) (n : Nat) (cs : Array Value) (k : Nat) (v : Value) (i0 : TypeInfo) (d : TypeDesc) (h : P.underlying t = some (.array n e)) (hd : P.underlying e = some d) (hr : d.isRow = false) (hi : P.info? e = some i0) (hs : i0.size = 1) (hk : k < n) (hv : cs[k]? = some v) :
    (Instr.index t (.agg cs) (.int .i64 (k : Int))).run P w = .ok v w := by
  have h1 : (0 : Int) ≤ (k : Int) ∧ (k : Int) < (n : Int) := by omega
  have hagg : (isAgg e).run P w = .ok false w := by
    unfold isAgg
    rw [Sem.run_bind, run_underlying hd w]
    cases d <;> simp_all
  simp [Instr.index, asIntOf, run_underlying h, h1, part, Sem.run_bind, hagg, sizeOf, typeInfo, hi, hs, hv, hk, go_sem]
theorem infoInt' : (Tryz.prog.info? 3).map (fun i => (i.zero, i.size, i.bytes)) = some (some (.int .i64 0), 1, 8) := by kernel_rfl
theorem topP_succ (b : Bool) (row : Nat → Int) (k : Nat) : topP b row (k + 1) = if row k ≠ big ∧ ((topP b row k).1 = big ∨ betterB b (row k) (topP b row k).1 = true) then (row k, k) else topP b row k := rfl
/-- The cells of a row of sums. -/
def rowC (row : Nat → Int) : List Value := (List.range 101).map fun v => .int .i64 (row v)
theorem rowC_get (row : Nat → Int) {k : Nat} (h : k < 101) : (rowC row).toArray[k]? = some (.int .i64 (row k)) := by simp [rowC, h]
theorem rowC_length (row : Nat → Int) : (rowC row).length = 101 := by simp [rowC]
set_option maxRecDepth 100000 in
set_option maxHeartbeats 2000000 in
theorem top_false (L o c : Nat) (row : Nat → Int) (w : World) (hc : c < 5) (hcell : ∀ v, v < 101 → w.cell? ⟨L, o + c * 101 + v, none⟩ = some (.int .i64 (row v))) (hL : L < w.heap.size) :
    Calls Tryz.prog 184 #[.pointer (some ⟨L, o, none⟩), .agg #[.func (.func 180) #[] #[]], .int .i64 (c : Nat)] w fun e w' => e = .returned (.tuple #[.int .i64 (topP false row 101).1, .int .i64 ((topP false row 101).2 : Nat)]) ∧ Below w.heap.size w w' := by
  obtain ⟨W1, hW1⟩ : ∃ W1, w.alloc (.cells #[.func (.func 180) #[] #[]] 213) = W1 := ⟨_, rfl⟩
  have hb1 : Below w.heap.size w W1 := by rw [← hW1]; exact below_new _ _
  have cs : W1.cell? ⟨w.heap.size, 0, none⟩ = some (.func (.func 180) #[] #[]) := by rw [← hW1]; exact (Blk.new w [.func (.func 180) #[] #[]] 213).cells 0 _ rfl
  have csl : w.heap.size < W1.heap.size := by rw [← hW1]; simp
  have hr : W1.rangeAt L (o + c * 101) (rowC row) := fun j v hv => by
    have hj : j < 101 := by have := (List.getElem?_eq_some_iff.1 hv).1; rwa [rowC_length] at this
    refine (hb1.cell (p := ⟨L, o + c * 101 + j, none⟩) hL).trans ?_
    rw [hcell j hj]
    have := rowC_get row hj
    simp only [List.getElem?_toArray] at this
    rw [hv] at this
    exact this.symm
  have hsz : (Tryz.prog.info? 252).map (·.size) = some (rowC row).length := by rw [rowC_length]; kernel_rfl
  have HR := Lib.hid hr
  have HSZ := Lib.hid hsz
  clear hsz
  have hc0 : (0 : Int) ≤ (c : Int) := by omega
  have hc5 : (c : Int) < 5 := by omega
  clear hcell hr
  go_enter Tryz.func184, Tryz.ntmps184
  have hix : ∀ (W : World) (k : Nat), k < 101 → Hid ((Instr.index 252 (.agg (rowC row).toArray) (.int .i64 (k : Int))).run Tryz.prog W = .ok (.int .i64 (row k)) W) := fun W k hk => Lib.hid (by
    obtain ⟨i0, hi, _, hi2, _⟩ := info_parts infoInt'
    exact run_index_row W 252 3 101 _ k _ i0 _ Tryz.underlying252 Tryz.underlying3 rfl hi hi2 hk (rowC_get row hk))
  go_wp2_with (refine wpList_load_mid (op := ⟨some 20, _, _, _, _, _⟩) rfl 252 (.tmp 19) rfl L (o + c * 101) (by rfl) (rowC row) _ HR.out Tryz.underlying252 (by rfl) HSZ.out ?_)
  have hb1' := hb1
  clear hL
  generalize hrc : (rowC row).toArray = arr at *
  clear hrc HR HSZ
  go_loop [8, 9, 21] (fun o a i => ∃ k : Nat, k ≤ 101 ∧ i = .int .i64 k ∧ o = .int .i64 (topP false row k).1 ∧ a = .int .i64 ((topP false row k).2 : Nat)) (fun _ _ i => 101 - (intOf i).toNat)
  case atStart => exact ⟨0, by omega, rfl, rfl, rfl⟩
  case round =>
    obtain ⟨k, hk, rfl, rfl, rfl⟩ := hrel
    by_cases hlt : k < 101
    · have hs := topP_succ false row k
      have ix := (hix W1 k hlt).out
      generalize row k = x at *
      generalize topP false row k = p at *
      obtain ⟨p1, p2⟩ := p
      dsimp only at hs ⊢
      have HB := fun W => Lib.hid (less_any x p1 W)
      have HS := Lib.hid hs
      clear hs hix
      unfold big betterB at HS
      by_cases h1 : x = 1099511627776
      · have d1 : (x != 1099511627776) = false := by simpa using h1
        have Hq : Hid (topP false row (k + 1) = (p1, p2)) := Lib.hid (by rw [HS.out, if_neg (fun h => h.1 h1)])
        have H1 := Lib.hid h1
        clear h1 HS
        go_wp2_with fail
        go_round
        case rel => exact ⟨k + 1, hlt, by go_num, by rw [Hq.out], by rw [Hq.out]⟩
        case measure => simp [intOf]; omega
      · have d1 : (x != 1099511627776) = true := by simpa using h1
        by_cases h2 : p1 = 1099511627776
        · have d2 : (p1 == 1099511627776) = true := by simpa using h2
          have Hq : Hid (topP false row (k + 1) = (x, k)) := Lib.hid (by rw [HS.out, if_pos ⟨h1, .inl h2⟩])
          have H1 := Lib.hid h1
          have H2 := Lib.hid h2
          clear h1 h2 HS
          go_wp2_with fail
          go_round
          case rel => exact ⟨k + 1, hlt, by go_num, by rw [Hq.out], by rw [Hq.out]⟩
          case measure => simp [intOf]; omega
        · have d2 : (p1 == 1099511627776) = false := by simpa using h2
          have H1 := Lib.hid h1
          have H2 := Lib.hid h2
          clear h1 h2
          by_cases h3 : x < p1
          · have Hq : Hid (topP false row (k + 1) = (x, k)) := Lib.hid (by rw [HS.out, if_pos ⟨H1.out, .inr (by simpa using h3)⟩])
            have d3 : decide (x < p1) = true := by simpa using h3
            rw [d3] at HB
            clear HS h3
            go_wp2_with fail
            refine (HB _).out.mono ?_
            rintro e w2 ⟨rfl, rfl⟩
            go_wp2_with fail
            go_round
            case rel => exact ⟨k + 1, hlt, by go_num, by rw [Hq.out], by rw [Hq.out]⟩
            case measure => simp [intOf]; omega
          · have Hq : Hid (topP false row (k + 1) = (p1, p2)) := Lib.hid (by rw [HS.out, if_neg (fun h => h.2.elim H2.out (fun h => h3 (by simpa using h)))])
            have d3 : decide (x < p1) = false := by simpa using h3
            rw [d3] at HB
            clear HS h3
            go_wp2_with fail
            refine (HB _).out.mono ?_
            rintro e w2 ⟨rfl, rfl⟩
            go_wp2_with fail
            go_round
            case rel => exact ⟨k + 1, hlt, by go_num, by rw [Hq.out], by rw [Hq.out]⟩
            case measure => simp [intOf]; omega
    · have hke : k = 101 := by omega
      subst hke
      clear hix
      go_wp2_with fail
      go_ret2
      exact ⟨rfl, hb1'⟩
set_option maxRecDepth 100000 in
set_option maxHeartbeats 2000000 in
theorem top_true (L o c : Nat) (row : Nat → Int) (w : World) (hc : c < 5) (hcell : ∀ v, v < 101 → w.cell? ⟨L, o + c * 101 + v, none⟩ = some (.int .i64 (row v))) (hL : L < w.heap.size) :
    Calls Tryz.prog 184 #[.pointer (some ⟨L, o, none⟩), .agg #[.func (.func 181) #[] #[]], .int .i64 (c : Nat)] w fun e w' => e = .returned (.tuple #[.int .i64 (topP true row 101).1, .int .i64 ((topP true row 101).2 : Nat)]) ∧ Below w.heap.size w w' := by
  obtain ⟨W1, hW1⟩ : ∃ W1, w.alloc (.cells #[.func (.func 181) #[] #[]] 213) = W1 := ⟨_, rfl⟩
  have hb1 : Below w.heap.size w W1 := by rw [← hW1]; exact below_new _ _
  have cs : W1.cell? ⟨w.heap.size, 0, none⟩ = some (.func (.func 181) #[] #[]) := by rw [← hW1]; exact (Blk.new w [.func (.func 181) #[] #[]] 213).cells 0 _ rfl
  have csl : w.heap.size < W1.heap.size := by rw [← hW1]; simp
  have hr : W1.rangeAt L (o + c * 101) (rowC row) := fun j v hv => by
    have hj : j < 101 := by have := (List.getElem?_eq_some_iff.1 hv).1; rwa [rowC_length] at this
    refine (hb1.cell (p := ⟨L, o + c * 101 + j, none⟩) hL).trans ?_
    rw [hcell j hj]
    have := rowC_get row hj
    simp only [List.getElem?_toArray] at this
    rw [hv] at this
    exact this.symm
  have hsz : (Tryz.prog.info? 252).map (·.size) = some (rowC row).length := by rw [rowC_length]; kernel_rfl
  have HR := Lib.hid hr
  have HSZ := Lib.hid hsz
  clear hsz
  have hc0 : (0 : Int) ≤ (c : Int) := by omega
  have hc5 : (c : Int) < 5 := by omega
  clear hcell hr
  go_enter Tryz.func184, Tryz.ntmps184
  have hix : ∀ (W : World) (k : Nat), k < 101 → Hid ((Instr.index 252 (.agg (rowC row).toArray) (.int .i64 (k : Int))).run Tryz.prog W = .ok (.int .i64 (row k)) W) := fun W k hk => Lib.hid (by
    obtain ⟨i0, hi, _, hi2, _⟩ := info_parts infoInt'
    exact run_index_row W 252 3 101 _ k _ i0 _ Tryz.underlying252 Tryz.underlying3 rfl hi hi2 hk (rowC_get row hk))
  go_wp2_with (refine wpList_load_mid (op := ⟨some 20, _, _, _, _, _⟩) rfl 252 (.tmp 19) rfl L (o + c * 101) (by rfl) (rowC row) _ HR.out Tryz.underlying252 (by rfl) HSZ.out ?_)
  have hb1' := hb1
  clear hL
  generalize hrc : (rowC row).toArray = arr at *
  clear hrc HR HSZ
  go_loop [8, 9, 21] (fun o a i => ∃ k : Nat, k ≤ 101 ∧ i = .int .i64 k ∧ o = .int .i64 (topP true row k).1 ∧ a = .int .i64 ((topP true row k).2 : Nat)) (fun _ _ i => 101 - (intOf i).toNat)
  case atStart => exact ⟨0, by omega, rfl, rfl, rfl⟩
  case round =>
    obtain ⟨k, hk, rfl, rfl, rfl⟩ := hrel
    by_cases hlt : k < 101
    · have hs := topP_succ true row k
      have ix := (hix W1 k hlt).out
      generalize row k = x at *
      generalize topP true row k = p at *
      obtain ⟨p1, p2⟩ := p
      dsimp only at hs ⊢
      have HB := fun W => Lib.hid (more_any x p1 W)
      have HS := Lib.hid hs
      clear hs hix
      unfold big betterB at HS
      by_cases h1 : x = 1099511627776
      · have d1 : (x != 1099511627776) = false := by simpa using h1
        have Hq : Hid (topP true row (k + 1) = (p1, p2)) := Lib.hid (by rw [HS.out, if_neg (fun h => h.1 h1)])
        have H1 := Lib.hid h1
        clear h1 HS
        go_wp2_with fail
        go_round
        case rel => exact ⟨k + 1, hlt, by go_num, by rw [Hq.out], by rw [Hq.out]⟩
        case measure => simp [intOf]; omega
      · have d1 : (x != 1099511627776) = true := by simpa using h1
        by_cases h2 : p1 = 1099511627776
        · have d2 : (p1 == 1099511627776) = true := by simpa using h2
          have Hq : Hid (topP true row (k + 1) = (x, k)) := Lib.hid (by rw [HS.out, if_pos ⟨h1, .inl h2⟩])
          have H1 := Lib.hid h1
          have H2 := Lib.hid h2
          clear h1 h2 HS
          go_wp2_with fail
          go_round
          case rel => exact ⟨k + 1, hlt, by go_num, by rw [Hq.out], by rw [Hq.out]⟩
          case measure => simp [intOf]; omega
        · have d2 : (p1 == 1099511627776) = false := by simpa using h2
          have H1 := Lib.hid h1
          have H2 := Lib.hid h2
          clear h1 h2
          by_cases h3 : p1 < x
          · have Hq : Hid (topP true row (k + 1) = (x, k)) := Lib.hid (by rw [HS.out, if_pos ⟨H1.out, .inr (by simpa using h3)⟩])
            have d3 : decide (p1 < x) = true := by simpa using h3
            rw [d3] at HB
            clear HS h3
            go_wp2_with fail
            refine (HB _).out.mono ?_
            rintro e w2 ⟨rfl, rfl⟩
            go_wp2_with fail
            go_round
            case rel => exact ⟨k + 1, hlt, by go_num, by rw [Hq.out], by rw [Hq.out]⟩
            case measure => simp [intOf]; omega
          · have Hq : Hid (topP true row (k + 1) = (p1, p2)) := Lib.hid (by rw [HS.out, if_neg (fun h => h.2.elim H2.out (fun h => h3 (by simpa using h)))])
            have d3 : decide (p1 < x) = false := by simpa using h3
            rw [d3] at HB
            clear HS h3
            go_wp2_with fail
            refine (HB _).out.mono ?_
            rintro e w2 ⟨rfl, rfl⟩
            go_wp2_with fail
            go_round
            case rel => exact ⟨k + 1, hlt, by go_num, by rw [Hq.out], by rw [Hq.out]⟩
            case measure => simp [intOf]; omega
    · have hke : k = 101 := by omega
      subst hke
      clear hix
      go_wp2_with fail
      go_ret2
      exact ⟨rfl, hb1'⟩
set_option maxRecDepth 100000 in
set_option maxHeartbeats 2000000 in
theorem before_false (L o c v fr : Nat) (x top : Int) (w : World) (hc : c < 5) (hv : v < 101) (hcell : w.cell? ⟨L, o + c * 101 + v, none⟩ = some (.int .i64 x)) (hL : L < w.heap.size) :
    Calls Tryz.prog 185 #[.pointer (some ⟨L, o, none⟩), .agg #[.func (.func 180) #[] #[]], .int .i64 (c : Nat), .int .i64 (v : Nat), .int .i64 top, .int .i64 (fr : Nat)] w fun e w' => e = .returned (.tuple #[.int .i64 (befP false x top v fr).1, .int .i64 ((befP false x top v fr).2 : Nat)]) ∧ Below w.heap.size w w' := by
  obtain ⟨W1, hW1⟩ : ∃ W1, w.alloc (.cells #[.func (.func 180) #[] #[]] 213) = W1 := ⟨_, rfl⟩
  have hb1 : Below w.heap.size w W1 := by rw [← hW1]; exact below_new _ _
  have cs : W1.cell? ⟨w.heap.size, 0, none⟩ = some (.func (.func 180) #[] #[]) := by rw [← hW1]; exact (Blk.new w [.func (.func 180) #[] #[]] 213).cells 0 _ rfl
  have csl : w.heap.size < W1.heap.size := by rw [← hW1]; simp
  have c1 := (hb1.cell (p := ⟨L, o + c * 101 + v, none⟩) hL).trans hcell
  have hc0 : (0 : Int) ≤ (c : Int) := by omega
  have hc5 : (c : Int) < 5 := by omega
  have hv0 : (0 : Int) ≤ (v : Int) := by omega
  have hv5 : (v : Int) < 101 := by omega
  have hs : befP false x top v fr = if top ≠ big ∧ (x = big ∨ betterB false top x = true) then (top, fr) else (x, v) := rfl
  generalize befP false x top v fr = q at *
  have HB := fun W => Lib.hid (less_any top x W)
  have HS := Lib.hid hs
  clear hs hcell hL
  unfold big betterB at HS
  by_cases h1 : top = 1099511627776
  · have d1 : (top != 1099511627776) = false := by simpa using h1
    have Hq : Hid (q = (x, v)) := Lib.hid (by rw [HS.out, if_neg (fun h => h.1 h1)])
    have H1 := Lib.hid h1
    clear h1 HS
    go_enter Tryz.func185, Tryz.ntmps185
    go_wp2_with fail
    go_ret2
    exact ⟨by rw [Hq.out]; rfl, hb1⟩
  · have d1 : (top != 1099511627776) = true := by simpa using h1
    by_cases h2 : x = 1099511627776
    · have d2 : (x == 1099511627776) = true := by simpa using h2
      have Hq : Hid (q = (top, fr)) := Lib.hid (by rw [HS.out, if_pos ⟨h1, .inl h2⟩])
      have H1 := Lib.hid h1
      have H2 := Lib.hid h2
      clear h1 h2 HS
      go_enter Tryz.func185, Tryz.ntmps185
      go_wp2_with fail
      go_ret2
      exact ⟨by rw [Hq.out]; rfl, hb1⟩
    · have d2 : (x == 1099511627776) = false := by simpa using h2
      have H1 := Lib.hid h1
      have H2 := Lib.hid h2
      clear h1 h2
      by_cases h3 : top < x
      · have Hq : Hid (q = (top, fr)) := Lib.hid (by rw [HS.out, if_pos ⟨H1.out, .inr (by simpa using h3)⟩])
        have d3 : decide (top < x) = true := by simpa using h3
        rw [d3] at HB
        clear HS h3
        go_enter Tryz.func185, Tryz.ntmps185
        go_wp2_with fail
        refine (HB _).out.mono ?_
        rintro e w2 ⟨rfl, rfl⟩
        go_wp2_with fail
        go_ret2
        exact ⟨by rw [Hq.out]; rfl, hb1⟩
      · have Hq : Hid (q = (x, v)) := Lib.hid (by rw [HS.out, if_neg (fun h => h.2.elim H2.out (fun h => h3 (by simpa using h)))])
        have d3 : decide (top < x) = false := by simpa using h3
        rw [d3] at HB
        clear HS h3
        go_enter Tryz.func185, Tryz.ntmps185
        go_wp2_with fail
        refine (HB _).out.mono ?_
        rintro e w2 ⟨rfl, rfl⟩
        go_wp2_with fail
        go_ret2
        exact ⟨by rw [Hq.out]; rfl, hb1⟩
set_option maxRecDepth 100000 in
set_option maxHeartbeats 2000000 in
theorem before_true (L o c v fr : Nat) (x top : Int) (w : World) (hc : c < 5) (hv : v < 101) (hcell : w.cell? ⟨L, o + c * 101 + v, none⟩ = some (.int .i64 x)) (hL : L < w.heap.size) :
    Calls Tryz.prog 185 #[.pointer (some ⟨L, o, none⟩), .agg #[.func (.func 181) #[] #[]], .int .i64 (c : Nat), .int .i64 (v : Nat), .int .i64 top, .int .i64 (fr : Nat)] w fun e w' => e = .returned (.tuple #[.int .i64 (befP true x top v fr).1, .int .i64 ((befP true x top v fr).2 : Nat)]) ∧ Below w.heap.size w w' := by
  obtain ⟨W1, hW1⟩ : ∃ W1, w.alloc (.cells #[.func (.func 181) #[] #[]] 213) = W1 := ⟨_, rfl⟩
  have hb1 : Below w.heap.size w W1 := by rw [← hW1]; exact below_new _ _
  have cs : W1.cell? ⟨w.heap.size, 0, none⟩ = some (.func (.func 181) #[] #[]) := by rw [← hW1]; exact (Blk.new w [.func (.func 181) #[] #[]] 213).cells 0 _ rfl
  have csl : w.heap.size < W1.heap.size := by rw [← hW1]; simp
  have c1 := (hb1.cell (p := ⟨L, o + c * 101 + v, none⟩) hL).trans hcell
  have hc0 : (0 : Int) ≤ (c : Int) := by omega
  have hc5 : (c : Int) < 5 := by omega
  have hv0 : (0 : Int) ≤ (v : Int) := by omega
  have hv5 : (v : Int) < 101 := by omega
  have hs : befP true x top v fr = if top ≠ big ∧ (x = big ∨ betterB true top x = true) then (top, fr) else (x, v) := rfl
  generalize befP true x top v fr = q at *
  have HB := fun W => Lib.hid (more_any top x W)
  have HS := Lib.hid hs
  clear hs hcell hL
  unfold big betterB at HS
  by_cases h1 : top = 1099511627776
  · have d1 : (top != 1099511627776) = false := by simpa using h1
    have Hq : Hid (q = (x, v)) := Lib.hid (by rw [HS.out, if_neg (fun h => h.1 h1)])
    have H1 := Lib.hid h1
    clear h1 HS
    go_enter Tryz.func185, Tryz.ntmps185
    go_wp2_with fail
    go_ret2
    exact ⟨by rw [Hq.out]; rfl, hb1⟩
  · have d1 : (top != 1099511627776) = true := by simpa using h1
    by_cases h2 : x = 1099511627776
    · have d2 : (x == 1099511627776) = true := by simpa using h2
      have Hq : Hid (q = (top, fr)) := Lib.hid (by rw [HS.out, if_pos ⟨h1, .inl h2⟩])
      have H1 := Lib.hid h1
      have H2 := Lib.hid h2
      clear h1 h2 HS
      go_enter Tryz.func185, Tryz.ntmps185
      go_wp2_with fail
      go_ret2
      exact ⟨by rw [Hq.out]; rfl, hb1⟩
    · have d2 : (x == 1099511627776) = false := by simpa using h2
      have H1 := Lib.hid h1
      have H2 := Lib.hid h2
      clear h1 h2
      by_cases h3 : x < top
      · have Hq : Hid (q = (top, fr)) := Lib.hid (by rw [HS.out, if_pos ⟨H1.out, .inr (by simpa using h3)⟩])
        have d3 : decide (x < top) = true := by simpa using h3
        rw [d3] at HB
        clear HS h3
        go_enter Tryz.func185, Tryz.ntmps185
        go_wp2_with fail
        refine (HB _).out.mono ?_
        rintro e w2 ⟨rfl, rfl⟩
        go_wp2_with fail
        go_ret2
        exact ⟨by rw [Hq.out]; rfl, hb1⟩
      · have Hq : Hid (q = (x, v)) := Lib.hid (by rw [HS.out, if_neg (fun h => h.2.elim H2.out (fun h => h3 (by simpa using h)))])
        have d3 : decide (x < top) = false := by simpa using h3
        rw [d3] at HB
        clear HS h3
        go_enter Tryz.func185, Tryz.ntmps185
        go_wp2_with fail
        refine (HB _).out.mono ?_
        rintro e w2 ⟨rfl, rfl⟩
        go_wp2_with fail
        go_ret2
        exact ⟨by rw [Hq.out]; rfl, hb1⟩
theorem top_any (b : Bool) (L o c : Nat) (row : Nat → Int) (w : World) (hc : c < 5) (hcell : ∀ v, v < 101 → w.cell? ⟨L, o + c * 101 + v, none⟩ = some (.int .i64 (row v))) (hL : L < w.heap.size) :
    Calls Tryz.prog 184 #[.pointer (some ⟨L, o, none⟩), sdV b, .int .i64 (c : Nat)] w fun e w' => e = .returned (.tuple #[.int .i64 (topP b row 101).1, .int .i64 ((topP b row 101).2 : Nat)]) ∧ Below w.heap.size w w' := by
  cases b
  · exact top_false L o c row w hc hcell hL
  · exact top_true L o c row w hc hcell hL
theorem before_any (b : Bool) (L o c v fr : Nat) (x top : Int) (w : World) (hc : c < 5) (hv : v < 101) (hcell : w.cell? ⟨L, o + c * 101 + v, none⟩ = some (.int .i64 x)) (hL : L < w.heap.size) :
    Calls Tryz.prog 185 #[.pointer (some ⟨L, o, none⟩), sdV b, .int .i64 (c : Nat), .int .i64 (v : Nat), .int .i64 top, .int .i64 (fr : Nat)] w fun e w' => e = .returned (.tuple #[.int .i64 (befP b x top v fr).1, .int .i64 ((befP b x top v fr).2 : Nat)]) ∧ Below w.heap.size w w' := by
  cases b
  · exact before_false L o c v fr x top w hc hv hcell hL
  · exact before_true L o c v fr x top w hc hv hcell hL
/-- With fewer changes than none there is nothing. -/
theorem top_less (b : Bool) (L o : Nat) (w : World) :
    Calls Tryz.prog 184 #[.pointer (some ⟨L, o, none⟩), sdV b, .int .i64 (-1)] w fun e w' => e = .returned (.tuple #[.int .i64 1099511627776, .int .i64 0]) ∧ Below w.heap.size w w' := by
  unfold sdV
  go_enter Tryz.func184, Tryz.ntmps184
  go_wp2_with fail
  go_ret2
  exact ⟨rfl, below_new _ _⟩
end Go.Proofs.YtcdjoegihmfanaaGreat
namespace Go.Proofs.YtcdjoegihmfanaaGreat
set_option linter.unusedVariables false
def traceP (b : Bool) : List Ev → Nat → Nat → List Int
  | [], _, _ => []
  | e :: l, c, v => ((v : Int) - 50) :: (if l.isEmpty then [] else
      if (befP b (levP b l c v) (topC b (levP b l) c).1 v (topC b (levP b l) c).2).2 ≠ v then traceP b l (c - 1) (befP b (levP b l c v) (topC b (levP b l) c).1 v (topC b (levP b l) c).2).2 else traceP b l c v)
theorem betterB_asymm {b : Bool} {x y : Int} (h : betterB b x y = true) (k : noBetter b x y) : False := by
  unfold betterB at h; unfold noBetter at k; cases b <;> simp at h k <;> omega
theorem lev_mono (b : Bool) {l : List Ev} (hl : l ≠ []) (hw : ∀ e ∈ l, -1000 ≤ e.w ∧ e.w ≤ 1000) (hlen : l.length ≤ 1000) {c v : Nat} (hv : v < 101) (h : levP b l c v ≠ big) : levP b l (c + 1) v ≠ big ∧ noBetter b (levP b l c v) (levP b l (c + 1) v) := by
  rcases lev_ok b l hl hw hlen c v hv with ⟨k, _⟩ | ⟨_, _, _, ⟨xs, x1, x2, x3⟩, _⟩
  · exact absurd k h
  · have hw' : Way l (c + 1) xs := ⟨x1.1, by have := x1.2; omega⟩
    rcases lev_ok b l hl hw hlen (c + 1) v hv with ⟨_, k⟩ | ⟨k1, _, _, _, k2⟩
    · exact absurd x2 (k xs hw')
    · exact ⟨k1, by rw [← x3]; exact k2 xs hw' x2⟩
theorem trace_ok (b : Bool) : ∀ (l : List Ev), l ≠ [] → (∀ e ∈ l, -1000 ≤ e.w ∧ e.w ≤ 1000) → l.length ≤ 1000 → ∀ (c v : Nat), v < 101 → levP b l c v ≠ big →
    Way l c (traceP b l c v) ∧ (traceP b l c v).head? = some ((v : Int) - 50) ∧ wsum l (traceP b l c v) = levP b l c v
  | [], h, _, _, _, _, _, _ => absurd rfl h
  | [e], _, hw, _, c, v, hv, hn => by
    simp only [levP, cellP, List.isEmpty_nil, if_true] at hn ⊢
    split at hn
    · rename_i h
      rw [if_pos h]
      exact ⟨⟨⟨⟨h.2.1, h.2.2, by omega, by omega⟩, trivial⟩, by simp [traceP, chg]⟩, rfl, by simp [traceP, wsum]⟩
    · exact absurd rfl hn
  | e :: e' :: l, _, hw, hlen, c, v, hv, hn => by
    have hw' : ∀ x ∈ e' :: l, -1000 ≤ x.w ∧ x.w ≤ 1000 := fun x hx => hw x (List.mem_cons_of_mem _ hx)
    have hlen' : (e' :: l).length ≤ 1000 := by simp at hlen ⊢; omega
    have IH := fun c v hv hn => trace_ok b (e' :: l) (by simp) hw' hlen' c v hv hn
    have MO := fun c v hv hn => lev_mono b (l := e' :: l) (by simp) hw' hlen' (c := c) (v := v) hv hn
    have he : (e' :: l).isEmpty = false := rfl
    rw [levP, cellP, he] at hn
    rw [levP, cellP, traceP, he]
    generalize hL : e' :: l = L at *
    have hLn : L ≠ [] := by rw [← hL]; simp
    simp only [Bool.false_eq_true, if_false] at hn ⊢
    -- the end of a way in front of a value
    have fin : ∀ (n : Int) (ys : List Int), Way L c ys ∧ ys.head? = some ((v : Int) - 50) ∨ (0 < c ∧ Way L (c - 1) ys) → wsum L ys = n → (n ≠ big ∧ e.lo ≤ (v : Int) - 50 ∧ (v : Int) - 50 ≤ e.hi) →
        Way (e :: L) c (((v : Int) - 50) :: ys) ∧ (((v : Int) - 50) :: ys).head? = some ((v : Int) - 50) ∧ wsum (e :: L) (((v : Int) - 50) :: ys) = n + e.w * ((v : Int) - 50) := by
      intro n ys hy hs hc
      have hf : fits1 e ((v : Int) - 50) := ⟨hc.2.1, hc.2.2, by omega, by omega⟩
      refine ⟨⟨⟨hf, by rcases hy with ⟨h, _⟩ | ⟨_, h⟩ <;> exact h.1⟩, ?_⟩, rfl, by simp only [wsum]; omega⟩
      match ys, hy with
      | [], _ => simp [chg]
      | y :: t, .inl ⟨h, hh⟩ => simp at hh; subst hh; simp only [chg]; simp; exact h.2
      | y :: t, .inr ⟨h0, h⟩ => simp only [chg]; have := h.2; split <;> omega
    split at hn
    · rename_i hc
      rw [if_pos hc]
      generalize htc : topC b (levP b L) c = tc at *
      by_cases hb : tc.1 ≠ big ∧ (levP b L c v = big ∨ betterB b tc.1 (levP b L c v) = true)
      · have e1 : befP b (levP b L c v) tc.1 v tc.2 = (tc.1, tc.2) := by unfold befP; rw [if_pos hb]
        rw [e1] at hc ⊢
        have hc0 : c ≠ 0 := by
          intro h0
          rw [← htc] at hb
          unfold topC at hb
          rw [if_pos h0] at hb
          exact hb.1 rfl
        have htp : tc = topP b (levP b L (c - 1)) 101 := by rw [← htc]; unfold topC; rw [if_neg hc0]
        rcases topP_spec b (levP b L (c - 1)) 101 with ⟨k, _⟩ | ⟨k1, k2, k3, _⟩
        · rw [htp] at hb; exact absurd k hb.1
        · rw [← htp] at k1 k2 k3
          have hne : tc.2 ≠ v := by
            intro heq
            rw [heq] at k3
            have := MO (c - 1) v hv (by rw [k3]; exact k1)
            rw [show c - 1 + 1 = c from by omega, k3] at this
            rcases hb.2 with h | h
            · exact this.1 h
            · exact betterB_asymm h this.2
          rw [if_pos hne]
          obtain ⟨i1, i2, i3⟩ := IH (c - 1) tc.2 k2 (by rw [k3]; exact k1)
          exact fin tc.1 _ (.inr ⟨by omega, i1⟩) (by rw [i3, k3]) hc
      · have e1 : befP b (levP b L c v) tc.1 v tc.2 = (levP b L c v, v) := by unfold befP; rw [if_neg hb]
        rw [e1] at hc ⊢
        rw [if_neg (by simp)]
        obtain ⟨i1, i2, i3⟩ := IH c v hv hc.1
        exact fin _ _ (.inl ⟨i1, i2⟩) i3 hc
    · exact absurd rfl hn
end Go.Proofs.YtcdjoegihmfanaaGreat
namespace Go.Proofs.YtcdjoegihmfanaaGreat
open Go.RowKit
set_option linter.unusedVariables false
def evF (e : Ev) : List Int := [e.lo, e.hi, e.m, e.w]
def evs (l : List Ev) : List Value := rowsOf evF l
def evV (e : Ev) : Value := .agg #[.int .i64 e.lo, .int .i64 e.hi, .int .i64 e.m, .int .i64 e.w]
theorem evs_length (l : List Ev) : (evs l).length = l.length * 4 := rowsOf_length (f := evF) (k := 4) (fun _ => rfl) l
theorem evs_one (l : List Ev) : ∀ u ∈ evs l, u.oneCell' = true := rowsOf_one l
theorem Rd.ev' {w : World} {B b off : Nat} {t : List Ev} {i : Nat} (h : Rd w B (some ⟨b, off, none⟩) (evs t)) (hi : i < t.length) :
    w.cell? ⟨b, off + i * 4, none⟩ = some (.int .i64 t[i].lo) ∧ w.cell? ⟨b, off + i * 4 + 1, none⟩ = some (.int .i64 t[i].hi) ∧ w.cell? ⟨b, off + i * 4 + 2, none⟩ = some (.int .i64 t[i].m) ∧ w.cell? ⟨b, off + i * 4 + 3, none⟩ = some (.int .i64 t[i].w) := by
  have hk : ∀ x, (evF x).length = 4 := fun _ => rfl
  refine ⟨Rd.row hk h hi (j := 0) (by omega), ?_, ?_, ?_⟩
  · have := Rd.row hk h hi (j := 1) (by omega); rwa [← Nat.add_assoc] at this
  · have := Rd.row hk h hi (j := 2) (by omega); rwa [← Nat.add_assoc] at this
  · have := Rd.row hk h hi (j := 3) (by omega); rwa [← Nat.add_assoc] at this
theorem Rd.ev {w : World} {B : Nat} {A : Option Addr} {t : List Ev} {i : Nat} (h : Rd w B A (evs t)) (hi : i < t.length) :
    ∃ b off, A = some ⟨b, off, none⟩ ∧ b < B ∧ w.cell? ⟨b, off + i * 4, none⟩ = some (.int .i64 t[i].lo) ∧ w.cell? ⟨b, off + i * 4 + 1, none⟩ = some (.int .i64 t[i].hi) ∧ w.cell? ⟨b, off + i * 4 + 2, none⟩ = some (.int .i64 t[i].m) ∧ w.cell? ⟨b, off + i * 4 + 3, none⟩ = some (.int .i64 t[i].w) := by
  obtain ⟨b, off, rfl, hb⟩ := Rd.rowAddr (fun _ => rfl) (k := 4) (by omega) h hi
  exact ⟨b, off, rfl, hb, h.ev' hi⟩
/-- The table behind the first i events. -/
def tabL (b : Bool) (l : List Ev) (i : Nat) : Nat → Nat → Int := levP b (l.take i).reverse
/-- What is known before event i at a value. -/
def befL (b : Bool) (l : List Ev) (i c v : Nat) : Int := if i = 0 then 0 else (befP b (tabL b l i c v) (topC b (tabL b l i) c).1 v (topC b (tabL b l i) c).2).1
theorem tabL_succ (b : Bool) {l : List Ev} {i : Nat} (hi : i < l.length) (c v : Nat) : tabL b l (i + 1) c v = cellP l[i] (befL b l i c v) v := by
  have e : (l.take (i + 1)).reverse = l[i] :: (l.take i).reverse := by
    rw [List.take_succ_eq_append_getElem hi, List.reverse_append]; rfl
  unfold tabL
  rw [e]
  show cellP l[i] (if (l.take i).reverse.isEmpty then 0 else _) v = _
  unfold befL tabL
  by_cases h0 : i = 0
  · subst h0; simp
  · have : (l.take i).reverse.isEmpty = false := by
      rw [List.isEmpty_eq_false_iff]
      intro h
      have := congrArg List.length h
      simp only [List.length_reverse, List.length_take, List.length_nil] at this
      omega
    rw [if_neg h0, this]; rfl
def bdd (n : Int) : Prop := n = big ∨ (-100000000 ≤ n ∧ n ≤ 100000000)
theorem topP_bdd {b : Bool} {row : Nat → Int} (h : ∀ v, v < 101 → bdd (row v)) : bdd (topP b row 101).1 := by
  rcases topP_spec b row 101 with ⟨h1, _⟩ | ⟨_, h2, h3, _⟩
  · exact .inl h1
  · rw [← h3]; exact h _ h2
theorem topP_lt (b : Bool) (row : Nat → Int) : ∀ n, (topP b row n).2 ≤ n
  | 0 => Nat.le_refl _
  | n + 1 => by
    rw [topP_succ]
    split
    · simp
    · exact Nat.le_succ_of_le (topP_lt b row n)
theorem tabL_bdd {b : Bool} {l : List Ev} (hw : ∀ e ∈ l, -1000 ≤ e.w ∧ e.w ≤ 1000) (hl : l.length ≤ 1000) {i : Nat} (hi : 0 < i) (hil : i ≤ l.length) (c v : Nat) (hv : v < 101) : bdd (tabL b l i c v) := by
  have hn : (l.take i).reverse ≠ [] := by
    intro h
    have := congrArg List.length h
    simp only [List.length_reverse, List.length_take, List.length_nil] at this
    omega
  have hlen : (l.take i).reverse.length = i := by rw [List.length_reverse, List.length_take]; omega
  rcases lev_ok b (l.take i).reverse hn (fun e he => hw e (List.mem_of_mem_take (List.mem_reverse.1 he))) (by rw [hlen]; omega) c v hv with ⟨h, _⟩ | ⟨_, h1, h2, _⟩
  · exact .inl h
  · rw [hlen] at h1 h2
    exact .inr ⟨by unfold tabL; omega, by unfold tabL; omega⟩
theorem topC_bdd {b : Bool} {l : List Ev} (hw : ∀ e ∈ l, -1000 ≤ e.w ∧ e.w ≤ 1000) (hl : l.length ≤ 1000) {i : Nat} (hi : 0 < i) (hil : i ≤ l.length) (c : Nat) : bdd (topC b (tabL b l i) c).1 := by
  unfold topC
  split
  · exact .inl rfl
  · exact topP_bdd fun v hv => tabL_bdd hw hl hi hil _ v hv
theorem topC_lt (b : Bool) (tab : Nat → Nat → Int) (c : Nat) : (topC b tab c).2 ≤ 101 := by
  unfold topC
  split
  · simp
  · exact topP_lt _ _ _
theorem befL_bdd {b : Bool} {l : List Ev} (hw : ∀ e ∈ l, -1000 ≤ e.w ∧ e.w ≤ 1000) (hl : l.length ≤ 1000) {i : Nat} (hil : i ≤ l.length) (c v : Nat) (hv : v < 101) : bdd (befL b l i c v) := by
  unfold befL
  split
  · exact .inr (by omega)
  · rename_i h0
    unfold befP
    split
    · exact topC_bdd hw hl (by omega) hil c
    · exact tabL_bdd hw hl (by omega) hil c v hv
theorem mul_bdd {w x : Int} (hw : -1000 ≤ w ∧ w ≤ 1000) (hx : -50 ≤ x ∧ x ≤ 50) : -50000 ≤ w * x ∧ w * x ≤ 50000 := by
  constructor
  · rcases Int.le_total 0 w with h | h
    · have := Int.mul_le_mul_of_nonneg_left hx.1 h; omega
    · have := Int.mul_le_mul_of_nonpos_left h hx.2; omega
  · rcases Int.le_total 0 w with h | h
    · have := Int.mul_le_mul_of_nonneg_left hx.2 h; omega
    · have := Int.mul_le_mul_of_nonpos_left h hx.1; omega
/-- Which places of the table are filled. -/
def Dn (i ci vi i' c' v' : Nat) : Prop := i' < i ∨ (i' = i ∧ (c' < ci ∨ (c' = ci ∧ v' < vi)))
structure LvOk (W : World) (L : Nat) (b : Bool) (l : List Ev) (c i ci vi : Nat) : Prop where
  lt : L < W.heap.size
  ok : ∀ i' c' v', i' < l.length → c' ≤ c → v' < 101 → Dn i ci vi i' c' v' → W.cell? ⟨L, i' * 505 + c' * 101 + v', none⟩ = some (.int .i64 (tabL b l (i' + 1) c' v'))
  th : ∀ o, o < l.length * 505 → (W.cell? ⟨L, o, none⟩).isSome = true
  fr : ∀ o, W.frozen? ⟨L, o, none⟩ = false
section
variable {W W' : World} {L : Nat} {b : Bool} {l : List Ev} {c i ci vi : Nat}
theorem LvOk.below (h : LvOk W L b l c i ci vi) (hb : Below W.heap.size W W') : LvOk W' L b l c i ci vi :=
  ⟨Nat.lt_of_lt_of_le h.lt hb.size, fun i' c' v' h1 h2 h3 h4 => (hb.cell (p := ⟨L, _, none⟩) h.lt).trans (h.ok i' c' v' h1 h2 h3 h4), fun o ho => by rw [hb.cell (p := ⟨L, o, none⟩) h.lt]; exact h.th o ho, fun o => (hb.frozen (p := ⟨L, o, none⟩) h.lt).trans (h.fr o)⟩
theorem LvOk.drewN (h : LvOk W L b l c i ci vi) (n : Nat) : LvOk (W.drewN n) L b l c i ci vi := ⟨h.lt, h.ok, h.th, h.fr⟩
theorem LvOk.put (h : LvOk W L b l c i ci vi) (hi : i < l.length) (hc : ci ≤ c) (hc4 : c ≤ 4) (hv : vi < 101) : LvOk (W.setCell ⟨L, i * 505 + ci * 101 + vi, none⟩ (.int .i64 (tabL b l (i + 1) ci vi))) L b l c i ci (vi + 1) := by
  have hs := h.th (i * 505 + ci * 101 + vi) (by omega)
  obtain ⟨u, hu⟩ := Option.isSome_iff_exists.1 hs
  refine ⟨by simpa [World.setCell] using h.lt, fun i' c' v' h1 h2 h3 h4 => ?_, fun o ho => ?_, fun o => by simpa using h.fr o⟩
  · by_cases e : i' = i ∧ c' = ci ∧ v' = vi
    · obtain ⟨rfl, rfl, rfl⟩ := e
      exact World.cell?_setCell_same _ _ _ hu
    · rw [cell_far' (by omega)]
      refine h.ok i' c' v' h1 h2 h3 ?_
      unfold Dn at h4 ⊢
      omega
  · by_cases e : o = i * 505 + ci * 101 + vi
    · subst e
      rw [World.cell?_setCell_same _ _ _ hu]; rfl
    · rw [cell_far' e]; exact h.th o ho
theorem LvOk.row (h : LvOk W L b l c i ci 101) : LvOk W L b l c i (ci + 1) 0 :=
  ⟨h.lt, fun i' c' v' h1 h2 h3 h4 => h.ok i' c' v' h1 h2 h3 (by unfold Dn at *; omega), h.th, h.fr⟩
theorem LvOk.event (h : LvOk W L b l c i (c + 1) 0) : LvOk W L b l c (i + 1) 0 0 :=
  ⟨h.lt, fun i' c' v' h1 h2 h3 h4 => h.ok i' c' v' h1 h2 h3 (by unfold Dn at *; omega), h.th, h.fr⟩
theorem LvOk.at_ (h : LvOk W L b l c i ci vi) {i' c' v' : Nat} (hi : i' < i) (hl : i' < l.length) (hc : c' ≤ c) (hv : v' < 101) : W.cell? ⟨L, i' * 505 + c' * 101 + v', none⟩ = some (.int .i64 (tabL b l (i' + 1) c' v')) :=
  h.ok i' c' v' hl hc hv (.inl hi)
end
theorem infoLevel : (Tryz.prog.info? 254).map (fun i => (i.zero.isSome, i.size, i.bytes)) = some (true, 505, 4040) := by kernel_rfl
/-- 'make' of the table. -/
theorem made_levels (b : Bool) (l : List Ev) (c : Nat) (W : World) (hn : l.length ≤ 1000) : ∃ Z : Array Value, (Instr.makeSlice 250 (.int .i64 (l.length : Int)) (.int .i64 (l.length : Int))).run Tryz.prog W = .ok (.slice (some ⟨W.heap.size, 0, none⟩) l.length l.length) (W.alloc (.cells Z 254)) ∧
    LvOk (W.alloc (.cells Z 254)) W.heap.size b l c 0 0 0 := by
  have h0 := infoLevel
  cases hi : Tryz.prog.info? 254 with
  | none => rw [hi] at h0; cases h0
  | some i0 =>
    rw [hi] at h0
    simp only [Option.map_some, Option.some.injEq, Prod.mk.injEq] at h0
    obtain ⟨hz, hs, hb⟩ := h0
    obtain ⟨z, hz⟩ := Option.isSome_iff_exists.1 hz
    have h := run_make (P := Tryz.prog) (w := W) 250 254 i0 z Tryz.underlying250 hi hz .i64 .i64 l.length l.length (by omega) (by omega) (by rw [hb]; omega) (by omega)
    simp only [Int.toNat_natCast, hs] at h
    refine ⟨_, h, by simp, fun i' c' v' _ _ _ h4 => by unfold Dn at h4; omega, fun o ho => ?_, fun o => by simp⟩
    rw [World.cell?_alloc_new]
    rw [Array.getElem?_eq_getElem (by rw [size_madeCells]; exact ho)]; rfl
theorem sizeIntV : (Tryz.prog.info? 3).map (·.size) = some 1 := by kernel_rfl
theorem made_ints (n : Nat) (W : World) (hn : n ≤ 1000000) : ∃ Z : Array Value, (Instr.makeSlice 41 (.int .i64 (n : Int)) (.int .i64 (n : Int))).run Tryz.prog W = .ok (.slice (some ⟨W.heap.size, 0, none⟩) n n) (W.alloc (.cells Z 3)) ∧
    (W.alloc (.cells Z 3)).ownsRow W.heap.size 3 1 (.slice (some ⟨W.heap.size, 0, none⟩) n n) n (ints (List.replicate n 0)) := by
  obtain ⟨i0, hi, hz0, hz1, hz2⟩ := info_parts infoInt'
  have h := run_make (P := Tryz.prog) (w := W) 41 3 i0 (.int .i64 0) Tryz.underlying41 hi hz0 .i64 .i64 n n (by omega) (by omega) (by rw [hz2]; omega) (by omega)
  simp only [Int.toNat_natCast, hz1, Nat.mul_one] at h
  have e : madeCells (Value.int .i64 0).cells n = (ints (List.replicate n 0)).toArray := by
    apply Array.ext'
    show (madeCells #[Value.int .i64 0] n).toList = _
    rw [toList_madeCells_one]; simp [ints]
  rw [e] at h
  exact ⟨_, h, by simp [ints], .inr ⟨W.heap.size, n, (ints (List.replicate n 0)).toArray, rfl, Nat.le_refl _, World.alloc_heap_new W _, Nat.le_refl _, by unfold maxLen; omega, by simp [ints], by simp [ints]⟩⟩
/-- The values behind the first i events, traced back. -/
def trL (b : Bool) (l : List Ev) (i c v : Nat) : List Int := traceP b (l.take i).reverse c v
def befT (b : Bool) (l : List Ev) (i c v : Nat) : Int × Nat := befP b (tabL b l i c v) (topC b (tabL b l i) c).1 v (topC b (tabL b l i) c).2
theorem trL_succ (b : Bool) {l : List Ev} {i : Nat} (hi : i < l.length) (c v : Nat) : trL b l (i + 1) c v = ((v : Int) - 50) :: (if i = 0 then [] else if (befT b l i c v).2 ≠ v then trL b l i (c - 1) (befT b l i c v).2 else trL b l i c v) := by
  have e : (l.take (i + 1)).reverse = l[i] :: (l.take i).reverse := by
    rw [List.take_succ_eq_append_getElem hi, List.reverse_append]; rfl
  unfold trL
  rw [e]
  show (((v : Int) - 50) :: (if (l.take i).reverse.isEmpty = true then [] else if _ then traceP b (l.take i).reverse _ _ else traceP b (l.take i).reverse _ _)) = _
  by_cases h0 : i = 0
  · subst h0; simp
  · have : (l.take i).reverse.isEmpty = false := by
      rw [List.isEmpty_eq_false_iff]
      intro h
      have := congrArg List.length h
      simp only [List.length_reverse, List.length_take, List.length_nil] at this
      omega
    rw [if_neg h0, this, if_neg (by decide)]
    unfold befT tabL
    by_cases hq : (befP b (levP b (List.take i l).reverse c v) (topC b (levP b (List.take i l).reverse) c).fst v (topC b (levP b (List.take i l).reverse) c).snd).snd ≠ v
    · rw [if_pos hq]
    · rw [if_neg hq]
theorem befT_ne {b : Bool} {l : List Ev} {i c v : Nat} (h : (befT b l i c v).2 ≠ v) : c ≠ 0 ∧ (befT b l i c v).2 < 101 := by
  unfold befT at h ⊢
  unfold befP at h ⊢
  by_cases hc : (topC b (tabL b l i) c).1 ≠ big ∧ (tabL b l i c v = big ∨ betterB b (topC b (tabL b l i) c).1 (tabL b l i c v) = true)
  · rw [if_pos hc]
    have h0 : c ≠ 0 := by
      intro h0
      subst h0
      exact hc.1 rfl
    refine ⟨h0, ?_⟩
    have h1 := hc.1
    unfold topC at h1 ⊢
    rw [if_neg h0] at h1 ⊢
    rcases topP_spec b (tabL b l i (c - 1)) 101 with ⟨k, _⟩ | ⟨_, k, _⟩
    · exact absurd k h1
    · exact k
  · rw [if_neg hc] at h
    exact absurd rfl h
theorem trL_length (b : Bool) {l : List Ev} : ∀ (i c v : Nat), i ≤ l.length → (trL b l i c v).length = i
  | 0, _, _, _ => by simp [trL, traceP]
  | i + 1, c, v, h => by
    rw [trL_succ b h]
    split
    · rename_i h0; subst h0; rfl
    · split
      · rw [List.length_cons, trL_length b i _ _ (by omega)]
      · rw [List.length_cons, trL_length b i _ _ (by omega)]
theorem tr_get {TR : List Int} {n ii : Nat} {x : Int} {r : List Int} (hT : TR.length = n) (hii : ii < n) (hdr : TR.drop (n - 1 - ii) = x :: r) : TR[n - 1 - ii]? = some x := by
  have := congrArg (fun t : List Int => t[0]?) hdr
  simpa using this
theorem tr_last {TR d : List Int} {n : Nat} {x : Int} (hT : TR.length = n) (hd : d.length = n) (hn : 0 < n) (hdr : TR.drop (n - 1 - 0) = [x]) (hk : ∀ k, 0 < k → k < n → d[k]? = TR[n - 1 - k]?) : d.set 0 x = TR.reverse := by
  apply List.ext_getElem?
  intro k
  by_cases hkn : k < n
  · rw [List.getElem?_reverse (by rw [hT]; exact hkn), hT]
    by_cases h0 : k = 0
    · subst h0
      rw [tr_get hT hn hdr]
      simp [hd, hn]
    · rw [← hk k (by omega) hkn, List.getElem?_set_ne (by omega)]
  · rw [List.getElem?_eq_none (by simp; omega), List.getElem?_eq_none (by simp; omega)]
theorem tr_next {TR d : List Int} {n ii j : Nat} {x : Int} {r : List Int} (hT : TR.length = n) (hd : d.length = n) (hii : ii < n) (hdr : TR.drop (n - 1 - ii) = x :: r) (hk : ∀ k, ii < k → k < n → d[k]? = TR[n - 1 - k]?) (hj : ii = j + 1) :
    TR.drop (n - 1 - j) = r ∧ ∀ k, j < k → k < n → (d.set ii x)[k]? = TR[n - 1 - k]? := by
  constructor
  · rw [show n - 1 - j = (n - 1 - ii) + 1 by omega, ← List.drop_drop, hdr]; rfl
  · intro k h1 h2
    by_cases e : k = ii
    · subst e
      rw [tr_get hT hii hdr, List.getElem?_set_self (by omega)]
    · rw [List.getElem?_set_ne (by omega)]
      exact hk k (by omega) h2
end Go.Proofs.YtcdjoegihmfanaaGreat
