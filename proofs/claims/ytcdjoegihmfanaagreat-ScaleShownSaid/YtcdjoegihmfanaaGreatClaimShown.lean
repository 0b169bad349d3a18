/- ScaleShown: proved, for every two lists of bytes and every number; no condition. -/
import Derived.Test.YtcdjoegihmfanaaGreatLwShown
import Derived.Test.YtcdjoegihmfanaaGreatOpC
import Derived.Test.YtcdjoegihmfanaaGreatRows
namespace Go.Proofs.YtcdjoegihmfanaaGreat
open Go.ChangeShapes Go.WideShapes Go.ChangeAt Go.RowKit Go.Joins
set_option linter.unusedVariables false
set_option maxRecDepth 100000 in
theorem scaleShown_lifted (os : Os) (started : os.Started) (H : Type) (enc : TypeId × Value → H) :
    ReturnsInHanded {} Tryz.checked os 5 .any (Rows.scaleShownSpec.pre6 enc Tryz.prog Tryz.f5 Rows.scaleShownRow.domain false) (Rows.scaleShownSpec.post enc Tryz.prog Tryz.f5 false true false false) := by
  refine returnsInHanded_of_change_sized (C := Tryz.checked) own started (by kernel_rfl) Tryz.func5
    (ChangeSpec.witness6 (enc := enc) (C := Tryz.checked) false ⟨#[], #[.slice none 0 0, .slice none 0 0, .int .i64 0], []⟩ 8 (by kernel_rfl) (by kernel_rfl) (by kernel_rfl) (by kernel_rfl)) ?_
  intro W base args ds gs before hval0 hW hcnd hsz0 _
  have hsz : (DataW.weightsEach Tryz.prog (Tryz.f5.params.toList ++ Rows.scaleShownSpec.plain.varTypes Tryz.prog) (ds ++ gs)).all (· ≤ reachBytes) = true := hsz0
  have hval : ∀ (j : Nat) t v, Tryz.f5.params[j]? = some t → args[j]? = some v → Value.okWide Tryz.prog W .any base t v := hval0
  have hW' := hW
  obtain ⟨p, q, hA0, hV, rfl, hfz, hnd⟩ := hW
  have hA : DataW.TrodAll enc Tryz.prog W 0 (fun _ => true) true Tryz.f5.params.toList args.toList ds p := hA0
  rw [Tryz.params5] at hA hval hsz
  obtain ⟨v0, vs0, d0, ds0, p0, q0, hargs, rfl, rfl, h0, r0⟩ := trodAll_cons hA
  obtain ⟨v1, vs1, d1, ds1, p1, q1, rfl, rfl, rfl, h1, r1⟩ := trodAll_cons r0
  obtain ⟨v2, vs2, d2, ds2, p2, q2, rfl, rfl, rfl, h2, r2⟩ := trodAll_cons r1
  obtain ⟨rfl, rfl, rfl⟩ := trodAll_nil r2
  obtain rfl : args = #[v0, v1, v2] := by cases args; simp_all
  obtain ⟨rfl, rfl⟩ := trodVars_none hV
  have k0 := h0
  have lt0 : ∀ x ∈ p0, x.block < W.heap.size := by obtain ⟨m, hm⟩ := k0; exact DataW.trod_lt m _ _ _ hm
  obtain ⟨A0, c0, l0, e0, x0, y0, z0⟩ := open_bytes (hval 0 48 v0 rfl rfl) h0
  have w0 : Bytes W A0 l0 := bytes_of x0 y0 z0 fun es sp hd => sized_slice hsz (j := 0) (t := 48) (by rfl) (by rw [hd]; rfl) Tryz.underlying48
  have k1 := h1
  have lt1 : ∀ x ∈ p1, x.block < W.heap.size := by obtain ⟨m, hm⟩ := k1; exact DataW.trod_lt m _ _ _ hm
  obtain ⟨A1, c1, l1, e1, x1, y1, z1⟩ := open_bytes (hval 1 48 v1 rfl rfl) h1
  have w1 : Bytes W A1 l1 := bytes_of x1 y1 z1 fun es sp hd => sized_slice hsz (j := 1) (t := 48) (by rfl) (by rw [hd]; rfl) Tryz.underlying48
  obtain ⟨a2, rfl, rfl, rfl, w2⟩ := open_int Tryz.underlying3 (hval 2 3 v2 rfl rfl) h2
  clear hA0 hval0
  subst e0
  subst e1
  refine (scaleShown_walk A0 c0 l0 A1 c1 l1 a2 W w0 w1).mono fun e W' ⟨he, bel⟩ => ?_
  subst he
  exact ⟨_, rfl, _, _, _, [], _, [], hW', trodAll_mk1 (shut_bool Tryz.underlying4 _), (trodAll_cons_mk (Below.trod laidOut (by kernel_rfl) (of_decide_eq_true (by kernel_rfl)) k0 bel lt0) (trodAll_cons_mk (Below.trod laidOut (by kernel_rfl) (of_decide_eq_true (by kernel_rfl)) k1 bel lt1) (trodAll_cons_mk (shut_int Tryz.underlying3 w2) trodAll_mk0))), rfl, bel.frame _, fun h => by cases h⟩
set_option maxRecDepth 100000
theorem scaleShown_j1 : (Rows.scaleShownRow.inPlace == Tryz.pinned.checked.prog.inPlace 5) = true := by kernel_rfl
theorem scaleShown_j2 : (Rows.scaleShownRow.unfollowed == Tryz.pinned.checked.prog.unfollowed 5) = true := by kernel_rfl
theorem scaleShown_j3 : (Rows.scaleShownRow.recurses == Tryz.pinned.checked.prog.recurses 5) = true := by kernel_rfl
theorem scaleShown_j4 : (Rows.scaleShownRow.named == Tryz.pinned.checked.prog.varsNamed 5) = true := by kernel_rfl
theorem scaleShown_joined : joinedFacts Tryz.pinned.checked.prog 5 Tryz.f5 Rows.scaleShownSpec Rows.scaleShownRow = true := by
  unfold joinedFacts
  rw [scaleShown_j1, scaleShown_j2, scaleShown_j3, scaleShown_j4]
  kernel_rfl
theorem scaleShown_inst : Tryz.f5.isInstance Tryz.pinned.checked.prog Rows.scaleShownRow.origin Rows.scaleShownRow.targs := of_decide_eq_true (by kernel_rfl)
theorem scaleShown_wrap : Tryz.f5.isWrapper Tryz.pinned.checked.prog Rows.scaleShownRow.wrapper Rows.scaleShownRow.mainSum := by
  unfold Func.isWrapper; first | (rw [if_pos (by decide +kernel)]; kernel_rfl) | (rw [if_neg (by decide +kernel)]; exact ⟨rfl, rfl⟩)
theorem scaleShown_named : Tryz.pinned.checked.prog.funcNamed Rows.scaleShownRow.func = some 5 := by kernel_rfl
theorem scaleShown_proved : Rows.ScaleShownSaid :=
  OpenClaim.holds_of_wide 5 Tryz.f5 rfl rfl rfl rfl rfl rfl rfl ⟨rfl, rfl, rfl, rfl, rfl⟩ rfl rfl rfl rfl rfl scaleShown_named Tryz.func5 scaleShown_joined scaleShown_inst scaleShown_wrap
    (fun os started H enc _ => scaleShown_lifted os started H enc)
#print axioms scaleShown_proved
end Go.Proofs.YtcdjoegihmfanaaGreat
