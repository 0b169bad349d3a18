/- ScaleDrifts: proved, for every two lists of bytes; no condition. -/
import Derived.Test.YtcdjoegihmfanaaGreatLwDrifts
import Derived.Test.YtcdjoegihmfanaaGreatOpC
import Derived.Test.YtcdjoegihmfanaaGreatRows
namespace Go.Proofs.YtcdjoegihmfanaaGreat
open Go.ChangeShapes Go.WideShapes Go.ChangeAt Go.RowKit Go.Joins
set_option linter.unusedVariables false
set_option maxRecDepth 100000 in
theorem scaleDrifts_lifted (os : Os) (started : os.Started) (H : Type) (enc : TypeId × Value → H) :
    ReturnsInHanded {} Tryz.checked os 13 .any (Rows.scaleDriftsSpec.pre6 enc Tryz.prog Tryz.f13 Rows.scaleDriftsRow.domain false) (Rows.scaleDriftsSpec.post enc Tryz.prog Tryz.f13 false true false false) := by
  refine returnsInHanded_of_change_sized (C := Tryz.checked) own started (by kernel_rfl) Tryz.func13
    (ChangeSpec.witness6 (enc := enc) (C := Tryz.checked) false ⟨#[], #[.slice none 0 0, .slice none 0 0], []⟩ 8 (by kernel_rfl) (by kernel_rfl) (by kernel_rfl) (by kernel_rfl)) ?_
  intro W base args ds gs before hval0 hW hcnd hsz0 _
  have hsz : (DataW.weightsEach Tryz.prog (Tryz.f13.params.toList ++ Rows.scaleDriftsSpec.plain.varTypes Tryz.prog) (ds ++ gs)).all (· ≤ reachBytes) = true := hsz0
  have hval : ∀ (j : Nat) t v, Tryz.f13.params[j]? = some t → args[j]? = some v → Value.okWide Tryz.prog W .any base t v := hval0
  have hW' := hW
  obtain ⟨p, q, hA0, hV, rfl, hfz, hnd⟩ := hW
  have hA : DataW.TrodAll enc Tryz.prog W 0 (fun _ => true) true Tryz.f13.params.toList args.toList ds p := hA0
  rw [Tryz.params13] at hA hval hsz
  obtain ⟨v0, vs0, d0, ds0, p0, q0, hargs, rfl, rfl, h0, r0⟩ := trodAll_cons hA
  obtain ⟨v1, vs1, d1, ds1, p1, q1, rfl, rfl, rfl, h1, r1⟩ := trodAll_cons r0
  obtain ⟨rfl, rfl, rfl⟩ := trodAll_nil r1
  obtain rfl : args = #[v0, v1] := by cases args; simp_all
  obtain ⟨rfl, rfl⟩ := trodVars_none hV
  have k0 := h0
  have lt0 : ∀ x ∈ p0, x.block < W.heap.size := by obtain ⟨m, hm⟩ := k0; exact DataW.trod_lt m _ _ _ hm
  obtain ⟨A0, c0, l0, e0, x0, y0, z0⟩ := open_bytes (hval 0 48 v0 rfl rfl) h0
  have w0 : Bytes W A0 l0 := bytes_of x0 y0 z0 fun es sp hd => sized_slice hsz (j := 0) (t := 48) (by rfl) (by rw [hd]; rfl) Tryz.underlying48
  have k1 := h1
  have lt1 : ∀ x ∈ p1, x.block < W.heap.size := by obtain ⟨m, hm⟩ := k1; exact DataW.trod_lt m _ _ _ hm
  obtain ⟨A1, c1, l1, e1, x1, y1, z1⟩ := open_bytes (hval 1 48 v1 rfl rfl) h1
  have w1 : Bytes W A1 l1 := bytes_of x1 y1 z1 fun es sp hd => sized_slice hsz (j := 1) (t := 48) (by rfl) (by rw [hd]; rfl) Tryz.underlying48
  clear hA0 hval0
  subst e0
  subst e1
  refine (scaleDrifts_walk A0 c0 l0 A1 c1 l1 W w0 w1).mono fun e W' ⟨he, bel⟩ => ?_
  subst he
  exact ⟨_, rfl, _, _, _, [], _, [], hW', trodAll_mk1 (shut_bool Tryz.underlying4 _), (trodAll_cons_mk (Below.trod laidOut (by kernel_rfl) (of_decide_eq_true (by kernel_rfl)) k0 bel lt0) (trodAll_cons_mk (Below.trod laidOut (by kernel_rfl) (of_decide_eq_true (by kernel_rfl)) k1 bel lt1) trodAll_mk0)), rfl, bel.frame _, fun h => by cases h⟩
set_option maxRecDepth 100000
theorem scaleDrifts_j1 : (Rows.scaleDriftsRow.inPlace == Tryz.pinned.checked.prog.inPlace 13) = true := by kernel_rfl
theorem scaleDrifts_j2 : (Rows.scaleDriftsRow.unfollowed == Tryz.pinned.checked.prog.unfollowed 13) = true := by kernel_rfl
theorem scaleDrifts_j3 : (Rows.scaleDriftsRow.recurses == Tryz.pinned.checked.prog.recurses 13) = true := by kernel_rfl
theorem scaleDrifts_j4 : (Rows.scaleDriftsRow.named == Tryz.pinned.checked.prog.varsNamed 13) = true := by kernel_rfl
theorem scaleDrifts_joined : joinedFacts Tryz.pinned.checked.prog 13 Tryz.f13 Rows.scaleDriftsSpec Rows.scaleDriftsRow = true := by
  unfold joinedFacts
  rw [scaleDrifts_j1, scaleDrifts_j2, scaleDrifts_j3, scaleDrifts_j4]
  kernel_rfl
theorem scaleDrifts_inst : Tryz.f13.isInstance Tryz.pinned.checked.prog Rows.scaleDriftsRow.origin Rows.scaleDriftsRow.targs := of_decide_eq_true (by kernel_rfl)
theorem scaleDrifts_wrap : Tryz.f13.isWrapper Tryz.pinned.checked.prog Rows.scaleDriftsRow.wrapper Rows.scaleDriftsRow.mainSum := by
  unfold Func.isWrapper; first | (rw [if_pos (by decide +kernel)]; kernel_rfl) | (rw [if_neg (by decide +kernel)]; exact ⟨rfl, rfl⟩)
theorem scaleDrifts_named : Tryz.pinned.checked.prog.funcNamed Rows.scaleDriftsRow.func = some 13 := by kernel_rfl
theorem scaleDrifts_proved : Rows.ScaleDriftsSaid :=
  OpenClaim.holds_of_wide 13 Tryz.f13 rfl rfl rfl rfl rfl rfl rfl ⟨rfl, rfl, rfl, rfl, rfl⟩ rfl rfl rfl rfl rfl scaleDrifts_named Tryz.func13 scaleDrifts_joined scaleDrifts_inst scaleDrifts_wrap
    (fun os started H enc _ => scaleDrifts_lifted os started H enc)
#print axioms scaleDrifts_proved
end Go.Proofs.YtcdjoegihmfanaaGreat
