/- What ScaleDrifts asks of the functions that compute: plain, over the walks' words. -/
import Derived.Test.YtcdjoegihmfanaaGreatG21
import Derived.Test.YtcdjoegihmfanaaGreatG14
import Derived.Test.YtcdjoegihmfanaaGreatG15
import Derived.Test.YtcdjoegihmfanaaGreatG11
namespace Go.Proofs.YtcdjoegihmfanaaGreat
open Go.RowKit
set_option linter.unusedVariables false
/-- The found drift, and the pairs. -/
def fdD (e0 e1 : Int) (ps : List Pr) (n : Int) : Int × List (Int × Int) := findG ps (groupsG (spI e0 e1 ps) (ordL ps n))
def apD (e0 e1 : Int) (ps : List Pr) (n : Int) : List (Nat × Nat) := apartG (spI e0 e1 ps) (groupsG (spI e0 e1 ps) (ordL ps n))
theorem ordL_len {ps : List Pr} (ho : Once ps) (n : Int) : (ordL ps n).length ≤ ps.length := by
  have hL := ordL_is ho n
  have := (List.Nodup.length_le_of_subset (l₁ := ordL ps n) (l₂ := List.range ps.length) ?_ ?_)
  · rwa [List.length_range] at this
  · refine hL.1.imp fun {a b} hab e => ?_
    subst e; omega
  · intro i hi
    exact List.mem_range.2 ((hL.2 i).1 hi).1
theorem found_ok {e0 e1 : Int} {ps : List Pr} {ts : List Tr} {n : Int} (h : BkOk e0 e1 ps ts) (hn : n = 0 ∨ n = 1) (hg : grCode e0 e1 ps ts n = 0) : ckD (fdD e0 e1 ps n).1 (fdD e0 e1 ps n).2 = 0 ∧ ((fdD e0 e1 ps n).2.length : Int) = fewE e0 e1 ps ts n ∧ fitE e0 e1 ps ts n (fdD e0 e1 ps n).1 (fdD e0 e1 ps n).2 = true ∧ fitCode e0 e1 ps ts n (fdD e0 e1 ps n).1 (fdD e0 e1 ps n).2 = 0 := by
  have hL := ordL_is h.once n
  have hlen := ordL_len h.once n
  have hl := h.lp
  have hs := gr_ok h hn hg
  obtain ⟨h1, h2, h3⟩ := find_ok hs hL.1 (fun i hi => by
    have := ((hL.2 i).1 hi).1
    rw [pAt_eq this]
    exact (h.pr _ (List.getElem_mem _)).1) (by omega)
  refine ⟨h1, ?_, (fitE_iff h hn h1).2 fun i hi hb => h3 i ((hL.2 i).2 ⟨hi, hb⟩), fit_mk h hn h1⟩
  unfold fewE
  rw [if_pos hg]
  unfold fewN fdD
  rw [h2]
  omega
theorem natQ_natPs (L : List (Nat × Nat)) : natQ (natPs L) = L := by
  unfold natQ natPs
  rw [List.map_map]
  conv => rhs; rw [← List.map_id L]
  exact List.map_congr_left fun p _ => by simp
theorem isPf_mk {ps : List Pr} {n : Int} {i : Nat} (hi : i < ps.length) (hb : (pAt ps i).b = n) : isPf ps n (i : Nat) = true := by
  unfold isPf
  rw [inB_iff.2 (show 0 ≤ (i : Int) ∧ (i : Int) ≤ (ps.length : Int) - 1 by omega), Int.toNat_natCast, decide_eq_true hb]
  rfl
theorem pairs_ok {e0 e1 : Int} {ps : List Pr} {ts : List Tr} {n : Int} (h : BkOk e0 e1 ps ts) (hn : n = 0 ∨ n = 1) (hg : grCode e0 e1 ps ts n = 0) :
    ((apD e0 e1 ps n).length : Int) = fewE e0 e1 ps ts n ∧ provE e0 e1 ps ts n (natPs (apD e0 e1 ps n)) = true ∧ provCode e0 e1 ps ts n (natPs (apD e0 e1 ps n)) = 0 ∧
      (∀ p ∈ apD e0 e1 ps n, p.1 ∈ ordL ps n ∧ p.2 ∈ ordL ps n) ∧ ∃ m, pairsB (spI e0 e1 ps) ps m (apD e0 e1 ps n) = true := by
  have hL := ordL_is h.once n
  have hlen := ordL_len h.once n
  have hl := h.lp
  have hs := gr_ok h hn hg
  have hgl := groupsG_le (spI e0 e1 ps) (ordL ps n)
  have key : (apD e0 e1 ps n).length = (groupsG (spI e0 e1 ps) (ordL ps n)).length - 1 ∧ pairsB (spI e0 e1 ps) ps (-1) (apD e0 e1 ps n) = true ∧ ∀ p ∈ apD e0 e1 ps n, p.1 ∈ ordL ps n ∧ p.2 ∈ ordL ps n := by
    have hflat := groupsG_flat (spI e0 e1 ps) (ordL ps n)
    have hgood := groupsG_good hs
    have hlink := groupsG_linked (spI e0 e1 ps) (ordL ps n)
    unfold apD
    cases hgs : groupsG (spI e0 e1 ps) (ordL ps n) with
    | nil => exact ⟨rfl, rfl, fun p hp => absurd hp (by simp [apartG])⟩
    | cons g t =>
      rw [hgs] at hflat hgood hlink
      obtain ⟨a, b, c⟩ := apart_ok t g (-1) hgood hlink (by rw [hflat]; exact hL.1) (by
        have hm : g.ps.headD 0 ∈ ordL ps n := by
          rw [← hflat, List.flatMap_cons]
          refine List.mem_append_left _ ?_
          cases hps : g.ps with
          | nil => exact absurd hps (ps_ne (hgood g (by simp)))
          | cons x r => simp
        have := ((hL.2 _).1 hm).1
        rw [pAt_eq this]
        have := (h.pr _ (List.getElem_mem this)).1
        omega)
      refine ⟨by rw [a]; simp, b, fun p hp => ?_⟩
      have := c p hp
      rwa [hflat] at this
  obtain ⟨k1, k2, k3⟩ := key
  have hc : provCode e0 e1 ps ts n (natPs (apD e0 e1 ps n)) = 0 := by
    unfold provCode
    rw [ask_mk h hn (by omega), if_neg (by simp)]
    have ha : (natPs (apD e0 e1 ps n)).all (arePf ps n) = true := by
      rw [List.all_eq_true]
      intro q hq
      simp only [natPs, List.mem_map] at hq
      obtain ⟨p, hp, rfl⟩ := hq
      obtain ⟨a, b⟩ := k3 p hp
      obtain ⟨a1, a2⟩ := (hL.2 _).1 a
      obtain ⟨b1, b2⟩ := (hL.2 _).1 b
      unfold arePf
      rw [isPf_mk a1 a2, isPf_mk b1 b2]
      rfl
    rw [ha, if_neg (by simp), if_neg]
    simp only [natPs, List.length_map]
    omega
  refine ⟨?_, ?_, hc, k3, -1, k2⟩
  · unfold fewE
    rw [if_pos hg]
    unfold fewN
    rw [k1]; omega
  · unfold provE
    rw [if_pos hc, natQ_natPs]
    exact k2
theorem when_none {e0 e1 : Int} {ps : List Pr} {ts : List Tr} {n : Int} (h : BkOk e0 e1 ps ts) (hn : n = 0 ∨ n = 1) (hg : grCode e0 e1 ps ts n = 0) : whenCode e0 e1 ps ts n (fewE e0 e1 ps ts n) = 1 := by
  have hi : inB (fewE e0 e1 ps ts n) 0 (((groupsG (spI e0 e1 ps) (ordL ps n)).length : Int) - 2) = false := by
    rw [inB_no]
    unfold fewE
    rw [if_pos hg]
    unfold fewN
    omega
  unfold whenCode
  rw [hg, if_neg (by simp), hi, if_pos rfl]
/-- Each change of a drift that fits with the fewest lies where it can be, and between both proofs of a pair. -/
theorem when_in {e0 e1 : Int} {ps : List Pr} {ts : List Tr} {n f : Int} {cs : List (Int × Int)} (h : BkOk e0 e1 ps ts) (hn : n = 0 ∨ n = 1) (hg : grCode e0 e1 ps ts n = 0) (hk : ckD f cs = 0) (hinc : incD cs = true) (hf : fitE e0 e1 ps ts n f cs = true) (hl : (cs.length : Int) = fewE e0 e1 ps ts n) {k : Nat} (hkl : k < cs.length) :
    whenCode e0 e1 ps ts n (k : Nat) = 0 ∧ inB cs[k].1 (whenE e0 e1 ps ts n (k : Nat)).1 (whenE e0 e1 ps ts n (k : Nat)).2 = true := by
  have hs := gr_ok h hn hg
  have hL := ordL_is h.once n
  have hfd := (fitE_iff h hn hk).1 hf
  unfold fewE at hl
  rw [if_pos hg] at hl
  unfold fewN at hl
  obtain ⟨a, b, r, s, g, t, ha, hga, hb, htb, h1, h2⟩ := when_between hs hL.1 hinc (fun i hi => by
    obtain ⟨x, y⟩ := (hL.2 i).1 hi
    exact hfd i x y) (by omega) (List.getElem?_eq_getElem hkl)
  have hc : whenCode e0 e1 ps ts n (k : Nat) = 0 := by
    unfold whenCode
    rw [hg, if_neg (by simp), inB_iff.2 (show 0 ≤ (k : Int) ∧ (k : Int) ≤ ((groupsG (spI e0 e1 ps) (ordL ps n)).length : Int) - 2 by omega), if_neg (by simp)]
  refine ⟨hc, ?_⟩
  unfold whenE
  rw [if_pos hc, Int.toNat_natCast]
  simp only [List.getD_eq_getElem?_getD, ha, hb, Option.getD_some]
  unfold hdP
  rw [hga, htb]
  exact inB_iff.2 ⟨h1, h2⟩
theorem pairs_at {sp : Nat → Int × Int} {ps : List Pr} : ∀ {L : List (Nat × Nat)} {m : Int}, pairsB sp ps m L = true → ∀ p ∈ L, (pAt ps p.1).m < (pAt ps p.2).m ∧ exclI sp p.1 p.2 = true
  | [], _, _, p, hp => absurd hp (by simp)
  | q :: t, m, h, p, hp => by
    simp only [pairsB, Bool.and_eq_true, decide_eq_true_eq] at h
    rcases List.mem_cons.1 hp with rfl | hp
    · exact ⟨h.1.1.1, h.1.2⟩
    · exact pairs_at h.2 p hp
theorem pair_in {e0 e1 : Int} {ps : List Pr} {ts : List Tr} {n f : Int} {cs : List (Int × Int)} (h : BkOk e0 e1 ps ts) (hn : n = 0 ∨ n = 1) (hg : grCode e0 e1 ps ts n = 0) (hk : ckD f cs = 0) (hf : fitE e0 e1 ps ts n f cs = true) {p : Nat × Nat} (hp : p ∈ apD e0 e1 ps n) :
    p.1 < ps.length ∧ p.2 < ps.length ∧ (cs.any fun c => decide ((pAt ps p.1).m < c.1) && decide (c.1 ≤ (pAt ps p.2).m)) = true := by
  obtain ⟨_, _, _, k3, m, k4⟩ := pairs_ok h hn hg
  have hL := ordL_is h.once n
  have hfd := (fitE_iff h hn hk).1 hf
  obtain ⟨a, b⟩ := k3 p hp
  obtain ⟨a1, a2⟩ := (hL.2 _).1 a
  obtain ⟨b1, b2⟩ := (hL.2 _).1 b
  obtain ⟨c1, c2⟩ := pairs_at k4 p hp
  obtain ⟨c, hc, h1, h2⟩ := pair_change c2 c1 (hfd _ a1 a2) (hfd _ b1 b2)
  refine ⟨a1, b1, ?_⟩
  rw [List.any_eq_true]
  exact ⟨c, hc, by simp [h1, h2]⟩
end Go.Proofs.YtcdjoegihmfanaaGreat
