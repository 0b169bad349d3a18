/- The fewest that can be wrong, the first in lexicographic order: by all sets, and by growing lists. Proofs that no drift fits, and the fewest that can be wrong: what is told of them. Clash: proofs that no drift fits. loaded: what trips ask of both bridges. The values of a drift at events in order change no more often than the drift does. -/
import Init
import Derived.Test.YtcdjoegihmfanaaGreatG3
import Derived.Test.YtcdjoegihmfanaaGreatG11
import Derived.Carry
namespace Go.Proofs.YtcdjoegihmfanaaGreat
set_option linter.unusedVariables false
def lexLt : List Nat → List Nat → Bool
  | [], [] => false
  | [], _ :: _ => true
  | _ :: _, [] => false
  | a :: s, b :: t => decide (a < b) || (decide (a = b) && lexLt s t)
theorem lexLt_irrefl : ∀ a, lexLt a a = false
  | [] => rfl
  | a :: s => by simp [lexLt, lexLt_irrefl s]
theorem lexLt_total : ∀ a b, lexLt a b = false → lexLt b a = false → a = b
  | [], [], _, _ => rfl
  | [], _ :: _, h, _ => by simp [lexLt] at h
  | _ :: _, [], _, h => by simp [lexLt] at h
  | a :: s, b :: t, h, k => by
    simp only [lexLt, Bool.or_eq_false_iff, decide_eq_false_iff_not, Bool.and_eq_false_iff] at h k
    have e : a = b := by omega
    subst e
    rw [lexLt_total s t (by rcases h.2 with h | h; exact absurd rfl h; exact h) (by rcases k.2 with k | k; exact absurd rfl k; exact k)]
theorem lexLt_trans : ∀ a b c, lexLt b a = false → lexLt c b = false → lexLt c a = false
  | _, _, [], h, k => by
    rename_i a b
    match a, b with
    | [], [] => rfl
    | [], _ :: _ => rfl
    | _ :: _, [] => simp [lexLt] at h
    | _ :: _, _ :: _ => simp [lexLt] at k
  | [], b, c :: t, _, _ => rfl
  | a :: s, [], c :: t, h, k => by simp [lexLt] at h
  | a :: s, b :: t, c :: r, h, k => by
    simp only [lexLt, Bool.or_eq_false_iff, decide_eq_false_iff_not, Bool.and_eq_false_iff] at h k ⊢
    refine ⟨by omega, ?_⟩
    by_cases e : c = a
    · have e1 : b = a := by omega
      have e2 : c = b := by omega
      exact .inr (lexLt_trans s t r (by rcases h.2 with h | h; exact absurd e1 h; exact h) (by rcases k.2 with k | k; exact absurd e2 k; exact k))
    · exact .inl e
/-- A list is before another one: it is shorter, or as long and no greater. -/
def noAfter (a b : List Nat) : Prop := a.length < b.length ∨ (a.length = b.length ∧ lexLt b a = false)
theorem noAfter_refl (a : List Nat) : noAfter a a := .inr ⟨rfl, lexLt_irrefl a⟩
theorem noAfter_antisymm {a b : List Nat} (h : noAfter a b) (k : noAfter b a) : a = b := by
  rcases h with h | ⟨h1, h2⟩ <;> rcases k with k | ⟨k1, k2⟩
  · omega
  · omega
  · omega
  · exact lexLt_total a b k2 h2
theorem noAfter_trans {a b c : List Nat} (h : noAfter a b) (k : noAfter b c) : noAfter a c := by
  rcases h with h | ⟨h1, h2⟩ <;> rcases k with k | ⟨k1, k2⟩
  · exact .inl (by omega)
  · exact .inl (by omega)
  · exact .inl (by omega)
  · exact .inr ⟨by omega, lexLt_trans _ _ _ h2 k2⟩
/-- The first of the shortest lists of a kind. -/
def FirstW (P : List Nat → Bool) (own out : List Nat) : Prop := out.Sublist own ∧ P out = true ∧ ∀ l, l.Sublist own → P l = true → noAfter out l
theorem FirstW.uniq {P : List Nat → Bool} {own a b : List Nat} (h : FirstW P own a) (k : FirstW P own b) : a = b := noAfter_antisymm (h.2.2 b k.1 k.2.1) (k.2.2 a h.1 h.2.1)
/-- The set with these bits. -/
def bitsub : List Nat → Nat → List Nat
  | [], _ => []
  | i :: t, set => if set % 2 = 1 then i :: bitsub t (set / 2) else bitsub t (set / 2)
theorem bitsub_sub : ∀ (own : List Nat) (set : Nat), (bitsub own set).Sublist own
  | [], _ => List.Sublist.refl _
  | i :: t, set => by
    simp only [bitsub]
    split
    · exact (bitsub_sub t _).cons_cons i
    · exact (bitsub_sub t _).cons i
theorem sub_bitsub : ∀ {own l : List Nat}, l.Sublist own → ∃ set, set < 2 ^ own.length ∧ bitsub own set = l
  | [], l, h => ⟨0, by simp, by simp [bitsub]; exact List.sublist_nil.1 h⟩
  | i :: t, l, h => by
    cases h with
    | cons _ h =>
      obtain ⟨s, h1, h2⟩ := sub_bitsub h
      exact ⟨2 * s, by simp [Nat.pow_succ]; omega, by simp [bitsub, h2]⟩
    | cons_cons _ h =>
      obtain ⟨s, h1, h2⟩ := sub_bitsub h
      refine ⟨2 * s + 1, by simp [Nat.pow_succ]; omega, ?_⟩
      have e1 : (2 * s + 1) % 2 = 1 := by omega
      have e2 : (2 * s + 1) / 2 = s := by omega
      simp [bitsub, e1, e2, h2]
/-- The program's way: all sets, one after the other. -/
def wrongS (P : List Nat → Bool) (own : List Nat) : Nat → Option (List Nat)
  | 0 => none
  | k + 1 =>
    match wrongS P own k with
    | none => if P (bitsub own k) then some (bitsub own k) else none
    | some out => if out.length < (bitsub own k).length ∨ ((bitsub own k).length = out.length ∧ lexLt (bitsub own k) out = false) then some out else if P (bitsub own k) then some (bitsub own k) else some out
theorem wrongS_spec (P : List Nat → Bool) (own : List Nat) : ∀ k, match wrongS P own k with
    | none => ∀ j, j < k → P (bitsub own j) = false
    | some out => out.Sublist own ∧ P out = true ∧ ∀ j, j < k → P (bitsub own j) = true → noAfter out (bitsub own j)
  | 0 => fun j h => absurd h (by omega)
  | k + 1 => by
    have ih := wrongS_spec P own k
    simp only [wrongS]
    cases hw : wrongS P own k with
    | none =>
      rw [hw] at ih
      simp only at ih ⊢
      by_cases hp : P (bitsub own k) = true
      · rw [if_pos hp]
        refine ⟨bitsub_sub own k, hp, fun j hj hpj => ?_⟩
        by_cases e : j = k
        · subst e; exact noAfter_refl _
        · rw [ih j (by omega)] at hpj; simp at hpj
      · rw [if_neg hp]
        intro j hj
        by_cases e : j = k
        · subst e; simpa using hp
        · exact ih j (by omega)
    | some out =>
      rw [hw] at ih
      obtain ⟨h1, h2, h3⟩ := ih
      simp only
      by_cases hc : out.length < (bitsub own k).length ∨ ((bitsub own k).length = out.length ∧ lexLt (bitsub own k) out = false)
      · rw [if_pos hc]
        refine ⟨h1, h2, fun j hj hpj => ?_⟩
        by_cases e : j = k
        · subst e
          rcases hc with hc | ⟨hc, hd⟩
          · exact .inl hc
          · exact .inr ⟨hc.symm, hd⟩
        · exact h3 j (by omega) hpj
      · rw [if_neg hc]
        by_cases hp : P (bitsub own k) = true
        · rw [if_pos hp]
          refine ⟨bitsub_sub own k, hp, fun j hj hpj => ?_⟩
          by_cases e : j = k
          · subst e; exact noAfter_refl _
          · have hb : noAfter (bitsub own k) out := by
              by_cases e1 : (bitsub own k).length < out.length
              · exact .inl e1
              · have e2 : (bitsub own k).length = out.length := by
                  by_cases e3 : out.length < (bitsub own k).length
                  · exact absurd (.inl e3) hc
                  · omega
                refine .inr ⟨e2, ?_⟩
                by_cases e4 : lexLt (bitsub own k) out = false
                · exact absurd (.inr ⟨e2, e4⟩) hc
                · rw [Bool.eq_false_iff]
                  intro e5
                  have e6 : lexLt (bitsub own k) out = true := by simpa using e4
                  have key : ∀ a b, lexLt a b = true → lexLt b a = true → False := by
                    intro a
                    induction a with
                    | nil => intro b h k; cases b <;> simp [lexLt] at h k
                    | cons x s ihh =>
                      intro b h k
                      cases b with
                      | nil => simp [lexLt] at h
                      | cons y t =>
                        simp only [lexLt, Bool.or_eq_true, decide_eq_true_eq, Bool.and_eq_true] at h k
                        rcases h with h | ⟨h, h'⟩ <;> rcases k with k | ⟨k, k'⟩
                        · omega
                        · omega
                        · omega
                        · exact ihh t h' k'
                  exact key _ _ e6 e5
            exact noAfter_trans hb (h3 j (by omega) hpj)
        · rw [if_neg hp]
          refine ⟨h1, h2, fun j hj hpj => ?_⟩
          by_cases e : j = k
          · subst e; exact absurd hpj hp
          · exact h3 j (by omega) hpj
theorem wrongS_first {P : List Nat → Bool} {own : List Nat} (h : P own = true) : ∃ out, wrongS P own (2 ^ own.length) = some out ∧ FirstW P own out := by
  have hs := wrongS_spec P own (2 ^ own.length)
  cases hw : wrongS P own (2 ^ own.length) with
  | none =>
    rw [hw] at hs
    obtain ⟨s, h1, h2⟩ := sub_bitsub (List.Sublist.refl own)
    have := hs s h1
    rw [h2, h] at this; simp at this
  | some out =>
    rw [hw] at hs
    refine ⟨out, rfl, hs.1, hs.2.1, fun l hl hp => ?_⟩
    obtain ⟨s, h1, h2⟩ := sub_bitsub hl
    have := hs.2.2 s h1
    rw [h2] at this
    exact this hp
/-- The reference's way: lists of so many, the first one in lexicographic order. -/
def leaveR (P : List Nat → Bool) : List Nat → List Nat → Nat → Option (List Nat)
  | pre, _, 0 => if P pre then some [] else none
  | _, [], _ + 1 => none
  | pre, i :: t, m + 1 =>
    match leaveR P (pre ++ [i]) t m with
    | some l => some (i :: l)
    | none => leaveR P pre t (m + 1)
theorem leaveR_spec (P : List Nat → Bool) : ∀ (own pre : List Nat) (m : Nat), own.Pairwise (· < ·) → match leaveR P pre own m with
    | none => ∀ l, l.Sublist own → l.length = m → P (pre ++ l) = false
    | some out => out.Sublist own ∧ out.length = m ∧ P (pre ++ out) = true ∧ ∀ l, l.Sublist own → l.length = m → P (pre ++ l) = true → lexLt l out = false
  | own, pre, 0, _ => by
    unfold leaveR
    by_cases h : P pre = true
    · rw [if_pos h]
      refine ⟨List.nil_sublist _, rfl, by simpa using h, fun l _ hl _ => ?_⟩
      match l, hl with
      | [], _ => rfl
    · rw [if_neg h]
      intro l _ hl
      match l, hl with
      | [], _ => simpa using h
  | [], pre, m + 1, _ => by
    unfold leaveR
    intro l hl hm
    rw [List.sublist_nil.1 hl] at hm
    simp at hm
  | i :: t, pre, m + 1, hp => by
    rw [List.pairwise_cons] at hp
    have ih1 := leaveR_spec P t (pre ++ [i]) m hp.2
    have ih2 := leaveR_spec P t pre (m + 1) hp.2
    simp only [leaveR]
    cases h1 : leaveR P (pre ++ [i]) t m with
    | some o =>
      rw [h1] at ih1
      obtain ⟨a, b, c, d⟩ := ih1
      refine ⟨a.cons_cons i, by simp [b], by simpa using c, fun l hl hm hpl => ?_⟩
      cases hl with
      | cons _ hl =>
        match l, hm with
        | x :: l, hm =>
          have hx := hp.1 x (hl.subset (by simp))
          simp [lexLt]; omega
      | cons_cons _ hl =>
        rename_i l
        have := d l hl (by simpa using hm) (by simpa using hpl)
        simp [lexLt, this]
    | none =>
      rw [h1] at ih1
      cases h2 : leaveR P pre t (m + 1) with
      | none =>
        rw [h2] at ih2
        intro l hl hm
        cases hl with
        | cons _ hl => exact ih2 l hl hm
        | cons_cons _ hl =>
          rename_i l
          have := ih1 l hl (by simpa using hm)
          simpa using this
      | some o =>
        rw [h2] at ih2
        obtain ⟨a, b, c, d⟩ := ih2
        refine ⟨a.cons i, b, c, fun l hl hm hpl => ?_⟩
        cases hl with
        | cons _ hl => exact d l hl hm hpl
        | cons_cons _ hl =>
          rename_i l
          have := ih1 l hl (by simpa using hm)
          rw [show pre ++ i :: l = pre ++ [i] ++ l by simp] at hpl
          rw [hpl] at this
          exact absurd this (by simp)
/-- The first of the lists that the reference seeks, by how many they are. -/
theorem leaveR_first {P : List Nat → Bool} {own : List Nat} (ho : own.Pairwise (· < ·)) {m : Nat} {out : List Nat} (h : leaveR P [] own m = some out) (hno : ∀ k, k < m → leaveR P [] own k = none) : FirstW P own out := by
  have hs := leaveR_spec P own [] m ho
  rw [h] at hs
  obtain ⟨a, b, c, d⟩ := hs
  refine ⟨a, by simpa using c, fun l hl hp => ?_⟩
  by_cases e : l.length < m
  · have := leaveR_spec P own [] l.length ho
    rw [hno _ e] at this
    have := this l hl rfl
    simp [hp] at this
  · by_cases e2 : l.length = m
    · exact .inr ⟨by omega, d l hl e2 (by simpa using hp)⟩
    · exact .inl (by omega)
theorem leaveR_some {P : List Nat → Bool} {own : List Nat} (ho : own.Pairwise (· < ·)) (h : P own = true) : ∃ o, leaveR P [] own own.length = some o := by
  have hs := leaveR_spec P own [] own.length ho
  cases hl : leaveR P [] own own.length with
  | some o => exact ⟨o, rfl⟩
  | none =>
    rw [hl] at hs
    have := hs own (List.Sublist.refl _) rfl
    simp [h] at this
end Go.Proofs.YtcdjoegihmfanaaGreat
namespace Go.Proofs.YtcdjoegihmfanaaGreat
set_option linter.unusedVariables false
theorem way_sub : ∀ {l k : List Ev} {xs : List Int}, k.Sublist l → fitsL l xs → ∃ ys, fitsL k ys ∧ chg ys ≤ chg xs ∧ ∀ a, chg (a :: ys) ≤ chg (a :: xs)
  | [], k, xs, h, hf => by
    rw [List.sublist_nil.1 h]
    exact ⟨[], trivial, by simp [chg], fun a => by simp [chg]⟩
  | e :: l, k, x :: xs, h, hf => by
    cases h with
    | cons _ h =>
      obtain ⟨ys, y1, y2, y3⟩ := way_sub h hf.2
      refine ⟨ys, y1, ?_, fun a => ?_⟩
      · have : chg xs ≤ chg (x :: xs) := by
          cases xs with
          | nil => simp [chg]
          | cons y t => simp only [chg]; omega
        omega
      · have h1 := y3 a
        have : chg (a :: xs) ≤ chg (a :: x :: xs) := by
          cases xs with
          | nil => simp [chg]
          | cons y t =>
            simp only [chg]
            by_cases h1 : a = y
            · rw [if_pos h1]; omega
            · rw [if_neg h1]
              by_cases h2 : a = x
              · subst h2; rw [if_pos rfl, if_neg h1]; omega
              · rw [if_neg h2]; omega
        omega
    | cons_cons _ h =>
      obtain ⟨ys, y1, y2, y3⟩ := way_sub h hf.2
      exact ⟨x :: ys, ⟨hf.1, y1⟩, y3 x, fun a => by simp only [chg]; have := y3 x; omega⟩
theorem some_sub {l k : List Ev} {c : Nat} (h : k.Sublist l) (hs : (sumsR l c).isSome = true) : (sumsR k c).isSome = true := by
  obtain ⟨xs, hx⟩ := sums_isSome.1 hs
  obtain ⟨ys, y1, y2, _⟩ := way_sub h hx.1
  exact sums_isSome.2 ⟨ys, y1, by have := hx.2; omega⟩
/-- Whether a drift fits those of the proofs that are not gone. -/
def feas (e0 e1 : Int) (ps : List Pr) (n : Int) (c : Nat) (gone : Nat → Bool) : Bool := (sumsR (((ordL ps n).filter fun i => !gone i).map (evI e0 e1 ps)) c).isSome
theorem filter_sub {α : Type} {p q : α → Bool} : ∀ {l : List α}, (∀ x ∈ l, p x = true → q x = true) → (l.filter p).Sublist (l.filter q)
  | [], _ => List.Sublist.refl _
  | a :: t, h => by
    have ih := filter_sub (l := t) fun x hx => h x (List.mem_cons_of_mem _ hx)
    by_cases hp : p a = true
    · rw [List.filter_cons_of_pos hp, List.filter_cons_of_pos (h a (by simp) hp)]
      exact ih.cons_cons a
    · rw [List.filter_cons_of_neg hp]
      by_cases hq : q a = true
      · rw [List.filter_cons_of_pos hq]; exact ih.cons a
      · rw [List.filter_cons_of_neg hq]; exact ih
theorem feas_mono {e0 e1 : Int} {ps : List Pr} {n : Int} {c : Nat} {g h : Nat → Bool} (hgh : ∀ i ∈ ordL ps n, g i = true → h i = true) (hf : feas e0 e1 ps n c g = true) : feas e0 e1 ps n c h = true := by
  refine some_sub (List.Sublist.map _ (filter_sub fun x hx hh => ?_)) hf
  cases hg : g x
  · rfl
  · rw [hgh x hx hg] at hh; cases hh
/-- Which proofs are gone, and which are told, behind the first ones. -/
def clashS (F : (Nat → Bool) → Bool) (own : Nat → Bool) : Nat → (Nat → Bool) × List Nat
  | 0 => (fun _ => false, [])
  | k + 1 =>
    if own k then
      (if F (fun i => decide (i = k) || (clashS F own k).1 i) then ((clashS F own k).1, (clashS F own k).2 ++ [k]) else (fun i => decide (i = k) || (clashS F own k).1 i, (clashS F own k).2))
    else clashS F own k
theorem clashS_spec {F : (Nat → Bool) → Bool} {own : Nat → Bool} (h0 : F (fun _ => false) = false) (hm : ∀ g h : Nat → Bool, (∀ i, g i = true → h i = true) → F g = true → F h = true) : ∀ k,
    F (clashS F own k).1 = false ∧ (∀ i, i ∈ (clashS F own k).2 ↔ i < k ∧ own i = true ∧ (clashS F own k).1 i = false) ∧ (∀ i, (clashS F own k).1 i = true → i < k ∧ own i = true) ∧
      ((clashS F own k).2.Pairwise (· < ·)) ∧ ∀ i ∈ (clashS F own k).2, F (fun j => decide (j = i) || (clashS F own k).1 j) = true
  | 0 => ⟨h0, fun i => by simp [clashS], fun i h => by simp [clashS] at h, by simp [clashS], fun i h => by simp [clashS] at h⟩
  | k + 1 => by
    obtain ⟨a, b, c, d, e⟩ := clashS_spec (own := own) h0 hm k
    simp only [clashS]
    by_cases ho : own k = true
    · rw [if_pos ho]
      by_cases hF : F (fun i => decide (i = k) || (clashS F own k).1 i) = true
      · rw [if_pos hF]
        refine ⟨a, fun i => ?_, fun i h => by have := c i h; exact ⟨by omega, this.2⟩, ?_, ?_⟩
        · simp only [List.mem_append, List.mem_singleton, b i]
          constructor
          · rintro (⟨h1, h2, h3⟩ | rfl)
            · exact ⟨by omega, h2, h3⟩
            · refine ⟨by omega, ho, ?_⟩
              rw [Bool.eq_false_iff]; intro h; have := (c i h).1; omega
          · rintro ⟨h1, h2, h3⟩
            by_cases e : i = k
            · exact .inr e
            · exact .inl ⟨by omega, h2, h3⟩
        · rw [List.pairwise_append]
          refine ⟨d, by simp, fun x hx y hy => ?_⟩
          simp at hy; subst hy
          exact ((b x).1 hx).1
        · intro i hi
          rcases List.mem_append.1 hi with hi | hi
          · exact e i hi
          · simp at hi; subst hi; exact hF
      · rw [if_neg hF]
        have hF' : F (fun i => decide (i = k) || (clashS F own k).1 i) = false := by simpa using hF
        refine ⟨hF', fun i => ?_, fun i h => ?_, d, fun i hi => ?_⟩
        · rw [b i]
          simp only [Bool.or_eq_false_iff, decide_eq_false_iff_not]
          constructor
          · rintro ⟨h1, h2, h3⟩; exact ⟨by omega, h2, by omega, h3⟩
          · rintro ⟨h1, h2, h3, h4⟩; exact ⟨by omega, h2, h4⟩
        · simp only [Bool.or_eq_true, decide_eq_true_eq] at h
          rcases h with rfl | h
          · exact ⟨by omega, ho⟩
          · have := c i h; exact ⟨by omega, this.2⟩
        · exact hm _ _ (fun j hj => by simp only [Bool.or_eq_true, decide_eq_true_eq] at hj ⊢; rcases hj with hj | hj; exact .inl hj; exact .inr (.inr hj)) (e i hi)
    · rw [if_neg ho]
      refine ⟨a, fun i => ?_, fun i h => by have := c i h; exact ⟨by omega, this.2⟩, d, e⟩
      rw [b i]
      constructor
      · rintro ⟨h1, h2, h3⟩; exact ⟨by omega, h2, h3⟩
      · rintro ⟨h1, h2, h3⟩
        refine ⟨?_, h2, h3⟩
        by_cases e : i = k
        · subst e; exact absurd h2 ho
        · omega
end Go.Proofs.YtcdjoegihmfanaaGreat
namespace Go.Proofs.YtcdjoegihmfanaaGreat
open Go.RowKit
set_option linter.unusedVariables false
attribute [local go_sem] run_makeMap
section
variable {α : Type} {E : Elm α} {P : Program} {k : TypeId} {w w' : World} {mb n : Nat} {f : Int → Option α}
theorem MI.ne_cell (hm : MI E P k w mb n f) {b o : Nat} {v : Value} (h : w.cell? ⟨b, o, none⟩ = some v) : b ≠ mb := by
  rintro rfl
  obtain ⟨D, ⟨es, clock, h1, _⟩, _⟩ := hm
  unfold World.cell? at h
  rw [h1] at h; cases h
theorem MI.keep (hm : MI E P k w mb n f) (hg : w.grownBy w' (some mb)) {b o : Nat} {v : Value} (h : w.cell? ⟨b, o, none⟩ = some v) (hb : b < w.heap.size) : w'.cell? ⟨b, o, none⟩ = some v :=
  (World.cell?_of_block (a := ⟨b, o, none⟩) (hg.block b hb (by intro e; injection e with e; exact hm.ne_cell h e))).trans h
theorem MI.rd (hm : MI E P k w mb n f) (hg : w.grownBy w' (some mb)) {A : Option Addr} {xs : List Value} (h : Rd w w.heap.size A xs) : Rd w' w'.heap.size A xs := fun hn => by
  obtain ⟨b, off, e, hb, hc⟩ := h hn
  exact ⟨b, off, e, Nat.lt_of_lt_of_le hb hg.size, fun j u hu => hm.keep hg (hc j u hu) hb⟩
theorem MI.gd (hm : MI E P k w mb n f) (hg : w.grownBy w' (some mb)) {g : Nat} {e0 e1 : Int} {PA : Option Addr} {c : Nat} {ps : List Pr} {TA : Option Addr} {d : Nat} {ts : List Tr} (h : Gd w g e0 e1 PA c ps TA d ts) : Gd w' g e0 e1 PA c ps TA d ts :=
  ⟨⟨Nat.lt_of_lt_of_le h.bk.lt hg.size, hm.keep hg h.bk.c0 h.bk.lt, hm.keep hg h.bk.c1 h.bk.lt, hm.keep hg h.bk.c2 h.bk.lt, hm.keep hg h.bk.c3 h.bk.lt⟩, hm.rd hg h.rp, hm.rd hg h.rt, h.cp, h.ct, h.ok⟩
end
theorem clashS_lt {F : (Nat → Bool) → Bool} {own : Nat → Bool} : ∀ k i, (clashS F own k).1 i = true → i < k
  | 0, i, h => by simp [clashS] at h
  | k + 1, i, h => by
    have ih := clashS_lt (F := F) (own := own) k i
    simp only [clashS] at h
    split at h
    · split at h
      · exact Nat.lt_succ_of_lt (ih h)
      · simp only [Bool.or_eq_true, decide_eq_true_eq] at h
        rcases h with rfl | h
        · omega
        · exact Nat.lt_succ_of_lt (ih h)
    · exact Nat.lt_succ_of_lt (ih h)
theorem clashS_len {F : (Nat → Bool) → Bool} {own : Nat → Bool} : ∀ k, (clashS F own k).2.length ≤ k
  | 0 => by simp [clashS]
  | k + 1 => by
    have ih := clashS_len (F := F) (own := own) k
    simp only [clashS]
    split
    · split
      · simp; omega
      · simp only; omega
    · omega
/-- Whether a drift fits the others. -/
def clF (e0 e1 : Int) (ps : List Pr) (n : Int) (ch : Nat) (G : Nat → Bool) : Bool := possB (spI e0 e1 ps) (butL ps n G) ch
def clOwn (ps : List Pr) (n : Int) (i : Nat) : Bool := decide ((pAt ps i).b = n)
def clCode (e0 e1 : Int) (ps : List Pr) (ts : List Tr) (n ch : Int) : Int := if askCode (ckBook e0 e1 ps ts) n ch ≠ 0 then askCode (ckBook e0 e1 ps ts) n ch else if possB (spI e0 e1 ps) (ordL ps n) ch.toNat then 1 else 0
def clL (e0 e1 : Int) (ps : List Pr) (ts : List Tr) (n ch : Int) : List Nat := if clCode e0 e1 ps ts n ch = 0 then (clashS (clF e0 e1 ps n ch.toNat) (clOwn ps n) ps.length).2 else []
/-- A list of numbers and an error, as results. -/
def LstE (l : List Nat) (code : Int) (w : World) (e : Ending) (w' : World) : Prop := ∃ v, e = .returned (.tuple #[v, .int .i64 code]) ∧ w'.ownsRow w.heap.size 3 1 v l.length (nums l) ∧ Below w.heap.size w w'
theorem LstE.mk' {l l' : List Nat} {code code' : Int} {w w' : World} {v : Value} (h1 : l = l') (h2 : code = code') (h : w'.ownsRow w.heap.size 3 1 v l.length (nums l)) (hb : Below w.heap.size w w') : LstE l' code' w (.returned (.tuple #[v, .int .i64 code])) w' := by subst h1 h2; exact ⟨v, rfl, h, hb⟩
set_option maxRecDepth 100000 in
set_option maxHeartbeats 2000000 in
theorem Clash_any (e0 e1 : Int) (A B : Option Addr) (c d : Nat) (ps : List Pr) (ts : List Tr) (n ch : Int) (w : World) (hA : BA w A B c d ps ts) :
    Calls Tryz.prog 22 #[bkV e0 e1 (.slice A ps.length c) (.slice B ts.length d), .int .i64 n, .int .i64 ch] w (LstE (clL e0 e1 ps ts n ch) (clCode e0 e1 ps ts n ch) w) := by
  have HC := fun w1 (hb : Below w.heap.size w w1) => Lib.hid (asked_any e0 e1 A B c d ps ts n ch w1 (hA.next hb))
  have HA := Lib.hid hA
  clear hA
  unfold bkV at HC ⊢
  go_enter Tryz.func22, Tryz.ntmps22
  go_wp2_with fail
  have b0 := below_new w (.cells #[.int .i64 e0, .int .i64 e1, .slice A ps.length c, .slice B ts.length d] 26)
  have B0 := Blk.new w [.int .i64 e0, .int .i64 e1, .slice A ps.length c, .slice B ts.length d] 26
  change Blk (w.alloc (.cells #[.int .i64 e0, .int .i64 e1, .slice A ps.length c, .slice B ts.length d] 26)) _ _ at B0
  generalize w.alloc (.cells #[.int .i64 e0, .int .i64 e1, .slice A ps.length c, .slice B ts.length d] 26) = W0 at *
  refine (HC W0 b0).out.mono ?_
  rintro e w1 (⟨h0, g, rfl, hg, hk, hb1⟩ | ⟨h0, rfl, hb1⟩)
  · have hbw := b0.trans (hb1.mono b0.size)
    have hG := Gd.mk' (HA.out.next hbw) hk (ask_ok h0).1
    have HG := Lib.hid hG
    have B1 := B0.below hb1
    have H0 := Lib.hid h0
    obtain ⟨_, _, hc0, hc4⟩ := ask_ok h0
    obtain ⟨q, rfl⟩ : ∃ q : Nat, ch = (q : Nat) := ⟨ch.toNat, by omega⟩
    have hq : q ≤ 1000 := by omega
    have HB1 := Lib.hid B1
    have HBW := Lib.hid hbw
    clear HC h0 hk hb1 hg hG B0 B1 b0 hc0 hc4 hbw
    go_wp2_with fail
    refine (order_any w1 g n A c ps HG.out.bk.lt HG.out.bk.c2 HG.out.rp HG.out.ok.lp (fun p hp => (HG.out.ok.pr p hp).1) HG.out.ok.once).mono ?_
    rintro e w2 ⟨v, rfl, hv, hb2⟩
    obtain ⟨A2, c2, rfl, hc2, hr2⟩ := own_slice hv
    have HG2 := Lib.hid (HG.out.below hb2)
    have HB2 := Lib.hid (HB1.out.below hb2)
    have HBW2 := Lib.hid (HBW.out.trans (hb2.mono HBW.out.size))
    have HP := Lib.hid (possible_any g e0 e1 A c ps B d ts A2 c2 (ordL ps n) q w2 HG2.out hr2 ordL_mem_lt (by have := ordL_length ps n; have := HG.out.ok.lp; omega) hq)
    clear hv hb2 hr2 HG HB1 HBW
    go_wp2_with fail
    refine HP.out.mono ?_
    rintro e w3 ⟨rfl, hb3⟩
    have HG3 := Lib.hid (HG2.out.below hb3)
    have HB3 := Lib.hid (HB2.out.below hb3)
    have HBW3 := Lib.hid (HBW2.out.trans (hb3.mono HBW2.out.size))
    clear HP hb3 HG2 HB2 HBW2
    obtain ⟨bb, HBB⟩ : ∃ bb, Hid (possB (spI e0 e1 ps) (ordL ps n) q = bb) := ⟨_, Lib.hid rfl⟩
    rw [HBB.out]
    cases bb
    · have H1 : Hid (clCode e0 e1 ps ts n (q : Nat) = 0) := Lib.hid (by unfold clCode; rw [if_neg (by rw [H0.out]; simp), Int.toNat_natCast, HBB.out]; rfl)
      have H2 : Hid (clL e0 e1 ps ts n (q : Nat) = (clashS (clF e0 e1 ps n q) (clOwn ps n) ps.length).2) := Lib.hid (by unfold clL; rw [if_pos H1.out, Int.toNat_natCast])
      have y2 := HB3.out.cells 2 _ rfl
      have ly := HB3.out.lt
      go_wp2_with fail
      have hba := below_new w3 (.map #[] 0)
      have hM9 := MI.new boolE Tryz.prog 3 w3
      have HG9 := Lib.hid (HG3.out.below hba)
      have HB9 := Lib.hid (HB3.out.below hba)
      have HBW9 := Lib.hid (HBW3.out.trans (hba.mono HBW3.out.size))
      have hz9 : w3.heap.size < (w3.alloc (.map #[] 0)).heap.size := by simp
      have hwm : w.heap.size ≤ w3.heap.size := HBW3.out.size
      have hlo : (ordL ps n).length ≤ 10 := by have := ordL_length ps n; have := HG3.out.ok.lp; omega
      generalize w3.alloc (.map #[] 0) = W9 at *
      obtain ⟨mb, hmb⟩ : ∃ mb, w3.heap.size = mb := ⟨_, rfl⟩
      rw [hmb] at hM9 hz9 hwm ⊢
      have HM9 := Lib.hid hM9
      clear hba hM9 HG3 HB3 HBW3 y2 ly hmb
      have hl10 := HG9.out.ok.lp
      obtain ⟨i0, hi0, hz0, hz1, hz2⟩ := info_parts infoInt
      go_loopw [12, 13, 14, 37] (fun s12 _ _ i wr => ∃ (k : Nat) (f : Int → Option Bool), k ≤ ps.length ∧ i = .int .i64 (k : Nat) ∧ Hid (MI boolE Tryz.prog 3 wr mb (2 * k) f) ∧ Hid (∀ i : Nat, i < 1000 → (f (i : Nat)).getD false = (clashS (clF e0 e1 ps n q) (clOwn ps n) k).1 i) ∧ Hid (wr.ownsRow W9.heap.size 3 1 s12 (clashS (clF e0 e1 ps n q) (clOwn ps n) k).2.length (nums (clashS (clF e0 e1 ps n q) (clOwn ps n) k).2)) ∧ Hid (W9.grownBy wr (some mb))) (fun _ _ _ i _ => ps.length - (intOf i).toNat)
      case atStart => exact ⟨0, _, Nat.zero_le _, rfl, HM9, Lib.hid (fun i _ => rfl), Lib.hid nil_own, Lib.hid (grownBy_self _ _)⟩
      case round =>
        obtain ⟨k, f, hk, rfl, HM, HF, HO, HGR⟩ := hrel
        have hwr := HGR.out.size
        by_cases hlt : k < ps.length
        · have hGr := HM9.out.gd HGR.out HG9.out
          obtain ⟨pb, off, rfl, hGI⟩ := hGr.gi hlt
          obtain ⟨p0, p1, p2, p3⟩ := hGI.rp.proof' hlt
          have k0 : (0 : Int) ≤ (k : Int) := by omega
          have k1 : (k : Int) < (ps.length : Int) := by omega
          have HGr := Lib.hid hGr
          have hown : clOwn ps n k = decide (ps[k].b = n) := by unfold clOwn; rw [pAt_eq hlt]
          obtain ⟨cs, HCS⟩ : ∃ cs, Hid (clashS (clF e0 e1 ps n q) (clOwn ps n) k = cs) := ⟨_, Lib.hid rfl⟩
          have HST : Hid (clashS (clF e0 e1 ps n q) (clOwn ps n) (k + 1) = if ps[k].b = n then (if clF e0 e1 ps n q (fun i => decide (i = k) || cs.1 i) then (cs.1, cs.2 ++ [k]) else (fun i => decide (i = k) || cs.1 i, cs.2)) else cs) := Lib.hid (by
            rw [clashS, hown, HCS.out]; simp)
          have HLT : Hid (∀ i, cs.1 i = true → i < k) := Lib.hid (fun i h => by rw [← HCS.out] at h; exact clashS_lt k i h)
          have hcl : cs.2.length ≤ k := by rw [← HCS.out]; exact clashS_len k
          rw [HCS.out] at HF HO
          generalize ps[k].b = fb at *
          generalize ps[k].m = fm at *
          generalize ps[k].k = fk at *
          generalize ps[k].r = fr at *
          have hba := below_new wr (.cells #[.int .i64 fb, .int .i64 fm, .int .i64 fk, .int .i64 fr] 57)
          clear hGr hGI hown
          by_cases hbn : fb = n
          · have HST2 : Hid (clashS (clF e0 e1 ps n q) (clOwn ps n) (k + 1) = if clF e0 e1 ps n q (fun i => decide (i = k) || cs.1 i) then (cs.1, cs.2 ++ [k]) else (fun i => decide (i = k) || cs.1 i, cs.2)) := Lib.hid (by rw [HST.out, if_pos hbn])
            have hbn1 : (fb == n) = true := by simpa using hbn
            have hbn2 : (fb != n) = false := by simpa using hbn
            clear HST hbn
            have hx : i64ok ((k : Nat) : Int) := by unfold i64ok; omega
            obtain ⟨W5, hrun, hM5, hg5, hz5⟩ := (HM.out.below hba).update keyI mapIB (by omega) hx true
            change (Instr.mapUpdate _ _ _ (.bool true)).run _ _ = .ok () W5 at hrun
            have HG5 := Lib.hid ((HM.out.below hba).gd hg5 (HGr.out.below hba))
            have HM5 := Lib.hid hM5
            have HGR5 := Lib.hid (grownBy_trans (grown_below HGR.out hba) hg5)
            have HO5 := Lib.hid (own_block (own_block HO.out fun k hk => hba.block k (own_lt HO.out k hk).2) (w' := W5) fun j hj => by
              have h1 := own_lt HO.out j hj
              exact hg5.block j (Nat.lt_of_lt_of_le h1.2 hba.size) (by intro e; injection e with e; omega))
            have HF5 : Hid (∀ i : Nat, i < 1000 → ((fun y : Int => if y = (k : Nat) then some true else f y) (i : Nat)).getD false = (fun i => decide (i = k) || cs.1 i) i) := Lib.hid (fun i hi => by
              by_cases e : i = k
              · subst e; simp
              · have e' : ¬ ((i : Nat) : Int) = (k : Nat) := by omega
                simp only [if_neg e', decide_eq_false e, Bool.false_or]
                exact HF.out i hi)
            have HBUT := Lib.hid (but_any g e0 e1 _ c ps B d ts n mb _ _ (fun i => decide (i = k) || cs.1 i) HF5.out W5 HG5.out HM5.out)
            have hz5' : wr.heap.size ≤ W5.heap.size := by rw [hz5]; exact hba.size
            clear hM5 hg5 hx hz5
            go_wp2_with fail
            refine HBUT.out.mono ?_
            rintro e W6 ⟨A6, c6, rfl, hr6, hb6⟩
            have HG6 := Lib.hid (HG5.out.below hb6)
            have hbl := List.length_filter_le (fun i => !(fun i => decide (i = k) || cs.1 i) i) (ordL ps n)
            have HP6 := Lib.hid (possible_any g e0 e1 _ c ps B d ts A6 c6 (butL ps n (fun i => decide (i = k) || cs.1 i)) q W6 HG6.out hr6 (fun i hi => ordL_mem_lt i (List.mem_filter.1 hi).1) (by unfold butL; omega) hq)
            have HM6 := Lib.hid (HM5.out.below hb6)
            have HGR6 := Lib.hid (grown_below HGR5.out hb6)
            have HO6 := Lib.hid (own_block HO5.out fun k hk => hb6.block k (own_lt HO5.out k hk).2)
            have hz6 := hb6.size
            clear HBUT hr6 hb6 hbl hrun
            go_wp2_with fail
            refine HP6.out.mono ?_
            rintro e W7 ⟨rfl, hb7⟩
            have HM7 := Lib.hid (HM6.out.below hb7)
            have HGR7 := Lib.hid (grown_below HGR6.out hb7)
            have HO7 := Lib.hid (own_block HO6.out fun k hk => hb7.block k (own_lt HO6.out k hk).2)
            have hz7 := hb7.size
            clear HP6 hb7 HM6 HGR6 HO6 HM5 HGR5 HO5
            obtain ⟨b2, HB2⟩ : ∃ b2, Hid (possB (spI e0 e1 ps) (butL ps n (fun i => decide (i = k) || cs.1 i)) q = b2) := ⟨_, Lib.hid rfl⟩
            have HFE : Hid (clF e0 e1 ps n q (fun i => decide (i = k) || cs.1 i) = b2) := Lib.hid HB2.out
            rw [HB2.out]
            rw [HFE.out] at HST2
            cases b2
            · have HST3 : Hid (clashS (clF e0 e1 ps n q) (clOwn ps n) (k + 1) = (fun i => decide (i = k) || cs.1 i, cs.2)) := Lib.hid HST2.out
              go_wp2_with fail
              go_roundw
              case rel => exact ⟨k + 1, _, hlt, by go_num, Lib.hid (HM7.out.mono (by omega)), by rw [HST3.out]; exact HF5, by rw [HST3.out]; exact HO7, HGR7⟩
              case measure => simp [intOf]; omega
            · have HST3 : Hid (clashS (clF e0 e1 ps n q) (clOwn ps n) (k + 1) = (cs.1, cs.2 ++ [k])) := Lib.hid HST2.out
              have hx : i64ok ((k : Nat) : Int) := by unfold i64ok; omega
              obtain ⟨W8, hrun, hM8, hg8, hz8⟩ := HM7.out.update keyI mapIB (by omega) hx false
              change (Instr.mapUpdate _ _ _ (.bool false)).run _ _ = .ok () W8 at hrun
              have HM8 := Lib.hid hM8
              have HGR8 := Lib.hid (grownBy_trans HGR7.out hg8)
              have ho8 : W8.ownsRow W9.heap.size 3 1 u12 cs.2.length (nums cs.2) := own_block HO7.out fun j hj => by
                have h1 := own_lt HO7.out j hj
                exact hg8.block j h1.2 (by intro e; injection e with e; omega)
              have HO8 := Lib.hid ho8
              obtain ⟨A8, c8, rfl, hc8, _⟩ := own_slice ho8
              have hz8' : W7.heap.size ≤ W8.heap.size := by omega
              have HF8 : Hid (∀ i : Nat, i < 1000 → ((fun y : Int => if y = (k : Nat) then some false else (fun y : Int => if y = (k : Nat) then some true else f y) y) (i : Nat)).getD false = cs.1 i) := Lib.hid (fun i hi => by
                by_cases e : i = k
                · subst e
                  simp only [if_true, Option.getD_some]
                  cases h : cs.1 i
                  · rfl
                  · have := HLT.out i h; omega
                · have e' : ¬ ((i : Nat) : Int) = (k : Nat) := by omega
                  simp only [if_neg e']
                  exact HF.out i hi)
              clear hM8 hg8 hx hz8 ho8 HM7 HGR7 HO7
              go_wp2_with (at_builtin; refine Go.wpList_append_own_at _ rfl _ _ 41 rfl W9.heap.size 3 i0 (.int .i64 0) 1 8 Tryz.underlying41 hi0 hz0 hz1 hz2 rfl (by decide) _ _ _ rfl (HO8.out.alloc _) ⟨W8.heap.size, 0, none⟩ 1 1 [.int .i64 (k : Nat)] rfl rfl (cell_one_new _ _ _) (by simp [Value.oneCell']) (by unfold maxLen; omega) (by omega) (by simp; omega) ?_; intro v' W10 hown' hgrow hnil hat; obtain ⟨A10, c10, rfl, hc10, _⟩ := own_slice hown')
              have hbg := Below.grown hgrow (show W9.heap.size ≤ W8.heap.size by omega) fun k hk => (own_lt HO8.out k hk).1
              have HBG := Lib.hid hbg
              clear hbg
              go_roundw
              case rel =>
                refine ⟨k + 1, _, hlt, by go_num, Lib.hid ((HM8.out.block ?_).mono (by omega)), by rw [HST3.out]; exact HF8, ?_, Lib.hid ?_⟩
                · exact HBG.out.block mb (by omega)
                · rw [HST3.out]
                  refine Lib.hid ?_
                  rw [nums_snoc, List.length_append]
                  exact hown'
                · exact ⟨HBG.out.os.trans HGR8.out.os, HBG.out.tape.trans HGR8.out.tape, HBG.out.output.trans HGR8.out.output, by have := HBG.out.size; omega, fun j hj hne => (HBG.out.block j hj).trans (HGR8.out.block j hj hne)⟩
              case measure => simp [intOf]; omega
          · have HST2 : Hid (clashS (clF e0 e1 ps n q) (clOwn ps n) (k + 1) = cs) := Lib.hid (by rw [HST.out, if_neg hbn])
            have hbn1 : (fb == n) = false := by simpa using hbn
            have hbn2 : (fb != n) = true := by simpa using hbn
            clear HST hbn
            go_wp2_with fail
            go_roundw
            case rel => exact ⟨k + 1, f, hlt, by go_num, Lib.hid ((HM.out.below hba).mono (by omega)), by rw [HST2.out]; exact HF, by rw [HST2.out]; exact Lib.hid (own_block HO.out fun k hk => hba.block k (own_lt HO.out k hk).2), Lib.hid (grown_below HGR.out hba)⟩
            case measure => simp [intOf]; omega
        · have HL : Hid (clL e0 e1 ps ts n (q : Nat) = (clashS (clF e0 e1 ps n q) (clOwn ps n) k).2) := Lib.hid (by rw [H2.out, show ps.length = k by omega])
          have HEND := Lib.hid (HBW9.out.trans ((show Below w.heap.size W9 wr from ⟨HGR.out.os, HGR.out.tape, HGR.out.output, HGR.out.size, fun j hj => HGR.out.block j (Nat.lt_of_lt_of_le hj HBW9.out.size) (by intro e; injection e with e; omega)⟩)))
          have hb9 := HBW9.out.size
          go_wp2_with fail
          go_ret2
          exact LstE.mk' HL.out.symm H1.out.symm (HO.out.base_ (by omega)) HEND.out
    · have H1 : Hid (clCode e0 e1 ps ts n (q : Nat) = 1) := Lib.hid (by unfold clCode; rw [if_neg (by rw [H0.out]; simp), Int.toNat_natCast, HBB.out]; rfl)
      go_wp2_with fail
      go_ret2
      exact LstE.mk' (l := []) (by unfold clL; rw [if_neg (by rw [H1.out]; decide)]) H1.out.symm nil_own HBW3.out
  · have H0 := Lib.hid h0
    have H1 : Hid (clCode e0 e1 ps ts n ch = askCode (ckBook e0 e1 ps ts) n ch) := Lib.hid (if_pos h0)
    have h0' : (askCode (ckBook e0 e1 ps ts) n ch == 0) = false := by simpa using h0
    have h0'' : (askCode (ckBook e0 e1 ps ts) n ch != 0) = true := by simpa using h0
    have HBW := Lib.hid (b0.trans (hb1.mono b0.size))
    clear HC h0 hb1 B0 b0
    go_wp2_with fail
    go_ret2
    exact LstE.mk' (l := []) (by unfold clL; rw [if_neg (by rw [H1.out]; exact H0.out)]) H1.out.symm nil_own HBW.out
end Go.Proofs.YtcdjoegihmfanaaGreat
namespace Go.Proofs.YtcdjoegihmfanaaGreat
open Go.RowKit
set_option linter.unusedVariables false
attribute [local go_sem] run_makeMap
/-- Both maps, and what they hold. -/
structure LdI (w wr : World) (tb : Nat) (mm : Nat → Nat) (nb : Nat) (aa : Nat → List (Int × Int)) : Prop where
  bl : Below w.heap.size w wr
  tk : Blk wr tb [.map (some (mm 0)), .map (some (mm 1))]
  mi : ∀ j, j < 2 → MI intE Tryz.prog 3 wr (mm j) nb (askF (aa j))
  ne : mm 0 ≠ mm 1
  hm : ∀ j, j < 2 → w.heap.size ≤ mm j
theorem LdI.below {w wr w' : World} {tb : Nat} {mm : Nat → Nat} {nb : Nat} {aa : Nat → List (Int × Int)} (h : LdI w wr tb mm nb aa) (hb : Below wr.heap.size wr w') : LdI w w' tb mm nb aa :=
  ⟨h.bl.trans (hb.mono h.bl.size), h.tk.below hb, fun j hj => (h.mi j hj).below hb, h.ne, h.hm⟩
set_option maxRecDepth 100000 in
theorem LdI.cell {w wr : World} {tb : Nat} {mm : Nat → Nat} {nb : Nat} {aa : Nat → List (Int × Int)} (h : LdI w wr tb mm nb aa) {j : Nat} (hj : j < 2) : wr.cell? ⟨tb, j, none⟩ = some (.map (some (mm j))) := by
  match j, hj with
  | 0, _ => exact h.tk.cells 0 _ rfl
  | 1, _ => exact h.tk.cells 1 _ rfl
set_option maxRecDepth 100000 in
theorem LdI.look {w wr : World} {tb : Nat} {mm : Nat → Nat} {nb : Nat} {aa : Nat → List (Int × Int)} (h : LdI w wr tb mm nb aa) {j : Nat} (hj : j < 2) {x : Int} (hx : i64ok x) : (Instr.lookup 152 (.map (some (mm j))) (.int .i64 x) false).run Tryz.prog wr = .ok (.int .i64 ((askF (aa j) x).getD 0)) wr :=
  (h.mi j hj).look keyI mapII 0 (by rfl) hx
set_option maxRecDepth 100000 in
theorem LdI.upd {w wr : World} {tb : Nat} {mm : Nat → Nat} {nb : Nat} {aa : Nat → List (Int × Int)} (h : LdI w wr tb mm nb aa) {k : Nat} (hk : k < 2) (hn : nb < 1000000) {x : Int} (hx : i64ok x) (d : Int) :
    ∃ w', (Instr.mapUpdate 152 (.map (some (mm k))) (.int .i64 x) (.int .i64 ((askF (aa k) x).getD 0 + d))).run Tryz.prog wr = .ok () w' ∧ LdI w w' tb mm (nb + 1) (fun j => if j = k then aa j ++ [(x, d)] else aa j) ∧ wr.grownBy w' (some (mm k)) ∧ w'.heap.size = wr.heap.size := by
  obtain ⟨w', h1, h2, h3, h4⟩ := (h.mi k hk).update keyI mapII hn hx ((askF (aa k) x).getD 0 + d)
  have htk : tb ≠ mm k := (h.mi k hk).ne_cell (h.tk.cells 0 _ rfl)
  refine ⟨w', h1, ⟨below_grown h.bl h3 (h.hm k hk), h.tk.grown h3 (by intro e; injection e with e; exact htk e), fun j hj => ?_, h.ne, h.hm⟩, h3, h4⟩
  by_cases e : j = k
  · subst e
    simp only [if_true]
    rw [askF_snoc]
    exact h2
  · simp only [if_neg e]
    refine ((h.mi j hj).block (h3.block _ (h.mi j hj).lt ?_)).mono (by omega)
    intro e'; injection e' with e'
    have hne := h.ne
    match j, k, hj, hk with
    | 0, 0, _, _ => exact e rfl
    | 1, 1, _, _ => exact e rfl
    | 0, 1, _, _ => exact hne e'
    | 1, 0, _, _ => exact hne e'.symm
theorem LdI.cong {w wr : World} {tb : Nat} {mm : Nat → Nat} {nb : Nat} {aa bs : Nat → List (Int × Int)} (h : LdI w wr tb mm nb aa) (he : ∀ j, j < 2 → aa j = bs j) : LdI w wr tb mm nb bs :=
  ⟨h.bl, h.tk, fun j hj => by rw [← he j hj]; exact h.mi j hj, h.ne, h.hm⟩
def trOk (t : Tr) : Prop := (0 ≤ t.im ∧ t.im ≤ 10000) ∧ (0 ≤ t.om ∧ t.om ≤ 10000) ∧ (t.ib = 0 ∨ t.ib = 1) ∧ (t.ob = 0 ∨ t.ob = 1)
theorem ask_bd {asks : List (Int × Int)} (h : okAsks asks) (x : Int) : -1000 ≤ (askF asks x).getD 0 ∧ (askF asks x).getD 0 ≤ 1000 := by
  rw [askF_getD]
  have h1 := sumAt_bd h.2 x
  have h2 := h.1
  omega
/-- What the trips ask, after the first part of one. -/
def halfA (ts : List Tr) (t : Tr) (j : Nat) : List (Int × Int) := asksOf ts (j : Nat) ++ if t.ib = (j : Nat) then [(t.im, -1)] else []
theorem halfA_ok {ts : List Tr} (h : ts.length ≤ 400) (t : Tr) (j : Nat) : okAsks (halfA ts t j) := by
  obtain ⟨a, b⟩ := okAsks_trips h (j : Nat)
  have h1 := asksOf_length ts (j : Nat)
  unfold halfA
  split
  · refine ⟨by simp; omega, fun p hp => ?_⟩
    rcases List.mem_append.1 hp with hp | hp
    · exact b p hp
    · simp only [List.mem_singleton] at hp; subst hp; simp
  · rw [List.append_nil]; exact ⟨a, b⟩
theorem infoBooks : Tryz.prog.underlying 216 = some (.array 2 152) := by kernel_rfl
set_option maxRecDepth 100000 in
set_option maxHeartbeats 4000000 in
theorem loaded_any (A : Option Addr) (c : Nat) (ts : List Tr) (w : World) (hr : Rd w w.heap.size A (trs ts)) (hl : ts.length ≤ 400) (hok : ∀ t ∈ ts, trOk t) :
    Calls Tryz.prog 149 #[.slice A ts.length c] w fun e w' => ∃ m0 m1, e = .returned (.agg #[.map (some m0), .map (some m1)]) ∧ MI intE Tryz.prog 3 w' m0 (2 * ts.length) (askF (asksOf ts 0)) ∧ MI intE Tryz.prog 3 w' m1 (2 * ts.length) (askF (asksOf ts 1)) ∧ Below w.heap.size w w' := by
  have HR := Lib.hid hr
  have HOK := Lib.hid hok
  clear hr hok
  go_enter Tryz.func149, Tryz.ntmps149
  go_wp2_with fail
  have b1 := below_new w (.cells #[.map none, .map none] 216)
  have R1 := Blk.new w [.map none, .map none] 216
  have z1 : (w.alloc (.cells #[.map none, .map none] 216)).heap.size = w.heap.size + 1 := by simp
  change Blk (w.alloc (.cells #[.map none, .map none] 216)) _ _ at R1
  generalize w.alloc (.cells #[.map none, .map none] 216) = W1 at *
  have b2 := below_new W1 (.map #[] 0)
  have M2 := MI.new intE Tryz.prog 3 W1
  have R2 := R1.below b2
  have z2 : (W1.alloc (.map #[] 0)).heap.size = w.heap.size + 1 + 1 := by simp [z1]
  rw [z1] at M2
  generalize W1.alloc (.map #[] 0) = W2 at *
  have b3 := below_new W2 (.map #[] 0)
  have M3 := MI.new intE Tryz.prog 3 W2
  have N3 := M2.below b3
  have R3 := R2.below b3
  have z3 : (W2.alloc (.map #[] 0)).heap.size = w.heap.size + 1 + 1 + 1 := by simp [z2]
  rw [z2] at M3
  generalize W2.alloc (.map #[] 0) = W3 at *
  have b4 := below_new W3 (.cells #[.map (some (w.heap.size + 1)), .map (some (w.heap.size + 1 + 1))] 216)
  have T4 := Blk.new W3 [.map (some (w.heap.size + 1)), .map (some (w.heap.size + 1 + 1))] 216
  have N4 := N3.below b4
  have M4 := M3.below b4
  have R4 := Lib.hid (R3.below b4)
  change Blk (W3.alloc (.cells #[.map (some (w.heap.size + 1)), .map (some (w.heap.size + 1 + 1))] 216)) _ _ at T4
  have hbw := ((b1.trans (b2.mono b1.size)).trans (b3.mono (Nat.le_trans b1.size b2.size))).trans (b4.mono (by omega))
  generalize W3.alloc (.cells #[.map (some (w.heap.size + 1)), .map (some (w.heap.size + 1 + 1))] 216) = W4 at *
  obtain ⟨mm, hmm⟩ : ∃ mm : Nat → Nat, mm = fun j => w.heap.size + 1 + j := ⟨_, rfl⟩
  have HI0 : Hid (LdI w W4 (w.heap.size + 1 + 1 + 1) mm (2 * 0) (fun j => asksOf (ts.take 0) (j : Nat))) := Lib.hid (by
    rw [z3] at T4
    subst hmm
    refine ⟨hbw, T4, fun j hj => ?_, by omega, fun j hj => by omega⟩
    match j, hj with
    | 0, _ => exact N4
    | 1, _ => exact M4)
  have HMM : Hid (mm 0 = w.heap.size + 1 ∧ mm 1 = w.heap.size + 1 + 1) := Lib.hid (by subst hmm; exact ⟨rfl, rfl⟩)
  have ltb : w.heap.size + 1 + 1 + 1 < W4.heap.size := by rw [z3] at T4; exact T4.lt
  clear b1 R1 z1 b2 M2 R2 z2 b3 M3 N3 R3 z3 b4 T4 N4 M4 hbw hmm
  obtain ⟨tb, htb⟩ : ∃ tb, w.heap.size + 1 + 1 + 1 = tb := ⟨_, rfl⟩
  rw [htb] at HI0 ltb ⊢
  clear htb
  go_loopw [5, 11] (fun _ i wr => ∃ k : Nat, k ≤ ts.length ∧ i = .int .i64 (k : Nat) ∧ Hid (LdI w wr tb mm (2 * k) (fun j => asksOf (ts.take k) (j : Nat))) ∧ Hid (Blk wr w.heap.size [.map none, .map none])) (fun _ i _ => ts.length - (intOf i).toNat)
  case atStart => exact ⟨0, Nat.zero_le _, rfl, HI0, R4⟩
  case round =>
    obtain ⟨k, hk, rfl, HI, HRB⟩ := hrel
    by_cases hlt : k < ts.length
    · have hbl := HI.out.bl
      obtain ⟨b, off, rfl, hb, x0, x1, x2, x3, x4, x5, x6⟩ := (HR.out.next hbl).tr hlt
      have hto := HOK.out _ (List.getElem_mem hlt)
      have HT := Lib.hid (List.take_succ_eq_append_getElem hlt)
      have k0 : (0 : Int) ≤ (k : Int) := by omega
      have k1 : (k : Int) < (ts.length : Int) := by omega
      generalize ts[k] = t at *
      obtain ⟨tib, tim, tir, tob, tom, tor, tmud⟩ := t
      obtain ⟨him, hom, hib, hob⟩ := hto
      simp only at x0 x1 x2 x3 x4 x5 x6 him hom hib hob
      have hba := below_new wr (.cells #[.int .i64 tib, .int .i64 tim, .int .i64 tir, .int .i64 tob, .int .i64 tom, .int .i64 tor, .int .i64 tmud] 120)
      have hP := Blk.new wr [.int .i64 tib, .int .i64 tim, .int .i64 tir, .int .i64 tob, .int .i64 tom, .int .i64 tor, .int .i64 tmud] 120
      change Blk (wr.alloc (.cells #[.int .i64 tib, .int .i64 tim, .int .i64 tir, .int .i64 tob, .int .i64 tom, .int .i64 tor, .int .i64 tmud] 120)) _ _ at hP
      have HI4 := Lib.hid (HI.out.below hba)
      have HRB4 := Lib.hid (HRB.out.below hba)
      clear hbl
      go_wp2_with fail
      obtain ⟨W4, hW4⟩ : ∃ W4, wr.alloc (.cells #[.int .i64 tib, .int .i64 tim, .int .i64 tir, .int .i64 tob, .int .i64 tom, .int .i64 tor, .int .i64 tmud] 120) = W4 := ⟨_, rfl⟩
      obtain ⟨tp, htp⟩ : ∃ tp, wr.heap.size = tp := ⟨_, rfl⟩
      rw [hW4, htp] at hP
      rw [hW4] at HI4 HRB4
      rw [hW4, htp]
      obtain ⟨ib, rfl⟩ : ∃ ib : Nat, tib = (ib : Nat) := ⟨tib.toNat, by omega⟩
      obtain ⟨ob, rfl⟩ : ∃ ob : Nat, tob = (ob : Nat) := ⟨tob.toNat, by omega⟩
      have hib2 : ib < 2 := by omega
      have hob2 : ob < 2 := by omega
      have hxi : i64ok tim := by unfold i64ok; omega
      have hxo : i64ok tom := by unfold i64ok; omega
      have HX := Lib.hid (And.intro hxi hxo)
      have HP := Lib.hid hP
      have z0 := hP.cells 0 _ rfl
      have z1 := hP.cells 1 _ rfl
      have lp := hP.lt
      have ic := HI4.out.cell hib2
      have lt := HI4.out.tk.lt
      obtain ⟨iv, HIV⟩ : ∃ v, Hid ((askF (asksOf (ts.take k) (ib : Nat)) tim).getD 0 = v) := ⟨_, Lib.hid rfl⟩
      have HiM : Hid (∀ w5, Below W4.heap.size W4 w5 → Hid ((Instr.lookup 152 (.map (some (mm ib))) (.int .i64 tim) false).run Tryz.prog w5 = .ok (.int .i64 iv) w5)) := Lib.hid (fun w5 hb => Lib.hid (by have := (HI4.out.below hb).look hib2 HX.out.1; rw [HIV.out] at this; exact this))
      have hbd := ask_bd (okAsks_trips (ts := ts.take k) (by rw [List.length_take]; omega) (ib : Nat)) tim
      rw [HIV.out] at hbd
      have hwi : IntKind.i64.wrap (iv - 1) = iv - 1 := IntWalk.i64_in _ (by omega)
      clear hP hba hW4 htp x0 x1 x2 x3 x4 x5 x6 hxi hxo
      refine wp_inv 10 (by kernel_rfl) (by kernel_rfl) (by kernel_rfl) (by decide) (FL [PEq (.pointer (some ⟨tp, 0, none⟩)), PEq (.pointer (some ⟨tp, 0, none⟩)), PEq (.int .i64 (ib : Nat)), PEq (.pointer (some ⟨tb, ib, none⟩)), PEq (.map (some (mm ib))), PEq (.pointer (some ⟨tp, 0, none⟩)), PEq (.pointer (some ⟨tp, 1, none⟩)), PEq (.int .i64 tim), PEq (.int .i64 iv), PEq (.int .i64 (iv - 1))])
        (fun x => Below W4.heap.size W4 x) (fun x y => Below x.heap.size x y) (FL.keepB (by simp [stbB_eq])) (below_drew W4) ?_ ?_
      · intro iq o hi' ho listed vals a w5 hdep hM hAt K hK
        have HI := Lib.hid hM.inv
        match iq, hi' with
        | 0, _ =>
          injection ho with ho
          subst ho
          obtain ⟨e5, e5'⟩ := hAt.slot 5 (by kernel_rfl) (by rfl)
          go_simp
          exact hK _ w5 (Below.refl _ _) HI.out rfl
        | 1, _ =>
          injection ho with ho
          subst ho
          have l0 := hdep ⟨0, .data⟩ (by simp) rfl
          obtain ⟨x0, x0'⟩ := hAt.dep 0 (d := 15) (by omega) l0 (by rfl) (hM.fact 0 (by omega) l0)
          go_simp
          exact hK _ w5 (Below.refl _ _) HI.out rfl
        | 2, _ =>
          injection ho with ho
          subst ho
          have l1 := hdep ⟨1, .data⟩ (by simp) rfl
          obtain ⟨x1, x1'⟩ := hAt.dep 1 (d := 16) (by omega) l1 (by rfl) (hM.fact 1 (by omega) l1)
          have q0 := HI.out.at_ lp z0
          go_simp
          exact hK _ w5 (Below.refl _ _) HI.out rfl
        | 3, _ =>
          injection ho with ho
          subst ho
          obtain ⟨e3, e3'⟩ := hAt.slot 3 (by kernel_rfl) (by rfl)
          have l2 := hdep ⟨2, .data⟩ (by simp) rfl
          obtain ⟨x2, x2'⟩ := hAt.dep 2 (d := 17) (by omega) l2 (by rfl) (hM.fact 2 (by omega) l2)
          have n0 : (0 : Int) ≤ (ib : Int) := by omega
          have n1 : (ib : Int) < 2 := by omega
          go_simp
          exact hK _ w5 (Below.refl _ _) HI.out rfl
        | 4, _ =>
          injection ho with ho
          subst ho
          have l3 := hdep ⟨3, .data⟩ (by simp) rfl
          obtain ⟨x3, x3'⟩ := hAt.dep 3 (d := 18) (by omega) l3 (by rfl) (hM.fact 3 (by omega) l3)
          have q0 := HI.out.at_ lt ic
          go_simp
          exact hK _ w5 (Below.refl _ _) HI.out rfl
        | 5, _ =>
          injection ho with ho
          subst ho
          obtain ⟨e5, e5'⟩ := hAt.slot 5 (by kernel_rfl) (by rfl)
          go_simp
          exact hK _ w5 (Below.refl _ _) HI.out rfl
        | 6, _ =>
          injection ho with ho
          subst ho
          have l5 := hdep ⟨5, .data⟩ (by simp) rfl
          obtain ⟨x5, x5'⟩ := hAt.dep 5 (d := 20) (by omega) l5 (by rfl) (hM.fact 5 (by omega) l5)
          go_simp
          exact hK _ w5 (Below.refl _ _) HI.out rfl
        | 7, _ =>
          injection ho with ho
          subst ho
          have l6 := hdep ⟨6, .data⟩ (by simp) rfl
          obtain ⟨x6, x6'⟩ := hAt.dep 6 (d := 21) (by omega) l6 (by rfl) (hM.fact 6 (by omega) l6)
          have q0 := HI.out.at_ lp z1
          go_simp
          exact hK _ w5 (Below.refl _ _) HI.out rfl
        | 8, _ =>
          injection ho with ho
          subst ho
          have l4 := hdep ⟨4, .data⟩ (by simp) rfl
          obtain ⟨x4, x4'⟩ := hAt.dep 4 (d := 19) (by omega) l4 (by rfl) (hM.fact 4 (by omega) l4)
          have l7 := hdep ⟨7, .data⟩ (by simp) rfl
          obtain ⟨x7, x7'⟩ := hAt.dep 7 (d := 22) (by omega) l7 (by rfl) (hM.fact 7 (by omega) l7)
          have q0 := (HiM.out w5 HI.out).out
          go_simp
          exact hK _ w5 (Below.refl _ _) HI.out rfl
        | 9, _ =>
          injection ho with ho
          subst ho
          have l8 := hdep ⟨8, .data⟩ (by simp) rfl
          obtain ⟨x8, x8'⟩ := hAt.dep 8 (d := 23) (by omega) l8 (by rfl) (hM.fact 8 (by omega) l8)
          go_simp
          exact hK _ w5 (Below.refl _ _) HI.out rfl
        | jq + 10, hq => exact absurd hq (by omega)
      · intro vals w5 hM
        have HI := Lib.hid hM.inv
        have f0 : vals 0 = .pointer (some ⟨tp, 0, none⟩) := hM.all (by decide) 0 (by omega)
        have f1 : vals 1 = .pointer (some ⟨tp, 0, none⟩) := hM.all (by decide) 1 (by omega)
        have f2 : vals 2 = .int .i64 (ib : Nat) := hM.all (by decide) 2 (by omega)
        have f3 : vals 3 = .pointer (some ⟨tb, ib, none⟩) := hM.all (by decide) 3 (by omega)
        have f4 : vals 4 = .map (some (mm ib)) := hM.all (by decide) 4 (by omega)
        have f5 : vals 5 = .pointer (some ⟨tp, 0, none⟩) := hM.all (by decide) 5 (by omega)
        have f6 : vals 6 = .pointer (some ⟨tp, 1, none⟩) := hM.all (by decide) 6 (by omega)
        have f7 : vals 7 = .int .i64 tim := hM.all (by decide) 7 (by omega)
        have f8 : vals 8 = .int .i64 iv := hM.all (by decide) 8 (by omega)
        have f9 : vals 9 = .int .i64 (iv - 1) := hM.all (by decide) 9 (by omega)
        clear hM
        simp only [putAll, List.range, List.range.loop, List.foldl_cons, List.foldl_nil, f0, f1, f2, f3, f4, f5, f6, f7, f8, f9]
        clear f0 f1 f2 f3 f4 f5 f6 f7 f8 f9
        change wpAny _ _ _ _ _ _ (Act.put (Act.put (Act.put (Act.put (Act.put (Act.put (Act.put (Act.put (Act.put (Act.put _ (some 15) _) (some 16) _) (some 17) _) (some 18) _) (some 19) _) (some 20) _) (some 21) _) (some 22) _) (some 23) _) (some 24) _) _
        simp only [Act.put, List.setIfInBounds_toArray, List.set_cons_zero, List.set_cons_succ]
        have HI6 := Lib.hid (HI4.out.below HI.out)
        obtain ⟨W8, hrun, hI6, hg6, hz6⟩ := HI6.out.upd hib2 (by omega) HX.out.1 (-1)
        rw [HIV.out] at hrun
        have he : iv + -1 = iv - 1 := by omega
        rw [he] at hrun
        have HI8 : Hid (LdI w W8 tb mm (2 * k + 1) (halfA (ts.take k) ⟨(ib : Nat), tim, tir, (ob : Nat), tom, tor, tmud⟩)) := Lib.hid (hI6.cong fun j hj => by
          unfold halfA
          by_cases e : j = ib
          · subst e; simp
          · have e' : ¬ ((ib : Nat) : Int) = (j : Nat) := by omega
            simp only [if_neg e, if_neg e', List.append_nil])
        have HP8 := Lib.hid ((HP.out.below HI.out).grown hg6 (by intro e; injection e with e; exact (HI6.out.mi ib hib2).ne_cell ((HP.out.below HI.out).cells 0 _ rfl) e))
        have HRB8 := Lib.hid ((HRB4.out.below HI.out).grown hg6 (by intro e; injection e with e; exact (HI6.out.mi ib hib2).ne_cell ((HRB4.out.below HI.out).cells 0 _ rfl) e))
        refine tail_step 10 _ (by kernel_rfl) rfl rfl (fun K' hK => ?_)
        go_simp
        refine hK _ _ ?_
        clear hK K' hrun hI6 hg6 he hwi hbd HiM HI HI6 z0 z1 lp ic lt HP HRB4
        refine wpAny_done (by kernel_rfl) ?_ _
        have z3 := HP8.out.cells 3 _ rfl
        have z4 := HP8.out.cells 4 _ rfl
        have lp := HP8.out.lt
        have oc := HI8.out.cell hob2
        have lt := HI8.out.tk.lt
        have HHA := Lib.hid (halfA_ok (ts := ts.take k) (by rw [List.length_take]; omega) ⟨(ib : Nat), tim, tir, (ob : Nat), tom, tor, tmud⟩ ob)
        obtain ⟨ov, HOV⟩ : ∃ v, Hid ((askF (halfA (ts.take k) ⟨(ib : Nat), tim, tir, (ob : Nat), tom, tor, tmud⟩ ob) tom).getD 0 = v) := ⟨_, Lib.hid rfl⟩
        have HoM : Hid (∀ w5, Below W8.heap.size W8 w5 → Hid ((Instr.lookup 152 (.map (some (mm ob))) (.int .i64 tom) false).run Tryz.prog w5 = .ok (.int .i64 ov) w5)) := Lib.hid (fun w5 hb => Lib.hid (by have := (HI8.out.below hb).look hob2 HX.out.2; rw [HOV.out] at this; exact this))
        have hbd := ask_bd HHA.out tom
        rw [HOV.out] at hbd
        have hwo : IntKind.i64.wrap (ov + 1) = ov + 1 := IntWalk.i64_in _ (by omega)
        go_wp2_with fail
        refine wp_inv 10 (by kernel_rfl) (by kernel_rfl) (by kernel_rfl) (by decide) (FL [PEq (.pointer (some ⟨tp, 3, none⟩)), PEq (.pointer (some ⟨tp, 3, none⟩)), PEq (.int .i64 (ob : Nat)), PEq (.pointer (some ⟨tb, ob, none⟩)), PEq (.map (some (mm ob))), PEq (.pointer (some ⟨tp, 3, none⟩)), PEq (.pointer (some ⟨tp, 4, none⟩)), PEq (.int .i64 tom), PEq (.int .i64 ov), PEq (.int .i64 (ov + 1))])
          (fun x => Below W8.heap.size W8 x) (fun x y => Below x.heap.size x y) (FL.keepB (by simp [stbB_eq])) (below_drew W8) ?_ ?_
        · intro iq o hi' ho listed vals a w5 hdep hM hAt K hK
          have HI := Lib.hid hM.inv
          match iq, hi' with
          | 0, _ =>
            injection ho with ho
            subst ho
            obtain ⟨e5, e5'⟩ := hAt.slot 5 (by kernel_rfl) (by rfl)
            go_simp
            exact hK _ w5 (Below.refl _ _) HI.out rfl
          | 1, _ =>
            injection ho with ho
            subst ho
            have l0 := hdep ⟨0, .data⟩ (by simp) rfl
            obtain ⟨x0, x0'⟩ := hAt.dep 0 (d := 25) (by omega) l0 (by rfl) (hM.fact 0 (by omega) l0)
            go_simp
            exact hK _ w5 (Below.refl _ _) HI.out rfl
          | 2, _ =>
            injection ho with ho
            subst ho
            have l1 := hdep ⟨1, .data⟩ (by simp) rfl
            obtain ⟨x1, x1'⟩ := hAt.dep 1 (d := 26) (by omega) l1 (by rfl) (hM.fact 1 (by omega) l1)
            have q0 := HI.out.at_ lp z3
            go_simp
            exact hK _ w5 (Below.refl _ _) HI.out rfl
          | 3, _ =>
            injection ho with ho
            subst ho
            obtain ⟨e3, e3'⟩ := hAt.slot 3 (by kernel_rfl) (by rfl)
            have l2 := hdep ⟨2, .data⟩ (by simp) rfl
            obtain ⟨x2, x2'⟩ := hAt.dep 2 (d := 27) (by omega) l2 (by rfl) (hM.fact 2 (by omega) l2)
            have n0 : (0 : Int) ≤ (ob : Int) := by omega
            have n1 : (ob : Int) < 2 := by omega
            go_simp
            exact hK _ w5 (Below.refl _ _) HI.out rfl
          | 4, _ =>
            injection ho with ho
            subst ho
            have l3 := hdep ⟨3, .data⟩ (by simp) rfl
            obtain ⟨x3, x3'⟩ := hAt.dep 3 (d := 28) (by omega) l3 (by rfl) (hM.fact 3 (by omega) l3)
            have q0 := HI.out.at_ lt oc
            go_simp
            exact hK _ w5 (Below.refl _ _) HI.out rfl
          | 5, _ =>
            injection ho with ho
            subst ho
            obtain ⟨e5, e5'⟩ := hAt.slot 5 (by kernel_rfl) (by rfl)
            go_simp
            exact hK _ w5 (Below.refl _ _) HI.out rfl
          | 6, _ =>
            injection ho with ho
            subst ho
            have l5 := hdep ⟨5, .data⟩ (by simp) rfl
            obtain ⟨x5, x5'⟩ := hAt.dep 5 (d := 30) (by omega) l5 (by rfl) (hM.fact 5 (by omega) l5)
            go_simp
            exact hK _ w5 (Below.refl _ _) HI.out rfl
          | 7, _ =>
            injection ho with ho
            subst ho
            have l6 := hdep ⟨6, .data⟩ (by simp) rfl
            obtain ⟨x6, x6'⟩ := hAt.dep 6 (d := 31) (by omega) l6 (by rfl) (hM.fact 6 (by omega) l6)
            have q0 := HI.out.at_ lp z4
            go_simp
            exact hK _ w5 (Below.refl _ _) HI.out rfl
          | 8, _ =>
            injection ho with ho
            subst ho
            have l4 := hdep ⟨4, .data⟩ (by simp) rfl
            obtain ⟨x4, x4'⟩ := hAt.dep 4 (d := 29) (by omega) l4 (by rfl) (hM.fact 4 (by omega) l4)
            have l7 := hdep ⟨7, .data⟩ (by simp) rfl
            obtain ⟨x7, x7'⟩ := hAt.dep 7 (d := 32) (by omega) l7 (by rfl) (hM.fact 7 (by omega) l7)
            have q0 := (HoM.out w5 HI.out).out
            go_simp
            exact hK _ w5 (Below.refl _ _) HI.out rfl
          | 9, _ =>
            injection ho with ho
            subst ho
            have l8 := hdep ⟨8, .data⟩ (by simp) rfl
            obtain ⟨x8, x8'⟩ := hAt.dep 8 (d := 33) (by omega) l8 (by rfl) (hM.fact 8 (by omega) l8)
            go_simp
            exact hK _ w5 (Below.refl _ _) HI.out rfl
          | jq + 10, hq => exact absurd hq (by omega)
        · intro vals w5 hM
          have HI := Lib.hid hM.inv
          have f0 : vals 0 = .pointer (some ⟨tp, 3, none⟩) := hM.all (by decide) 0 (by omega)
          have f1 : vals 1 = .pointer (some ⟨tp, 3, none⟩) := hM.all (by decide) 1 (by omega)
          have f2 : vals 2 = .int .i64 (ob : Nat) := hM.all (by decide) 2 (by omega)
          have f3 : vals 3 = .pointer (some ⟨tb, ob, none⟩) := hM.all (by decide) 3 (by omega)
          have f4 : vals 4 = .map (some (mm ob)) := hM.all (by decide) 4 (by omega)
          have f5 : vals 5 = .pointer (some ⟨tp, 3, none⟩) := hM.all (by decide) 5 (by omega)
          have f6 : vals 6 = .pointer (some ⟨tp, 4, none⟩) := hM.all (by decide) 6 (by omega)
          have f7 : vals 7 = .int .i64 tom := hM.all (by decide) 7 (by omega)
          have f8 : vals 8 = .int .i64 ov := hM.all (by decide) 8 (by omega)
          have f9 : vals 9 = .int .i64 (ov + 1) := hM.all (by decide) 9 (by omega)
          clear hM
          simp only [putAll, List.range, List.range.loop, List.foldl_cons, List.foldl_nil, f0, f1, f2, f3, f4, f5, f6, f7, f8, f9]
          clear f0 f1 f2 f3 f4 f5 f6 f7 f8 f9
          change wpAny _ _ _ _ _ _ (Act.put (Act.put (Act.put (Act.put (Act.put (Act.put (Act.put (Act.put (Act.put (Act.put _ (some 25) _) (some 26) _) (some 27) _) (some 28) _) (some 29) _) (some 30) _) (some 31) _) (some 32) _) (some 33) _) (some 34) _) _
          simp only [Act.put, List.setIfInBounds_toArray, List.set_cons_zero, List.set_cons_succ]
          have HI9 := Lib.hid (HI8.out.below HI.out)
          obtain ⟨W9, hrun, hI9, hg9, hz9⟩ := HI9.out.upd hob2 (by omega) HX.out.2 1
          rw [HOV.out] at hrun
          have HI10 : Hid (LdI w W9 tb mm (2 * (k + 1)) (fun j => asksOf (ts.take (k + 1)) (j : Nat))) := Lib.hid (by
            refine LdI.cong ⟨hI9.bl, hI9.tk, fun j hj => (hI9.mi j hj).mono (by omega), hI9.ne, hI9.hm⟩ fun j hj => ?_
            rw [HT.out, asksOf_snoc]
            unfold halfA
            by_cases e : j = ob
            · subst e; simp
            · have e' : ¬ ((ob : Nat) : Int) = (j : Nat) := by omega
              simp only [if_neg e, if_neg e', List.append_nil])
          have HRB9 := Lib.hid ((HRB8.out.below HI.out).grown hg9 (by intro e; injection e with e; exact (HI9.out.mi ob hob2).ne_cell ((HRB8.out.below HI.out).cells 0 _ rfl) e))
          refine tail_step 10 _ (by kernel_rfl) rfl rfl (fun K' hK => ?_)
          go_simp
          refine hK _ _ ?_
          clear hK K' hrun hI9 hg9
          refine wpAny_done (by kernel_rfl) ?_ _
          go_wp2_with fail
          go_roundw
          case rel => exact ⟨k + 1, hlt, by go_num, HI10, HRB9⟩
          case measure => simp [intOf]; omega
    · have HTK : Hid (ts.take k = ts ∧ k = ts.length) := Lib.hid ⟨List.take_of_length_le (by omega), by omega⟩
      have c0 := HI.out.tk.cells 0 _ rfl
      have c1 := HI.out.tk.cells 1 _ rfl
      have r0 := HRB.out.cells 0 _ rfl
      have r1 := HRB.out.cells 1 _ rfl
      have f0 := HRB.out.free 0
      have f1 := HRB.out.free 1
      have lr := HRB.out.lt
      go_wp2_with fail
      obtain ⟨q0, q1⟩ := two_set (u := .map (some (mm 0))) (v := .map (some (mm 1))) r0 r1
      have hn : ∀ j, j < 2 → mm j ≠ w.heap.size := fun j hj e => (HI.out.mi j hj).ne_cell r0 e.symm
      have hfin : ∀ j, j < 2 → MI intE Tryz.prog 3 ((wr.setCell ⟨w.heap.size, 0, none⟩ (.map (some (mm 0)))).setCell ⟨w.heap.size, 1, none⟩ (.map (some (mm 1)))) (mm j) (2 * ts.length) (askF (asksOf ts (j : Nat))) := fun j hj => by
        have := ((HI.out.mi j hj).far (a := ⟨w.heap.size, 0, none⟩) (hn j hj) (.map (some (mm 0)))).far (a := ⟨w.heap.size, 1, none⟩) (hn j hj) (.map (some (mm 1)))
        rw [HTK.out.1, HTK.out.2] at this
        exact this
      exact bodyPost_ret (v := .agg #[.map (some (mm 0)), .map (some (mm 1))]) (by simp [results, Tryz.results149, go_sem, q0, q1]) rfl ⟨mm 0, mm 1, rfl, hfin 0 (by omega), hfin 1 (by omega), (HI.out.bl.setCell (p := ⟨w.heap.size, 0, none⟩) (Nat.le_refl _) _).setCell (p := ⟨w.heap.size, 1, none⟩) (Nat.le_refl _) _⟩
end Go.Proofs.YtcdjoegihmfanaaGreat
namespace Go.Proofs.YtcdjoegihmfanaaGreat
set_option linter.unusedVariables false
theorem valueD_congr : ∀ (cs : List (Int × Int)) (f m m' : Int), (∀ c ∈ cs, c.1 ≤ m ↔ c.1 ≤ m') → valueD f cs m = valueD f cs m'
  | [], _, _, _, _ => rfl
  | c :: t, f, m, m', h => by
    rw [valueD_cons, valueD_cons]
    have h1 := h c (by simp)
    have e : (if c.1 ≤ m then c.2 else f) = (if c.1 ≤ m' then c.2 else f) := by
      by_cases k : c.1 ≤ m
      · rw [if_pos k, if_pos (h1.1 k)]
      · rw [if_neg k, if_neg fun x => k (h1.2 x)]
    rw [e]
    exact valueD_congr t _ m m' fun x hx => h x (List.mem_cons_of_mem _ hx)
/-- How many changes are behind a minute. -/
def behind (cs : List (Int × Int)) (m : Int) : Nat := cs.countP fun c => decide (m < c.1)
theorem behind_mono (cs : List (Int × Int)) {m m' : Int} (h : m ≤ m') : behind cs m' ≤ behind cs m := by
  unfold behind
  refine List.countP_mono_left fun c _ hc => ?_
  simp only [decide_eq_true_eq] at hc ⊢
  omega
theorem behind_less : ∀ (cs : List (Int × Int)) {m m' : Int}, m ≤ m' → (∃ c ∈ cs, m < c.1 ∧ c.1 ≤ m') → behind cs m' + 1 ≤ behind cs m
  | [], _, _, _, ⟨c, hc, _⟩ => by simp at hc
  | a :: t, m, m', h, ⟨c, hc, h1, h2⟩ => by
    unfold behind
    rw [List.countP_cons, List.countP_cons]
    have hm := behind_mono t h
    unfold behind at hm
    rcases List.mem_cons.1 hc with rfl | hc
    · have e1 : decide (m' < c.1) = false := by simp; omega
      have e2 : decide (m < c.1) = true := by simp; omega
      simp [e1, e2]; omega
    · have ih := behind_less t h ⟨c, hc, h1, h2⟩
      unfold behind at ih
      have : (if decide (m' < a.1) = true then 1 else 0) ≤ (if decide (m < a.1) = true then 1 else 0) := by
        by_cases k : m' < a.1
        · have : m < a.1 := by omega
          simp [k, this]
        · simp [k]
      omega
theorem drift_chg (f : Int) (cs : List (Int × Int)) : ∀ (l : List Ev) (e : Ev), sortedE (e :: l) → chg ((e :: l).map fun x => valueD f cs x.m) ≤ behind cs e.m
  | [], e, _ => by simp [chg]
  | e' :: l, e, hs => by
    have ih := drift_chg f cs l e' hs.2
    have hlt := hs.1 e' (by simp)
    simp only [List.map_cons, chg] at ih ⊢
    by_cases hv : valueD f cs e.m = valueD f cs e'.m
    · rw [if_pos hv]
      have := behind_mono cs (m := e.m) (m' := e'.m) (by omega)
      omega
    · rw [if_neg hv]
      have hex : ∃ c ∈ cs, e.m < c.1 ∧ c.1 ≤ e'.m := by
        refine Classical.byContradiction fun hno => hv (valueD_congr cs f _ _ fun c hc => ?_)
        have : ¬ (e.m < c.1 ∧ c.1 ≤ e'.m) := fun k => hno ⟨c, hc, k⟩
        omega
      have := behind_less cs (m := e.m) (m' := e'.m) (by omega) hex
      omega
theorem behind_le (cs : List (Int × Int)) (m : Int) : behind cs m ≤ cs.length := List.countP_le_length
/-- A drift that fits the events is a way. -/
theorem drift_way {f : Int} {cs : List (Int × Int)} {l : List Ev} (hs : sortedE l) (hf : ∀ e ∈ l, fits1 e (valueD f cs e.m)) : Way l cs.length (l.map fun x => valueD f cs x.m) := by
  constructor
  · induction l with
    | nil => trivial
    | cons e t ih => exact ⟨hf e (by simp), ih hs.2 fun x hx => hf x (List.mem_cons_of_mem _ hx)⟩
  · match l, hs with
    | [], _ => simp [chg]
    | e :: t, hs => exact Nat.le_trans (drift_chg f cs t e hs) (behind_le _ _)
end Go.Proofs.YtcdjoegihmfanaaGreat
