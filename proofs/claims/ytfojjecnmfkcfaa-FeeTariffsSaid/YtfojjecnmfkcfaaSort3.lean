/- The stable sort, called through. -/
import Derived.Test.YtfojjecnmfkcfaaSort2
namespace Go.Proofs.Ytfojjecnmfkcfaa
open Go.RowKit
set_option linter.unusedVariables false
set_option maxHeartbeats 1000000 in
theorem stable_any (bb bd g : Nat) (p : Int) (A : Option Addr) (c : Nat) (hs : List (Int × Int × Int)) (ps : List Int) (B bs cap : Nat) (d : List Int) (w : World) (he : CmpEnv w bb bd g p A c hs ps B) (ho : housesOk hs) (h0 : valueSum hs ≠ 0) (hp : 0 ≤ p) (hp5 : p ≤ 500)
    (hL : Lst w bs d) (h1 : bs ≠ bb) (h2 : bs ≠ bd) (h3 : bs ≠ g) (h4 : B ≤ bs) (hd1 : 1 ≤ d.length) (hd6 : d.length ≤ 6) (hm : ∀ x ∈ d, ∃ i : Nat, x = i ∧ i < hs.length) :
    Calls Try.prog 148 #[.slice (some ⟨bs, 0, none⟩) d.length cap, .int .i64 d.length, .func (.func 121) #[] #[.pointer (some ⟨bb, 0, none⟩), .pointer (some ⟨bd, 0, none⟩)]] w (SortedTo bs (insSort (ltRem p hs) d) w) := by
  have HI := Lib.hid (insertion_any bb bd g p A c hs ps B bs cap d w he ho h0 hp hp5 hL h1 h2 h3 h4 hd1 hd6 hm)
  clear he ho h0 hL hm
  go_enter Try.func148, Try.ntmps148
  go_wp2_with fail
  go_loopw [7, 8] (fun a b wr => a = .int .i64 0 ∧ b = .int .i64 20 ∧ wr = w) (fun _ _ _ => 0)
  case atStart => exact ⟨rfl, rfl, rfl⟩
  case round =>
    obtain ⟨rfl, rfl, rfl⟩ := hrel
    have hn : ¬ ((20 : Int) ≤ (d.length : Int)) := by omega
    have hn2 : ¬ ((20 : Int) < (d.length : Int)) := by omega
    go_wp2_with fail
    refine HI.out.mono ?_
    rintro e w' ⟨rfl, hL', hg'⟩
    go_wp2_with fail
    go_loopw [6, 7, 8, 9] (fun a _ _ _ wr => a = .int .i64 20 ∧ wr = w') (fun _ _ _ _ _ => 0)
    case atStart => exact ⟨rfl, rfl⟩
    case round =>
      obtain ⟨rfl, rfl⟩ := hrel
      go_wp2_with fail
      go_end0
      exact ⟨rfl, hL', hg'⟩
theorem sortStable_any (bb bd g : Nat) (p : Int) (A : Option Addr) (c : Nat) (hs : List (Int × Int × Int)) (ps : List Int) (B bs cap : Nat) (d : List Int) (w : World) (he : CmpEnv w bb bd g p A c hs ps B) (ho : housesOk hs) (h0 : valueSum hs ≠ 0) (hp : 0 ≤ p) (hp5 : p ≤ 500)
    (hL : Lst w bs d) (h1 : bs ≠ bb) (h2 : bs ≠ bd) (h3 : bs ≠ g) (h4 : B ≤ bs) (hd1 : 1 ≤ d.length) (hd6 : d.length ≤ 6) (hm : ∀ x ∈ d, ∃ i : Nat, x = i ∧ i < hs.length) :
    Calls Try.prog 120 #[.slice (some ⟨bs, 0, none⟩) d.length cap, .func (.func 121) #[] #[.pointer (some ⟨bb, 0, none⟩), .pointer (some ⟨bd, 0, none⟩)]] w (SortedTo bs (insSort (ltRem p hs) d) w) := by
  have HI := Lib.hid (stable_any bb bd g p A c hs ps B bs cap d w he ho h0 hp hp5 hL h1 h2 h3 h4 hd1 hd6 hm)
  clear he ho h0 hL hm
  go_enter Try.func120, Try.ntmps120
  go_wp2_with fail
  refine HI.out.mono ?_
  rintro e w' ⟨rfl, hL', hg'⟩
  go_wp2_with fail
  go_end0
  exact ⟨rfl, hL', hg'⟩
end Go.Proofs.Ytfojjecnmfkcfaa
