/-
  No cell of these rows narrows 'for every input' (looked for: loops, veiled, ifaces, maps, wideKeys, modest, calm, conditions, laid).
  DERIVED. THE GIVEN ROWS OF THIS SEAT. 13 by the template 'for every input the law returns true; each argument reads behind the call as it read before'; 0 by the template 'total and deterministic' (their statements: YtfojjecnmfkcfaaTotals.lean).
  GIVEN WITH THE SEED: the statements are not yours to turn. If you find one false, say at which input.
  Laid BY PROGRAM, IN A SANDBOX (cutbox-rows.mjs): the forced cells as the released guide's own fill.sh prints them over the translation b18990b2cff99d69… (all of the seat's roots in one cut). By AI agents, Wed Nov 11 2026. No macro, syntax, notation, axiom, sorry.
-/
import Derived.Test.YtfojjecnmfkcfaaChecked
import GoSem.Claim
import GoSem.ClaimJoined
import GoSem.ClaimMapViews
import Derived.JoinedTies
import Derived.KernelRfl
namespace Go.Proofs.Ytfojjecnmfkcfaa
/- THE CELL 'sum', in the pinned program and in every row, IS THE sha256 OF THE DUMP (.gsa) THAT YtfojjecnmfkcfaaProg.lean LOADS. Nothing in Lean hashes anything: it is a label: what it is worth is what the hold of that sum in a sandbox is worth. -/
noncomputable def Try.pinned : Pinned := { name := "ytfojjecnmfkcfaa", sum := "b18990b2cff99d691f1b33751e8b17a5bd15fea288e691530264a40cc4cbafc4", checked := Try.checked }
namespace Rows
def none {H : Type} : Left H := { results := [], args := [] }

/-- 'laystalllaw10.FeeTariffs': WHATEVER THE INPUT: true; the input reads as it did. -/
def feeTariffsSpec : ChangeSpec := { name := "feeTariffs", fn := fun _ => fun
  | [d1, d2, d3] => { results := [.lit (.bool true)], args := [d1, d2, d3] }
  | _ => none }
def feeTariffsRow : OpenClaim := { program := "ytfojjecnmfkcfaa", sum := "b18990b2cff99d691f1b33751e8b17a5bd15fea288e691530264a40cc4cbafc4", func := "laystall/laystalllaw10.FeeTariffs", spec := "feeTariffs", unfollowed := true, recurses := true, apart := false }
def FeeTariffsSaid : Prop := feeTariffsRow.holds Try.pinned (OpenSpec.ofChange feeTariffsSpec)

/-- ITS FALSE NEIGHBOUR: 'it returns false'. Refute it at one input. -/
def feeTariffsWrong : ChangeSpec := { name := "feeTariffs", fn := fun _ => fun
  | [d1, d2, d3] => { results := [.lit (.bool false)], args := [d1, d2, d3] }
  | _ => none }
def FeeTariffsWrongFalsely : Prop := feeTariffsRow.holds Try.pinned (OpenSpec.ofChange feeTariffsWrong)

/-- 'laystalllaw10.FeeAppeals': WHATEVER THE INPUT: true; the input reads as it did. -/
def feeAppealsSpec : ChangeSpec := { name := "feeAppeals", fn := fun _ => fun
  | [d1, d2, d3, d4] => { results := [.lit (.bool true)], args := [d1, d2, d3, d4] }
  | _ => none }
def feeAppealsRow : OpenClaim := { program := "ytfojjecnmfkcfaa", sum := "b18990b2cff99d691f1b33751e8b17a5bd15fea288e691530264a40cc4cbafc4", func := "laystall/laystalllaw10.FeeAppeals", spec := "feeAppeals", unfollowed := true, recurses := true, apart := false }
def FeeAppealsSaid : Prop := feeAppealsRow.holds Try.pinned (OpenSpec.ofChange feeAppealsSpec)

/-- ITS FALSE NEIGHBOUR: 'it returns false'. Refute it at one input. -/
def feeAppealsWrong : ChangeSpec := { name := "feeAppeals", fn := fun _ => fun
  | [d1, d2, d3, d4] => { results := [.lit (.bool false)], args := [d1, d2, d3, d4] }
  | _ => none }
def FeeAppealsWrongFalsely : Prop := feeAppealsRow.holds Try.pinned (OpenSpec.ofChange feeAppealsWrong)

/-- 'laystalllaw10.FeeBid': WHATEVER THE INPUT: true; the input reads as it did. -/
def feeBidSpec : ChangeSpec := { name := "feeBid", fn := fun _ => fun
  | [d1, d2] => { results := [.lit (.bool true)], args := [d1, d2] }
  | _ => none }
def feeBidRow : OpenClaim := { program := "ytfojjecnmfkcfaa", sum := "b18990b2cff99d691f1b33751e8b17a5bd15fea288e691530264a40cc4cbafc4", func := "laystall/laystalllaw10.FeeBid", spec := "feeBid", unfollowed := true, recurses := true, apart := false }
def FeeBidSaid : Prop := feeBidRow.holds Try.pinned (OpenSpec.ofChange feeBidSpec)

/-- ITS FALSE NEIGHBOUR: 'it returns false'. Refute it at one input. -/
def feeBidWrong : ChangeSpec := { name := "feeBid", fn := fun _ => fun
  | [d1, d2] => { results := [.lit (.bool false)], args := [d1, d2] }
  | _ => none }
def FeeBidWrongFalsely : Prop := feeBidRow.holds Try.pinned (OpenSpec.ofChange feeBidWrong)

/-- 'laystalllaw10.FeeMore': WHATEVER THE INPUT: true; the input reads as it did. -/
def feeMoreSpec : ChangeSpec := { name := "feeMore", fn := fun _ => fun
  | [d1, d2, d3] => { results := [.lit (.bool true)], args := [d1, d2, d3] }
  | _ => none }
def feeMoreRow : OpenClaim := { program := "ytfojjecnmfkcfaa", sum := "b18990b2cff99d691f1b33751e8b17a5bd15fea288e691530264a40cc4cbafc4", func := "laystall/laystalllaw10.FeeMore", spec := "feeMore", unfollowed := true, recurses := true, apart := false }
def FeeMoreSaid : Prop := feeMoreRow.holds Try.pinned (OpenSpec.ofChange feeMoreSpec)

/-- ITS FALSE NEIGHBOUR: 'it returns false'. Refute it at one input. -/
def feeMoreWrong : ChangeSpec := { name := "feeMore", fn := fun _ => fun
  | [d1, d2, d3] => { results := [.lit (.bool false)], args := [d1, d2, d3] }
  | _ => none }
def FeeMoreWrongFalsely : Prop := feeMoreRow.holds Try.pinned (OpenSpec.ofChange feeMoreWrong)

/-- 'laystalllaw10.FeeWorth': WHATEVER THE INPUT: true; the input reads as it did. -/
def feeWorthSpec : ChangeSpec := { name := "feeWorth", fn := fun _ => fun
  | [d1, d2, d3] => { results := [.lit (.bool true)], args := [d1, d2, d3] }
  | _ => none }
def feeWorthRow : OpenClaim := { program := "ytfojjecnmfkcfaa", sum := "b18990b2cff99d691f1b33751e8b17a5bd15fea288e691530264a40cc4cbafc4", func := "laystall/laystalllaw10.FeeWorth", spec := "feeWorth", unfollowed := true, recurses := true, apart := false }
def FeeWorthSaid : Prop := feeWorthRow.holds Try.pinned (OpenSpec.ofChange feeWorthSpec)

/-- ITS FALSE NEIGHBOUR: 'it returns false'. Refute it at one input. -/
def feeWorthWrong : ChangeSpec := { name := "feeWorth", fn := fun _ => fun
  | [d1, d2, d3] => { results := [.lit (.bool false)], args := [d1, d2, d3] }
  | _ => none }
def FeeWorthWrongFalsely : Prop := feeWorthRow.holds Try.pinned (OpenSpec.ofChange feeWorthWrong)

/-- 'laystalllaw10.FeeCosts': WHATEVER THE INPUT: true; the input reads as it did. -/
def feeCostsSpec : ChangeSpec := { name := "feeCosts", fn := fun _ => fun
  | [d1, d2, d3] => { results := [.lit (.bool true)], args := [d1, d2, d3] }
  | _ => none }
def feeCostsRow : OpenClaim := { program := "ytfojjecnmfkcfaa", sum := "b18990b2cff99d691f1b33751e8b17a5bd15fea288e691530264a40cc4cbafc4", func := "laystall/laystalllaw10.FeeCosts", spec := "feeCosts", unfollowed := true, recurses := true, apart := false }
def FeeCostsSaid : Prop := feeCostsRow.holds Try.pinned (OpenSpec.ofChange feeCostsSpec)

/-- ITS FALSE NEIGHBOUR: 'it returns false'. Refute it at one input. -/
def feeCostsWrong : ChangeSpec := { name := "feeCosts", fn := fun _ => fun
  | [d1, d2, d3] => { results := [.lit (.bool false)], args := [d1, d2, d3] }
  | _ => none }
def FeeCostsWrongFalsely : Prop := feeCostsRow.holds Try.pinned (OpenSpec.ofChange feeCostsWrong)

/-- 'laystalllaw10.FeeEarlier': WHATEVER THE INPUT: true; the input reads as it did. -/
def feeEarlierSpec : ChangeSpec := { name := "feeEarlier", fn := fun _ => fun
  | [d1, d2, d3] => { results := [.lit (.bool true)], args := [d1, d2, d3] }
  | _ => none }
def feeEarlierRow : OpenClaim := { program := "ytfojjecnmfkcfaa", sum := "b18990b2cff99d691f1b33751e8b17a5bd15fea288e691530264a40cc4cbafc4", func := "laystall/laystalllaw10.FeeEarlier", spec := "feeEarlier", unfollowed := true, recurses := true, apart := false }
def FeeEarlierSaid : Prop := feeEarlierRow.holds Try.pinned (OpenSpec.ofChange feeEarlierSpec)

/-- ITS FALSE NEIGHBOUR: 'it returns false'. Refute it at one input. -/
def feeEarlierWrong : ChangeSpec := { name := "feeEarlier", fn := fun _ => fun
  | [d1, d2, d3] => { results := [.lit (.bool false)], args := [d1, d2, d3] }
  | _ => none }
def FeeEarlierWrongFalsely : Prop := feeEarlierRow.holds Try.pinned (OpenSpec.ofChange feeEarlierWrong)

/-- 'laystalllaw10.FeeShares': WHATEVER THE INPUT: true; the input reads as it did. -/
def feeSharesSpec : ChangeSpec := { name := "feeShares", fn := fun _ => fun
  | [d] => { results := [.lit (.bool true)], args := [d] }
  | _ => none }
def feeSharesRow : OpenClaim := { program := "ytfojjecnmfkcfaa", sum := "b18990b2cff99d691f1b33751e8b17a5bd15fea288e691530264a40cc4cbafc4", func := "laystall/laystalllaw10.FeeShares", spec := "feeShares", unfollowed := true, recurses := true, apart := false }
def FeeSharesSaid : Prop := feeSharesRow.holds Try.pinned (OpenSpec.ofChange feeSharesSpec)

/-- ITS FALSE NEIGHBOUR: 'it returns false'. Refute it at one input. -/
def feeSharesWrong : ChangeSpec := { name := "feeShares", fn := fun _ => fun
  | [d] => { results := [.lit (.bool false)], args := [d] }
  | _ => none }
def FeeSharesWrongFalsely : Prop := feeSharesRow.holds Try.pinned (OpenSpec.ofChange feeSharesWrong)

/-- 'laystalllaw10.FeeAccounts': WHATEVER THE INPUT: true; the input reads as it did. -/
def feeAccountsSpec : ChangeSpec := { name := "feeAccounts", fn := fun _ => fun
  | [d1, d2] => { results := [.lit (.bool true)], args := [d1, d2] }
  | _ => none }
def feeAccountsRow : OpenClaim := { program := "ytfojjecnmfkcfaa", sum := "b18990b2cff99d691f1b33751e8b17a5bd15fea288e691530264a40cc4cbafc4", func := "laystall/laystalllaw10.FeeAccounts", spec := "feeAccounts", unfollowed := true, recurses := true, apart := false }
def FeeAccountsSaid : Prop := feeAccountsRow.holds Try.pinned (OpenSpec.ofChange feeAccountsSpec)

/-- ITS FALSE NEIGHBOUR: 'it returns false'. Refute it at one input. -/
def feeAccountsWrong : ChangeSpec := { name := "feeAccounts", fn := fun _ => fun
  | [d1, d2] => { results := [.lit (.bool false)], args := [d1, d2] }
  | _ => none }
def FeeAccountsWrongFalsely : Prop := feeAccountsRow.holds Try.pinned (OpenSpec.ofChange feeAccountsWrong)

/-- 'laystalllaw10.FeeLast': WHATEVER THE INPUT: true; the input reads as it did. -/
def feeLastSpec : ChangeSpec := { name := "feeLast", fn := fun _ => fun
  | [d] => { results := [.lit (.bool true)], args := [d] }
  | _ => none }
def feeLastRow : OpenClaim := { program := "ytfojjecnmfkcfaa", sum := "b18990b2cff99d691f1b33751e8b17a5bd15fea288e691530264a40cc4cbafc4", func := "laystall/laystalllaw10.FeeLast", spec := "feeLast", unfollowed := true, recurses := true, apart := false }
def FeeLastSaid : Prop := feeLastRow.holds Try.pinned (OpenSpec.ofChange feeLastSpec)

/-- ITS FALSE NEIGHBOUR: 'it returns false'. Refute it at one input. -/
def feeLastWrong : ChangeSpec := { name := "feeLast", fn := fun _ => fun
  | [d] => { results := [.lit (.bool false)], args := [d] }
  | _ => none }
def FeeLastWrongFalsely : Prop := feeLastRow.holds Try.pinned (OpenSpec.ofChange feeLastWrong)

/-- 'laystalllaw10.FeePaid': WHATEVER THE INPUT: true; the input reads as it did. -/
def feePaidSpec : ChangeSpec := { name := "feePaid", fn := fun _ => fun
  | [d] => { results := [.lit (.bool true)], args := [d] }
  | _ => none }
def feePaidRow : OpenClaim := { program := "ytfojjecnmfkcfaa", sum := "b18990b2cff99d691f1b33751e8b17a5bd15fea288e691530264a40cc4cbafc4", func := "laystall/laystalllaw10.FeePaid", spec := "feePaid", unfollowed := true, recurses := true, apart := false }
def FeePaidSaid : Prop := feePaidRow.holds Try.pinned (OpenSpec.ofChange feePaidSpec)

/-- ITS FALSE NEIGHBOUR: 'it returns false'. Refute it at one input. -/
def feePaidWrong : ChangeSpec := { name := "feePaid", fn := fun _ => fun
  | [d] => { results := [.lit (.bool false)], args := [d] }
  | _ => none }
def FeePaidWrongFalsely : Prop := feePaidRow.holds Try.pinned (OpenSpec.ofChange feePaidWrong)

/-- 'laystalllaw10.FeeDue': WHATEVER THE INPUT: true; the input reads as it did. -/
def feeDueSpec : ChangeSpec := { name := "feeDue", fn := fun _ => fun
  | [d1, d2] => { results := [.lit (.bool true)], args := [d1, d2] }
  | _ => none }
def feeDueRow : OpenClaim := { program := "ytfojjecnmfkcfaa", sum := "b18990b2cff99d691f1b33751e8b17a5bd15fea288e691530264a40cc4cbafc4", func := "laystall/laystalllaw10.FeeDue", spec := "feeDue", unfollowed := true, recurses := true, apart := false }
def FeeDueSaid : Prop := feeDueRow.holds Try.pinned (OpenSpec.ofChange feeDueSpec)

/-- ITS FALSE NEIGHBOUR: 'it returns false'. Refute it at one input. -/
def feeDueWrong : ChangeSpec := { name := "feeDue", fn := fun _ => fun
  | [d1, d2] => { results := [.lit (.bool false)], args := [d1, d2] }
  | _ => none }
def FeeDueWrongFalsely : Prop := feeDueRow.holds Try.pinned (OpenSpec.ofChange feeDueWrong)

/-- 'laystalllaw10.FeeGiven': WHATEVER THE INPUT: true; the input reads as it did. -/
def feeGivenSpec : ChangeSpec := { name := "feeGiven", fn := fun _ => fun
  | [d1, d2, d3, d4] => { results := [.lit (.bool true)], args := [d1, d2, d3, d4] }
  | _ => none }
def feeGivenRow : OpenClaim := { program := "ytfojjecnmfkcfaa", sum := "b18990b2cff99d691f1b33751e8b17a5bd15fea288e691530264a40cc4cbafc4", func := "laystall/laystalllaw10.FeeGiven", spec := "feeGiven", unfollowed := true, recurses := true, apart := false }
def FeeGivenSaid : Prop := feeGivenRow.holds Try.pinned (OpenSpec.ofChange feeGivenSpec)

/-- ITS FALSE NEIGHBOUR: 'it returns false'. Refute it at one input. -/
def feeGivenWrong : ChangeSpec := { name := "feeGiven", fn := fun _ => fun
  | [d1, d2, d3, d4] => { results := [.lit (.bool false)], args := [d1, d2, d3, d4] }
  | _ => none }
def FeeGivenWrongFalsely : Prop := feeGivenRow.holds Try.pinned (OpenSpec.ofChange feeGivenWrong)

/- THE SECOND FORM. 'bulk': how many values and letters a reading holds, each counted each time it is reached (what is shared counts as often as it is met; a slice's spare places count too). A statement '..UptoSaid' is the law's where the arguments, and the package variables that the reading takes, are together of bulk at most 1048576: NARROWER than '..Said'. Prove '..Said' where nothing that the law and all that it calls make is longer than what came in: it says more and counts as full. Else prove '..UptoSaid'. A law counts once. -/
mutual
def uptoBulk {H : Type} : DataW H → Nat
  | .lit (.string bytes) => bytes.length + 1
  | .lit _ => 1
  | .nil => 1
  | .ptr d => uptoBulk d + 1
  | .slice elems spare => uptoBulkAll elems + uptoBulkAll spare + 1
  | .agg parts => uptoBulkAll parts + 1
  | .iface _ d => uptoBulk d + 1
  | .map entries => uptoBulkEntries entries + 1
  | .held _ => 1
def uptoBulkAll {H : Type} : List (DataW H) → Nat
  | [] => 0
  | d :: r => uptoBulk d + uptoBulkAll r
def uptoBulkEntries {H : Type} : List (Lit × DataW H) → Nat
  | [] => 0
  | x :: r => uptoBulkEntry x + uptoBulkEntries r
def uptoBulkEntry {H : Type} : Lit × DataW H → Nat
  | (.string bytes, d) => bytes.length + uptoBulk d + 1
  | (_, d) => uptoBulk d + 1
 end
def uptoSmall : (H : Type) → List (DataW H) → Bool := fun _ ds => decide (uptoBulkAll ds ≤ 1048576)
def OpenSpec.upto (s : _root_.Go.ChangeSpec) : _root_.Go.OpenSpec := { _root_.Go.OpenSpec.ofChange s with cond := some uptoSmall }

/-- 'laystalllaw10.FeeTariffs', WHERE WHAT IT READS IS OF BULK AT MOST 1048576: true; the input reads as it did. -/
def feeTariffsUptoRow : OpenClaim := { program := "ytfojjecnmfkcfaa", sum := "b18990b2cff99d691f1b33751e8b17a5bd15fea288e691530264a40cc4cbafc4", func := "laystall/laystalllaw10.FeeTariffs", spec := "feeTariffs", unfollowed := true, recurses := true, apart := false, narrowed := true }
def FeeTariffsUptoSaid : Prop := feeTariffsUptoRow.holds Try.pinned (OpenSpec.upto feeTariffsSpec)

/-- 'laystalllaw10.FeeAppeals', WHERE WHAT IT READS IS OF BULK AT MOST 1048576: true; the input reads as it did. -/
def feeAppealsUptoRow : OpenClaim := { program := "ytfojjecnmfkcfaa", sum := "b18990b2cff99d691f1b33751e8b17a5bd15fea288e691530264a40cc4cbafc4", func := "laystall/laystalllaw10.FeeAppeals", spec := "feeAppeals", unfollowed := true, recurses := true, apart := false, narrowed := true }
def FeeAppealsUptoSaid : Prop := feeAppealsUptoRow.holds Try.pinned (OpenSpec.upto feeAppealsSpec)

/-- 'laystalllaw10.FeeBid', WHERE WHAT IT READS IS OF BULK AT MOST 1048576: true; the input reads as it did. -/
def feeBidUptoRow : OpenClaim := { program := "ytfojjecnmfkcfaa", sum := "b18990b2cff99d691f1b33751e8b17a5bd15fea288e691530264a40cc4cbafc4", func := "laystall/laystalllaw10.FeeBid", spec := "feeBid", unfollowed := true, recurses := true, apart := false, narrowed := true }
def FeeBidUptoSaid : Prop := feeBidUptoRow.holds Try.pinned (OpenSpec.upto feeBidSpec)

/-- 'laystalllaw10.FeeMore', WHERE WHAT IT READS IS OF BULK AT MOST 1048576: true; the input reads as it did. -/
def feeMoreUptoRow : OpenClaim := { program := "ytfojjecnmfkcfaa", sum := "b18990b2cff99d691f1b33751e8b17a5bd15fea288e691530264a40cc4cbafc4", func := "laystall/laystalllaw10.FeeMore", spec := "feeMore", unfollowed := true, recurses := true, apart := false, narrowed := true }
def FeeMoreUptoSaid : Prop := feeMoreUptoRow.holds Try.pinned (OpenSpec.upto feeMoreSpec)

/-- 'laystalllaw10.FeeWorth', WHERE WHAT IT READS IS OF BULK AT MOST 1048576: true; the input reads as it did. -/
def feeWorthUptoRow : OpenClaim := { program := "ytfojjecnmfkcfaa", sum := "b18990b2cff99d691f1b33751e8b17a5bd15fea288e691530264a40cc4cbafc4", func := "laystall/laystalllaw10.FeeWorth", spec := "feeWorth", unfollowed := true, recurses := true, apart := false, narrowed := true }
def FeeWorthUptoSaid : Prop := feeWorthUptoRow.holds Try.pinned (OpenSpec.upto feeWorthSpec)

/-- 'laystalllaw10.FeeCosts', WHERE WHAT IT READS IS OF BULK AT MOST 1048576: true; the input reads as it did. -/
def feeCostsUptoRow : OpenClaim := { program := "ytfojjecnmfkcfaa", sum := "b18990b2cff99d691f1b33751e8b17a5bd15fea288e691530264a40cc4cbafc4", func := "laystall/laystalllaw10.FeeCosts", spec := "feeCosts", unfollowed := true, recurses := true, apart := false, narrowed := true }
def FeeCostsUptoSaid : Prop := feeCostsUptoRow.holds Try.pinned (OpenSpec.upto feeCostsSpec)

/-- 'laystalllaw10.FeeEarlier', WHERE WHAT IT READS IS OF BULK AT MOST 1048576: true; the input reads as it did. -/
def feeEarlierUptoRow : OpenClaim := { program := "ytfojjecnmfkcfaa", sum := "b18990b2cff99d691f1b33751e8b17a5bd15fea288e691530264a40cc4cbafc4", func := "laystall/laystalllaw10.FeeEarlier", spec := "feeEarlier", unfollowed := true, recurses := true, apart := false, narrowed := true }
def FeeEarlierUptoSaid : Prop := feeEarlierUptoRow.holds Try.pinned (OpenSpec.upto feeEarlierSpec)

/-- 'laystalllaw10.FeeShares', WHERE WHAT IT READS IS OF BULK AT MOST 1048576: true; the input reads as it did. -/
def feeSharesUptoRow : OpenClaim := { program := "ytfojjecnmfkcfaa", sum := "b18990b2cff99d691f1b33751e8b17a5bd15fea288e691530264a40cc4cbafc4", func := "laystall/laystalllaw10.FeeShares", spec := "feeShares", unfollowed := true, recurses := true, apart := false, narrowed := true }
def FeeSharesUptoSaid : Prop := feeSharesUptoRow.holds Try.pinned (OpenSpec.upto feeSharesSpec)

/-- 'laystalllaw10.FeeAccounts', WHERE WHAT IT READS IS OF BULK AT MOST 1048576: true; the input reads as it did. -/
def feeAccountsUptoRow : OpenClaim := { program := "ytfojjecnmfkcfaa", sum := "b18990b2cff99d691f1b33751e8b17a5bd15fea288e691530264a40cc4cbafc4", func := "laystall/laystalllaw10.FeeAccounts", spec := "feeAccounts", unfollowed := true, recurses := true, apart := false, narrowed := true }
def FeeAccountsUptoSaid : Prop := feeAccountsUptoRow.holds Try.pinned (OpenSpec.upto feeAccountsSpec)

/-- 'laystalllaw10.FeeLast', WHERE WHAT IT READS IS OF BULK AT MOST 1048576: true; the input reads as it did. -/
def feeLastUptoRow : OpenClaim := { program := "ytfojjecnmfkcfaa", sum := "b18990b2cff99d691f1b33751e8b17a5bd15fea288e691530264a40cc4cbafc4", func := "laystall/laystalllaw10.FeeLast", spec := "feeLast", unfollowed := true, recurses := true, apart := false, narrowed := true }
def FeeLastUptoSaid : Prop := feeLastUptoRow.holds Try.pinned (OpenSpec.upto feeLastSpec)

/-- 'laystalllaw10.FeePaid', WHERE WHAT IT READS IS OF BULK AT MOST 1048576: true; the input reads as it did. -/
def feePaidUptoRow : OpenClaim := { program := "ytfojjecnmfkcfaa", sum := "b18990b2cff99d691f1b33751e8b17a5bd15fea288e691530264a40cc4cbafc4", func := "laystall/laystalllaw10.FeePaid", spec := "feePaid", unfollowed := true, recurses := true, apart := false, narrowed := true }
def FeePaidUptoSaid : Prop := feePaidUptoRow.holds Try.pinned (OpenSpec.upto feePaidSpec)

/-- 'laystalllaw10.FeeDue', WHERE WHAT IT READS IS OF BULK AT MOST 1048576: true; the input reads as it did. -/
def feeDueUptoRow : OpenClaim := { program := "ytfojjecnmfkcfaa", sum := "b18990b2cff99d691f1b33751e8b17a5bd15fea288e691530264a40cc4cbafc4", func := "laystall/laystalllaw10.FeeDue", spec := "feeDue", unfollowed := true, recurses := true, apart := false, narrowed := true }
def FeeDueUptoSaid : Prop := feeDueUptoRow.holds Try.pinned (OpenSpec.upto feeDueSpec)

/-- 'laystalllaw10.FeeGiven', WHERE WHAT IT READS IS OF BULK AT MOST 1048576: true; the input reads as it did. -/
def feeGivenUptoRow : OpenClaim := { program := "ytfojjecnmfkcfaa", sum := "b18990b2cff99d691f1b33751e8b17a5bd15fea288e691530264a40cc4cbafc4", func := "laystall/laystalllaw10.FeeGiven", spec := "feeGiven", unfollowed := true, recurses := true, apart := false, narrowed := true }
def FeeGivenUptoSaid : Prop := feeGivenUptoRow.holds Try.pinned (OpenSpec.upto feeGivenSpec)

end Rows
end Go.Proofs.Ytfojjecnmfkcfaa
