/-
  No cell of these rows narrows 'for every input' (looked for: loops, veiled, ifaces, maps, wideKeys, modest, calm, conditions, laid).
  DERIVED. THE GIVEN ROWS OF THIS SEAT. 13 by the template 'for every input the law returns true; each argument reads behind the call as it read before'; 0 by the template 'total and deterministic' (their statements: YtcdjoegihmfanaaGreatTotals.lean).
  GIVEN WITH THE SEED: the statements are not yours to turn. If you find one false, say at which input.
  Laid BY PROGRAM, IN A SANDBOX (cutbox-rows.mjs): the forced cells as the released guide's own fill.sh prints them over the translation d2bde5bf711d2a4a… (all of the seat's roots in one cut). By AI agents, Wed Nov 11 2026. No macro, syntax, notation, axiom, sorry.
-/
import Derived.Test.YtcdjoegihmfanaaGreatChecked
import GoSem.Claim
import GoSem.ClaimJoined
import GoSem.ClaimMapViews
import Derived.JoinedTies
import Derived.KernelRfl
namespace Go.Proofs.YtcdjoegihmfanaaGreat
/- THE CELL 'sum', in the pinned program and in every row, IS THE sha256 OF THE DUMP (.gsa) THAT YtcdjoegihmfanaaGreatProg.lean LOADS. Nothing in Lean hashes anything: it is a label: what it is worth is what the hold of that sum in a sandbox is worth. -/
noncomputable def Tryz.pinned : Pinned := { name := "ytcdjoegihmfanaagreat", sum := "d2bde5bf711d2a4aa50289584ba5a8534de4b39988f39824433670c73df3a588", checked := Tryz.checked }
namespace Rows
def none {H : Type} : Left H := { results := [], args := [] }

/-- 'laystalllaw04.ScaleCan': WHATEVER THE INPUT: true; the input reads as it did. -/
def scaleCanSpec : ChangeSpec := { name := "scaleCan", fn := fun _ => fun
  | [d1, d2, d3, d4] => { results := [.lit (.bool true)], args := [d1, d2, d3, d4] }
  | _ => none }
def scaleCanRow : OpenClaim := { program := "ytcdjoegihmfanaagreat", sum := "d2bde5bf711d2a4aa50289584ba5a8534de4b39988f39824433670c73df3a588", func := "laystall/laystalllaw04.ScaleCan", spec := "scaleCan", unfollowed := true, recurses := true, apart := false }
def ScaleCanSaid : Prop := scaleCanRow.holds Tryz.pinned (OpenSpec.ofChange scaleCanSpec)

/-- ITS FALSE NEIGHBOUR: 'it returns false'. Refute it at one input. -/
def scaleCanWrong : ChangeSpec := { name := "scaleCan", fn := fun _ => fun
  | [d1, d2, d3, d4] => { results := [.lit (.bool false)], args := [d1, d2, d3, d4] }
  | _ => none }
def ScaleCanWrongFalsely : Prop := scaleCanRow.holds Tryz.pinned (OpenSpec.ofChange scaleCanWrong)

/-- 'laystalllaw04.ScaleMore': WHATEVER THE INPUT: true; the input reads as it did. -/
def scaleMoreSpec : ChangeSpec := { name := "scaleMore", fn := fun _ => fun
  | [d1, d2, d3] => { results := [.lit (.bool true)], args := [d1, d2, d3] }
  | _ => none }
def scaleMoreRow : OpenClaim := { program := "ytcdjoegihmfanaagreat", sum := "d2bde5bf711d2a4aa50289584ba5a8534de4b39988f39824433670c73df3a588", func := "laystall/laystalllaw04.ScaleMore", spec := "scaleMore", unfollowed := true, recurses := true, apart := false }
def ScaleMoreSaid : Prop := scaleMoreRow.holds Tryz.pinned (OpenSpec.ofChange scaleMoreSpec)

/-- ITS FALSE NEIGHBOUR: 'it returns false'. Refute it at one input. -/
def scaleMoreWrong : ChangeSpec := { name := "scaleMore", fn := fun _ => fun
  | [d1, d2, d3] => { results := [.lit (.bool false)], args := [d1, d2, d3] }
  | _ => none }
def ScaleMoreWrongFalsely : Prop := scaleMoreRow.holds Tryz.pinned (OpenSpec.ofChange scaleMoreWrong)

/-- 'laystalllaw04.ScaleShown': WHATEVER THE INPUT: true; the input reads as it did. -/
def scaleShownSpec : ChangeSpec := { name := "scaleShown", fn := fun _ => fun
  | [d1, d2, d3] => { results := [.lit (.bool true)], args := [d1, d2, d3] }
  | _ => none }
def scaleShownRow : OpenClaim := { program := "ytcdjoegihmfanaagreat", sum := "d2bde5bf711d2a4aa50289584ba5a8534de4b39988f39824433670c73df3a588", func := "laystall/laystalllaw04.ScaleShown", spec := "scaleShown", unfollowed := true, recurses := true, apart := false }
def ScaleShownSaid : Prop := scaleShownRow.holds Tryz.pinned (OpenSpec.ofChange scaleShownSpec)

/-- ITS FALSE NEIGHBOUR: 'it returns false'. Refute it at one input. -/
def scaleShownWrong : ChangeSpec := { name := "scaleShown", fn := fun _ => fun
  | [d1, d2, d3] => { results := [.lit (.bool false)], args := [d1, d2, d3] }
  | _ => none }
def ScaleShownWrongFalsely : Prop := scaleShownRow.holds Tryz.pinned (OpenSpec.ofChange scaleShownWrong)

/-- 'laystalllaw04.ScaleTorn': WHATEVER THE INPUT: true; the input reads as it did. -/
def scaleTornSpec : ChangeSpec := { name := "scaleTorn", fn := fun _ => fun
  | [d1, d2, d3] => { results := [.lit (.bool true)], args := [d1, d2, d3] }
  | _ => none }
def scaleTornRow : OpenClaim := { program := "ytcdjoegihmfanaagreat", sum := "d2bde5bf711d2a4aa50289584ba5a8534de4b39988f39824433670c73df3a588", func := "laystall/laystalllaw04.ScaleTorn", spec := "scaleTorn", unfollowed := true, recurses := true, apart := false }
def ScaleTornSaid : Prop := scaleTornRow.holds Tryz.pinned (OpenSpec.ofChange scaleTornSpec)

/-- ITS FALSE NEIGHBOUR: 'it returns false'. Refute it at one input. -/
def scaleTornWrong : ChangeSpec := { name := "scaleTorn", fn := fun _ => fun
  | [d1, d2, d3] => { results := [.lit (.bool false)], args := [d1, d2, d3] }
  | _ => none }
def ScaleTornWrongFalsely : Prop := scaleTornRow.holds Tryz.pinned (OpenSpec.ofChange scaleTornWrong)

/-- 'laystalllaw04.ScaleBooks': WHATEVER THE INPUT: true; the input reads as it did. -/
def scaleBooksSpec : ChangeSpec := { name := "scaleBooks", fn := fun _ => fun
  | [d1, d2, d3, d4, d5] => { results := [.lit (.bool true)], args := [d1, d2, d3, d4, d5] }
  | _ => none }
def scaleBooksRow : OpenClaim := { program := "ytcdjoegihmfanaagreat", sum := "d2bde5bf711d2a4aa50289584ba5a8534de4b39988f39824433670c73df3a588", func := "laystall/laystalllaw04.ScaleBooks", spec := "scaleBooks", unfollowed := true, recurses := true, apart := false }
def ScaleBooksSaid : Prop := scaleBooksRow.holds Tryz.pinned (OpenSpec.ofChange scaleBooksSpec)

/-- ITS FALSE NEIGHBOUR: 'it returns false'. Refute it at one input. -/
def scaleBooksWrong : ChangeSpec := { name := "scaleBooks", fn := fun _ => fun
  | [d1, d2, d3, d4, d5] => { results := [.lit (.bool false)], args := [d1, d2, d3, d4, d5] }
  | _ => none }
def ScaleBooksWrongFalsely : Prop := scaleBooksRow.holds Tryz.pinned (OpenSpec.ofChange scaleBooksWrong)

/-- 'laystalllaw04.ScaleFewest': WHATEVER THE INPUT: true; the input reads as it did. -/
def scaleFewestSpec : ChangeSpec := { name := "scaleFewest", fn := fun _ => fun
  | [d1, d2, d3, d4] => { results := [.lit (.bool true)], args := [d1, d2, d3, d4] }
  | _ => none }
def scaleFewestRow : OpenClaim := { program := "ytcdjoegihmfanaagreat", sum := "d2bde5bf711d2a4aa50289584ba5a8534de4b39988f39824433670c73df3a588", func := "laystall/laystalllaw04.ScaleFewest", spec := "scaleFewest", unfollowed := true, recurses := true, apart := false }
def ScaleFewestSaid : Prop := scaleFewestRow.holds Tryz.pinned (OpenSpec.ofChange scaleFewestSpec)

/-- ITS FALSE NEIGHBOUR: 'it returns false'. Refute it at one input. -/
def scaleFewestWrong : ChangeSpec := { name := "scaleFewest", fn := fun _ => fun
  | [d1, d2, d3, d4] => { results := [.lit (.bool false)], args := [d1, d2, d3, d4] }
  | _ => none }
def ScaleFewestWrongFalsely : Prop := scaleFewestRow.holds Tryz.pinned (OpenSpec.ofChange scaleFewestWrong)

/-- 'laystalllaw04.ScaleAgain': WHATEVER THE INPUT: true; the input reads as it did. -/
def scaleAgainSpec : ChangeSpec := { name := "scaleAgain", fn := fun _ => fun
  | [d1, d2, d3] => { results := [.lit (.bool true)], args := [d1, d2, d3] }
  | _ => none }
def scaleAgainRow : OpenClaim := { program := "ytcdjoegihmfanaagreat", sum := "d2bde5bf711d2a4aa50289584ba5a8534de4b39988f39824433670c73df3a588", func := "laystall/laystalllaw04.ScaleAgain", spec := "scaleAgain", unfollowed := true, recurses := true, apart := false }
def ScaleAgainSaid : Prop := scaleAgainRow.holds Tryz.pinned (OpenSpec.ofChange scaleAgainSpec)

/-- ITS FALSE NEIGHBOUR: 'it returns false'. Refute it at one input. -/
def scaleAgainWrong : ChangeSpec := { name := "scaleAgain", fn := fun _ => fun
  | [d1, d2, d3] => { results := [.lit (.bool false)], args := [d1, d2, d3] }
  | _ => none }
def ScaleAgainWrongFalsely : Prop := scaleAgainRow.holds Tryz.pinned (OpenSpec.ofChange scaleAgainWrong)

/-- 'laystalllaw04.ScaleLater': WHATEVER THE INPUT: true; the input reads as it did. -/
def scaleLaterSpec : ChangeSpec := { name := "scaleLater", fn := fun _ => fun
  | [d1, d2, d3] => { results := [.lit (.bool true)], args := [d1, d2, d3] }
  | _ => none }
def scaleLaterRow : OpenClaim := { program := "ytcdjoegihmfanaagreat", sum := "d2bde5bf711d2a4aa50289584ba5a8534de4b39988f39824433670c73df3a588", func := "laystall/laystalllaw04.ScaleLater", spec := "scaleLater", unfollowed := true, recurses := true, apart := false }
def ScaleLaterSaid : Prop := scaleLaterRow.holds Tryz.pinned (OpenSpec.ofChange scaleLaterSpec)

/-- ITS FALSE NEIGHBOUR: 'it returns false'. Refute it at one input. -/
def scaleLaterWrong : ChangeSpec := { name := "scaleLater", fn := fun _ => fun
  | [d1, d2, d3] => { results := [.lit (.bool false)], args := [d1, d2, d3] }
  | _ => none }
def ScaleLaterWrongFalsely : Prop := scaleLaterRow.holds Tryz.pinned (OpenSpec.ofChange scaleLaterWrong)

/-- 'laystalllaw04.ScaleProved': WHATEVER THE INPUT: true; the input reads as it did. -/
def scaleProvedSpec : ChangeSpec := { name := "scaleProved", fn := fun _ => fun
  | [d] => { results := [.lit (.bool true)], args := [d] }
  | _ => none }
def scaleProvedRow : OpenClaim := { program := "ytcdjoegihmfanaagreat", sum := "d2bde5bf711d2a4aa50289584ba5a8534de4b39988f39824433670c73df3a588", func := "laystall/laystalllaw04.ScaleProved", spec := "scaleProved", unfollowed := true, recurses := true, apart := false }
def ScaleProvedSaid : Prop := scaleProvedRow.holds Tryz.pinned (OpenSpec.ofChange scaleProvedSpec)

/-- ITS FALSE NEIGHBOUR: 'it returns false'. Refute it at one input. -/
def scaleProvedWrong : ChangeSpec := { name := "scaleProved", fn := fun _ => fun
  | [d] => { results := [.lit (.bool false)], args := [d] }
  | _ => none }
def ScaleProvedWrongFalsely : Prop := scaleProvedRow.holds Tryz.pinned (OpenSpec.ofChange scaleProvedWrong)

/-- 'laystalllaw04.ScaleNets': WHATEVER THE INPUT: true; the input reads as it did. -/
def scaleNetsSpec : ChangeSpec := { name := "scaleNets", fn := fun _ => fun
  | [d1, d2, d3] => { results := [.lit (.bool true)], args := [d1, d2, d3] }
  | _ => none }
def scaleNetsRow : OpenClaim := { program := "ytcdjoegihmfanaagreat", sum := "d2bde5bf711d2a4aa50289584ba5a8534de4b39988f39824433670c73df3a588", func := "laystall/laystalllaw04.ScaleNets", spec := "scaleNets", unfollowed := true, recurses := true, apart := false }
def ScaleNetsSaid : Prop := scaleNetsRow.holds Tryz.pinned (OpenSpec.ofChange scaleNetsSpec)

/-- ITS FALSE NEIGHBOUR: 'it returns false'. Refute it at one input. -/
def scaleNetsWrong : ChangeSpec := { name := "scaleNets", fn := fun _ => fun
  | [d1, d2, d3] => { results := [.lit (.bool false)], args := [d1, d2, d3] }
  | _ => none }
def ScaleNetsWrongFalsely : Prop := scaleNetsRow.holds Tryz.pinned (OpenSpec.ofChange scaleNetsWrong)

/-- 'laystalllaw04.ScaleDrifts': WHATEVER THE INPUT: true; the input reads as it did. -/
def scaleDriftsSpec : ChangeSpec := { name := "scaleDrifts", fn := fun _ => fun
  | [d1, d2] => { results := [.lit (.bool true)], args := [d1, d2] }
  | _ => none }
def scaleDriftsRow : OpenClaim := { program := "ytcdjoegihmfanaagreat", sum := "d2bde5bf711d2a4aa50289584ba5a8534de4b39988f39824433670c73df3a588", func := "laystall/laystalllaw04.ScaleDrifts", spec := "scaleDrifts", unfollowed := true, recurses := true, apart := false }
def ScaleDriftsSaid : Prop := scaleDriftsRow.holds Tryz.pinned (OpenSpec.ofChange scaleDriftsSpec)

/-- ITS FALSE NEIGHBOUR: 'it returns false'. Refute it at one input. -/
def scaleDriftsWrong : ChangeSpec := { name := "scaleDrifts", fn := fun _ => fun
  | [d1, d2] => { results := [.lit (.bool false)], args := [d1, d2] }
  | _ => none }
def ScaleDriftsWrongFalsely : Prop := scaleDriftsRow.holds Tryz.pinned (OpenSpec.ofChange scaleDriftsWrong)

/-- 'laystalllaw04.ScaleWeighed': WHATEVER THE INPUT: true; the input reads as it did. -/
def scaleWeighedSpec : ChangeSpec := { name := "scaleWeighed", fn := fun _ => fun
  | [d] => { results := [.lit (.bool true)], args := [d] }
  | _ => none }
def scaleWeighedRow : OpenClaim := { program := "ytcdjoegihmfanaagreat", sum := "d2bde5bf711d2a4aa50289584ba5a8534de4b39988f39824433670c73df3a588", func := "laystall/laystalllaw04.ScaleWeighed", spec := "scaleWeighed", unfollowed := true, recurses := true, apart := false }
def ScaleWeighedSaid : Prop := scaleWeighedRow.holds Tryz.pinned (OpenSpec.ofChange scaleWeighedSpec)

/-- ITS FALSE NEIGHBOUR: 'it returns false'. Refute it at one input. -/
def scaleWeighedWrong : ChangeSpec := { name := "scaleWeighed", fn := fun _ => fun
  | [d] => { results := [.lit (.bool false)], args := [d] }
  | _ => none }
def ScaleWeighedWrongFalsely : Prop := scaleWeighedRow.holds Tryz.pinned (OpenSpec.ofChange scaleWeighedWrong)

/-- 'laystalllaw04.ScaleSmall': WHATEVER THE INPUT: true; the input reads as it did. -/
def scaleSmallSpec : ChangeSpec := { name := "scaleSmall", fn := fun _ => fun
  | [] => { results := [.lit (.bool true)], args := [] }
  | _ => none }
def scaleSmallRow : OpenClaim := { program := "ytcdjoegihmfanaagreat", sum := "d2bde5bf711d2a4aa50289584ba5a8534de4b39988f39824433670c73df3a588", func := "laystall/laystalllaw04.ScaleSmall", spec := "scaleSmall", unfollowed := true, recurses := true, apart := false }
def ScaleSmallSaid : Prop := scaleSmallRow.holds Tryz.pinned (OpenSpec.ofChange scaleSmallSpec)

/-- ITS FALSE NEIGHBOUR: 'it returns false'. Refute it at one input. -/
def scaleSmallWrong : ChangeSpec := { name := "scaleSmall", fn := fun _ => fun
  | [] => { results := [.lit (.bool false)], args := [] }
  | _ => none }
def ScaleSmallWrongFalsely : Prop := scaleSmallRow.holds Tryz.pinned (OpenSpec.ofChange scaleSmallWrong)

/- THE SECOND FORM. 'bulk': how many values and letters a reading holds, each counted each time it is reached (what is shared counts as often as it is met; a slice's spare places count too). A statement '..UptoSaid' is the law's where the arguments, and the package variables that the reading takes, are together of bulk at most 1048576: NARROWER than '..Said'. Prove '..Said' where nothing that the law and all that it calls make is longer than what came in: it says more and counts as full. Else prove '..UptoSaid'. A law counts once. -/
mutual
def uptoBulk {H : Type} : DataW H → Nat
  | .lit (.string bytes) => bytes.length + 1
  | .lit _ => 1
  | .nil => 1
  | .ptr d => uptoBulk d + 1
  | .slice elems spare => uptoBulkAll elems + uptoBulkAll spare + 1
  | .agg parts => uptoBulkAll parts + 1
  | .iface _ d => uptoBulk d + 1
  | .map entries => uptoBulkEntries entries + 1
  | .held _ => 1
def uptoBulkAll {H : Type} : List (DataW H) → Nat
  | [] => 0
  | d :: r => uptoBulk d + uptoBulkAll r
def uptoBulkEntries {H : Type} : List (Lit × DataW H) → Nat
  | [] => 0
  | x :: r => uptoBulkEntry x + uptoBulkEntries r
def uptoBulkEntry {H : Type} : Lit × DataW H → Nat
  | (.string bytes, d) => bytes.length + uptoBulk d + 1
  | (_, d) => uptoBulk d + 1
 end
def uptoSmall : (H : Type) → List (DataW H) → Bool := fun _ ds => decide (uptoBulkAll ds ≤ 1048576)
def OpenSpec.upto (s : _root_.Go.ChangeSpec) : _root_.Go.OpenSpec := { _root_.Go.OpenSpec.ofChange s with cond := some uptoSmall }

/-- 'laystalllaw04.ScaleCan', WHERE WHAT IT READS IS OF BULK AT MOST 1048576: true; the input reads as it did. -/
def scaleCanUptoRow : OpenClaim := { program := "ytcdjoegihmfanaagreat", sum := "d2bde5bf711d2a4aa50289584ba5a8534de4b39988f39824433670c73df3a588", func := "laystall/laystalllaw04.ScaleCan", spec := "scaleCan", unfollowed := true, recurses := true, apart := false, narrowed := true }
def ScaleCanUptoSaid : Prop := scaleCanUptoRow.holds Tryz.pinned (OpenSpec.upto scaleCanSpec)

/-- 'laystalllaw04.ScaleMore', WHERE WHAT IT READS IS OF BULK AT MOST 1048576: true; the input reads as it did. -/
def scaleMoreUptoRow : OpenClaim := { program := "ytcdjoegihmfanaagreat", sum := "d2bde5bf711d2a4aa50289584ba5a8534de4b39988f39824433670c73df3a588", func := "laystall/laystalllaw04.ScaleMore", spec := "scaleMore", unfollowed := true, recurses := true, apart := false, narrowed := true }
def ScaleMoreUptoSaid : Prop := scaleMoreUptoRow.holds Tryz.pinned (OpenSpec.upto scaleMoreSpec)

/-- 'laystalllaw04.ScaleShown', WHERE WHAT IT READS IS OF BULK AT MOST 1048576: true; the input reads as it did. -/
def scaleShownUptoRow : OpenClaim := { program := "ytcdjoegihmfanaagreat", sum := "d2bde5bf711d2a4aa50289584ba5a8534de4b39988f39824433670c73df3a588", func := "laystall/laystalllaw04.ScaleShown", spec := "scaleShown", unfollowed := true, recurses := true, apart := false, narrowed := true }
def ScaleShownUptoSaid : Prop := scaleShownUptoRow.holds Tryz.pinned (OpenSpec.upto scaleShownSpec)

/-- 'laystalllaw04.ScaleTorn', WHERE WHAT IT READS IS OF BULK AT MOST 1048576: true; the input reads as it did. -/
def scaleTornUptoRow : OpenClaim := { program := "ytcdjoegihmfanaagreat", sum := "d2bde5bf711d2a4aa50289584ba5a8534de4b39988f39824433670c73df3a588", func := "laystall/laystalllaw04.ScaleTorn", spec := "scaleTorn", unfollowed := true, recurses := true, apart := false, narrowed := true }
def ScaleTornUptoSaid : Prop := scaleTornUptoRow.holds Tryz.pinned (OpenSpec.upto scaleTornSpec)

/-- 'laystalllaw04.ScaleBooks', WHERE WHAT IT READS IS OF BULK AT MOST 1048576: true; the input reads as it did. -/
def scaleBooksUptoRow : OpenClaim := { program := "ytcdjoegihmfanaagreat", sum := "d2bde5bf711d2a4aa50289584ba5a8534de4b39988f39824433670c73df3a588", func := "laystall/laystalllaw04.ScaleBooks", spec := "scaleBooks", unfollowed := true, recurses := true, apart := false, narrowed := true }
def ScaleBooksUptoSaid : Prop := scaleBooksUptoRow.holds Tryz.pinned (OpenSpec.upto scaleBooksSpec)

/-- 'laystalllaw04.ScaleFewest', WHERE WHAT IT READS IS OF BULK AT MOST 1048576: true; the input reads as it did. -/
def scaleFewestUptoRow : OpenClaim := { program := "ytcdjoegihmfanaagreat", sum := "d2bde5bf711d2a4aa50289584ba5a8534de4b39988f39824433670c73df3a588", func := "laystall/laystalllaw04.ScaleFewest", spec := "scaleFewest", unfollowed := true, recurses := true, apart := false, narrowed := true }
def ScaleFewestUptoSaid : Prop := scaleFewestUptoRow.holds Tryz.pinned (OpenSpec.upto scaleFewestSpec)

/-- 'laystalllaw04.ScaleAgain', WHERE WHAT IT READS IS OF BULK AT MOST 1048576: true; the input reads as it did. -/
def scaleAgainUptoRow : OpenClaim := { program := "ytcdjoegihmfanaagreat", sum := "d2bde5bf711d2a4aa50289584ba5a8534de4b39988f39824433670c73df3a588", func := "laystall/laystalllaw04.ScaleAgain", spec := "scaleAgain", unfollowed := true, recurses := true, apart := false, narrowed := true }
def ScaleAgainUptoSaid : Prop := scaleAgainUptoRow.holds Tryz.pinned (OpenSpec.upto scaleAgainSpec)

/-- 'laystalllaw04.ScaleLater', WHERE WHAT IT READS IS OF BULK AT MOST 1048576: true; the input reads as it did. -/
def scaleLaterUptoRow : OpenClaim := { program := "ytcdjoegihmfanaagreat", sum := "d2bde5bf711d2a4aa50289584ba5a8534de4b39988f39824433670c73df3a588", func := "laystall/laystalllaw04.ScaleLater", spec := "scaleLater", unfollowed := true, recurses := true, apart := false, narrowed := true }
def ScaleLaterUptoSaid : Prop := scaleLaterUptoRow.holds Tryz.pinned (OpenSpec.upto scaleLaterSpec)

/-- 'laystalllaw04.ScaleProved', WHERE WHAT IT READS IS OF BULK AT MOST 1048576: true; the input reads as it did. -/
def scaleProvedUptoRow : OpenClaim := { program := "ytcdjoegihmfanaagreat", sum := "d2bde5bf711d2a4aa50289584ba5a8534de4b39988f39824433670c73df3a588", func := "laystall/laystalllaw04.ScaleProved", spec := "scaleProved", unfollowed := true, recurses := true, apart := false, narrowed := true }
def ScaleProvedUptoSaid : Prop := scaleProvedUptoRow.holds Tryz.pinned (OpenSpec.upto scaleProvedSpec)

/-- 'laystalllaw04.ScaleNets', WHERE WHAT IT READS IS OF BULK AT MOST 1048576: true; the input reads as it did. -/
def scaleNetsUptoRow : OpenClaim := { program := "ytcdjoegihmfanaagreat", sum := "d2bde5bf711d2a4aa50289584ba5a8534de4b39988f39824433670c73df3a588", func := "laystall/laystalllaw04.ScaleNets", spec := "scaleNets", unfollowed := true, recurses := true, apart := false, narrowed := true }
def ScaleNetsUptoSaid : Prop := scaleNetsUptoRow.holds Tryz.pinned (OpenSpec.upto scaleNetsSpec)

/-- 'laystalllaw04.ScaleDrifts', WHERE WHAT IT READS IS OF BULK AT MOST 1048576: true; the input reads as it did. -/
def scaleDriftsUptoRow : OpenClaim := { program := "ytcdjoegihmfanaagreat", sum := "d2bde5bf711d2a4aa50289584ba5a8534de4b39988f39824433670c73df3a588", func := "laystall/laystalllaw04.ScaleDrifts", spec := "scaleDrifts", unfollowed := true, recurses := true, apart := false, narrowed := true }
def ScaleDriftsUptoSaid : Prop := scaleDriftsUptoRow.holds Tryz.pinned (OpenSpec.upto scaleDriftsSpec)

/-- 'laystalllaw04.ScaleWeighed', WHERE WHAT IT READS IS OF BULK AT MOST 1048576: true; the input reads as it did. -/
def scaleWeighedUptoRow : OpenClaim := { program := "ytcdjoegihmfanaagreat", sum := "d2bde5bf711d2a4aa50289584ba5a8534de4b39988f39824433670c73df3a588", func := "laystall/laystalllaw04.ScaleWeighed", spec := "scaleWeighed", unfollowed := true, recurses := true, apart := false, narrowed := true }
def ScaleWeighedUptoSaid : Prop := scaleWeighedUptoRow.holds Tryz.pinned (OpenSpec.upto scaleWeighedSpec)

/-- 'laystalllaw04.ScaleSmall', WHERE WHAT IT READS IS OF BULK AT MOST 1048576: true; the input reads as it did. -/
def scaleSmallUptoRow : OpenClaim := { program := "ytcdjoegihmfanaagreat", sum := "d2bde5bf711d2a4aa50289584ba5a8534de4b39988f39824433670c73df3a588", func := "laystall/laystalllaw04.ScaleSmall", spec := "scaleSmall", unfollowed := true, recurses := true, apart := false, narrowed := true }
def ScaleSmallUptoSaid : Prop := scaleSmallUptoRow.holds Tryz.pinned (OpenSpec.upto scaleSmallSpec)

end Rows
end Go.Proofs.YtcdjoegihmfanaaGreat
