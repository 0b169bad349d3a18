/- FeeSmall: parts of its code. -/
import Derived.Test.YtfojjecnmfkcfaaGreatSmC
import Derived.Deep.DeepCutAuto
import Derived.StillTailTactics
namespace Go.Proofs.YtfojjecnmfkcfaaGreat
open Go.ChangeShapes Go.WideShapes Go.ChangeAt Go.RowKit Go.Joins
set_option linter.unusedVariables false
def smLoops : Code → List Code
  | .loop c => [c]
  | .seq a b => smLoops a ++ smLoops b
  | .block _ c => smLoops c
  | .scope c => smLoops c
  | .cond _ a b => smLoops a ++ smLoops b
  | _ => []
def smFind (n : Nat) : Code → Option Code
  | .region id ops dr => if id = n then some (.region id ops dr) else none
  | .loop c => smFind n c
  | .seq a b => match smFind n a with
    | some c => some c
    | none => smFind n b
  | .block _ c => smFind n c
  | .scope c => smFind n c
  | .cond _ a b => match smFind n a with
    | some c => some c
    | none => smFind n b
  | _ => none
noncomputable def smBody (k : Nat) : Code := (((Tryz.f3.body.map smLoops).getD [])[k]?).getD .skip
noncomputable def smReg (n : Nat) : Code := (Tryz.f3.body.bind (smFind n)).getD .skip
end Go.Proofs.YtfojjecnmfkcfaaGreat
