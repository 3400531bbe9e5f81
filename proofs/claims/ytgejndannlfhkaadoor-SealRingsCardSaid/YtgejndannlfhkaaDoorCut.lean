/- A function's loops, taken out of its body by their number, so that each can be walked in a theorem of its own. No condition. -/
import Derived.Test.YtgejndannlfhkaaDoorProg
namespace Go.Proofs.YtgejndannlfhkaaDoor
open Go
/-- The loops of a piece of code, from the first on, each ahead of those in it. -/
def loopsOf : Code → List Code
  | .loop c => .loop c :: loopsOf c
  | .seq a b => loopsOf a ++ loopsOf b
  | .block _ c => loopsOf c
  | .scope c => loopsOf c
  | .cond _ a b => loopsOf a ++ loopsOf b
  | .rangeFunc _ _ a b => loopsOf a ++ loopsOf b
  | _ => []
noncomputable def loopNo (f : Func) (k : Nat) : Code := ((loopsOf (f.body.getD .skip))[k]?).getD .skip
end Go.Proofs.YtgejndannlfhkaaDoor
