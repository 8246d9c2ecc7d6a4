/- Words of BlocksLoads: Blocks.Load answers as ref05 says. Conditions: those that the statement itself has. -/
import Derived.Test.YtdlfflgcmgkmeaaVBlocksLoadsInv
import Derived.Test.YtdlfflgcmgkmeaaVBlocksLoadsFootNe
namespace Go.Proofs.YtdlfflgcmgkmeaaW.PrintWords
open Go.RowKit
end Go.Proofs.YtdlfflgcmgkmeaaW.PrintWords
namespace Go.Proofs.YtdlfflgcmgkmeaaW.PrintLast
section
variable {ops : Array Oper} {a : Act} {o og : Oper} {g : Nat} {t : Tmp} {u : Bool}
end
end Go.Proofs.YtdlfflgcmgkmeaaW.PrintLast
