/- Facts of the program alone, shared by the laws of the seat. -/
import Derived.Test.YtialfhjffkoakaaGreatRows
import Derived.ProofKit
import Derived.JoinedOf
namespace Go.Proofs.YtialfhjffkoakaaGreat
set_option maxRecDepth 100000
theorem programFacts : (Tryz.prog.make, Tryz.prog.liftsFinal, Tryz.prog.mayEnter) = (some Rows.fnExactRingAreaRow.make, Rows.fnExactRingAreaRow.lifted, true) := by kernel_rfl
theorem makeFact : Tryz.prog.make = some Rows.fnExactRingAreaRow.make := (Prod.mk.inj programFacts).1
theorem liftsFact : Tryz.prog.liftsFinal = Rows.fnExactRingAreaRow.lifted := (Prod.mk.inj (Prod.mk.inj programFacts).2).1
theorem enterFact : Tryz.prog.mayEnter = true := (Prod.mk.inj (Prod.mk.inj programFacts).2).2
end Go.Proofs.YtialfhjffkoakaaGreat
