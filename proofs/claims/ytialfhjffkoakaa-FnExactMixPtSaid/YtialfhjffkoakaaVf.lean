/- Facts of the program alone, shared by the laws of the seat. -/
import Derived.Test.YtialfhjffkoakaaRows
import Derived.ProofKit
import Derived.JoinedOf
namespace Go.Proofs.Ytialfhjffkoakaa
set_option maxRecDepth 100000
theorem programFacts : (Try.prog.make, Try.prog.liftsFinal, Try.prog.mayEnter) = (some Rows.fnExactSumOfRow.make, Rows.fnExactSumOfRow.lifted, true) := by kernel_rfl
theorem makeFact : Try.prog.make = some Rows.fnExactSumOfRow.make := (Prod.mk.inj programFacts).1
theorem liftsFact : Try.prog.liftsFinal = Rows.fnExactSumOfRow.lifted := (Prod.mk.inj (Prod.mk.inj programFacts).2).1
theorem enterFact : Try.prog.mayEnter = true := (Prod.mk.inj (Prod.mk.inj programFacts).2).2
end Go.Proofs.Ytialfhjffkoakaa
