/- The law GateUnits: kind 18. -/
import Derived.Test.YtmckaoeofikdaaaOrcD
import Derived.Test.YtmckaoeofikdaaaZops
namespace Go.Proofs.Ytmckaoeofikdaaa.Lift
set_option maxRecDepth 100000
theorem units18 : yes ((mach Try.prog fns (orcZ tabD) 4000).call 7 [.int .i64 (18 : Nat)] []) = true := by kernel_rfl
end Go.Proofs.Ytmckaoeofikdaaa.Lift
