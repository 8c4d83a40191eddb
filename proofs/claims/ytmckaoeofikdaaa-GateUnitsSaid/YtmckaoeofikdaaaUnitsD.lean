/- The law GateUnits: kind 19. -/
import Derived.Test.YtmckaoeofikdaaaOrcD
import Derived.Test.YtmckaoeofikdaaaZops
namespace Go.Proofs.Ytmckaoeofikdaaa.Lift
set_option maxRecDepth 100000
theorem units19 : yes ((mach Try.prog fns (orcZ tabD) 4000).call 7 [.int .i64 (19 : Nat)] []) = true := by kernel_rfl
end Go.Proofs.Ytmckaoeofikdaaa.Lift
