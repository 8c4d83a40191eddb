/- The law GateUnits: kinds 15 to 17. -/
import Derived.Test.YtmckaoeofikdaaaOrcD
import Derived.Test.YtmckaoeofikdaaaZops
namespace Go.Proofs.Ytmckaoeofikdaaa.Lift
set_option maxRecDepth 100000
theorem units15 : yes ((mach Try.prog fns (orcZ tabD) 4000).call 7 [.int .i64 (15 : Nat)] []) = true := by kernel_rfl
theorem units16 : yes ((mach Try.prog fns (orcZ tabD) 4000).call 7 [.int .i64 (16 : Nat)] []) = true := by kernel_rfl
theorem units17 : yes ((mach Try.prog fns (orcZ tabD) 4000).call 7 [.int .i64 (17 : Nat)] []) = true := by kernel_rfl
end Go.Proofs.Ytmckaoeofikdaaa.Lift
