/- The law GateUnits: kinds 1 to 14. -/
import Derived.Test.YtmckaoeofikdaaaOrcD
import Derived.Test.YtmckaoeofikdaaaZops
namespace Go.Proofs.Ytmckaoeofikdaaa.Lift
set_option maxRecDepth 100000
theorem units1 : yes ((mach Try.prog fns (orcZ tabD) 4000).call 7 [.int .i64 (1 : Nat)] []) = true := by kernel_rfl
theorem units2 : yes ((mach Try.prog fns (orcZ tabD) 4000).call 7 [.int .i64 (2 : Nat)] []) = true := by kernel_rfl
theorem units3 : yes ((mach Try.prog fns (orcZ tabD) 4000).call 7 [.int .i64 (3 : Nat)] []) = true := by kernel_rfl
theorem units4 : yes ((mach Try.prog fns (orcZ tabD) 4000).call 7 [.int .i64 (4 : Nat)] []) = true := by kernel_rfl
theorem units5 : yes ((mach Try.prog fns (orcZ tabD) 4000).call 7 [.int .i64 (5 : Nat)] []) = true := by kernel_rfl
theorem units6 : yes ((mach Try.prog fns (orcZ tabD) 4000).call 7 [.int .i64 (6 : Nat)] []) = true := by kernel_rfl
theorem units7 : yes ((mach Try.prog fns (orcZ tabD) 4000).call 7 [.int .i64 (7 : Nat)] []) = true := by kernel_rfl
theorem units8 : yes ((mach Try.prog fns (orcZ tabD) 4000).call 7 [.int .i64 (8 : Nat)] []) = true := by kernel_rfl
theorem units9 : yes ((mach Try.prog fns (orcZ tabD) 4000).call 7 [.int .i64 (9 : Nat)] []) = true := by kernel_rfl
theorem units10 : yes ((mach Try.prog fns (orcZ tabD) 4000).call 7 [.int .i64 (10 : Nat)] []) = true := by kernel_rfl
theorem units11 : yes ((mach Try.prog fns (orcZ tabD) 4000).call 7 [.int .i64 (11 : Nat)] []) = true := by kernel_rfl
theorem units12 : yes ((mach Try.prog fns (orcZ tabD) 4000).call 7 [.int .i64 (12 : Nat)] []) = true := by kernel_rfl
theorem units13 : yes ((mach Try.prog fns (orcZ tabD) 4000).call 7 [.int .i64 (13 : Nat)] []) = true := by kernel_rfl
theorem units14 : yes ((mach Try.prog fns (orcZ tabD) 4000).call 7 [.int .i64 (14 : Nat)] []) = true := by kernel_rfl
end Go.Proofs.Ytmckaoeofikdaaa.Lift
