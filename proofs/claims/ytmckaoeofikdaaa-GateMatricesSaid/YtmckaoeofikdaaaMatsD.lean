/- The law GateMatrices, index a sign: kinds 18 to 20. -/
import Derived.Test.YtmckaoeofikdaaaMovB
namespace Go.Proofs.Ytmckaoeofikdaaa.Lift
set_option maxRecDepth 100000
theorem mats17_f : matsAt 17 false = true := by kernel_rfl
theorem mats17_t : matsAt 17 true = true := by kernel_rfl
theorem mats18_f : matsAt 18 false = true := by kernel_rfl
theorem mats18_t : matsAt 18 true = true := by kernel_rfl
theorem mats19_f : matsAt 19 false = true := by kernel_rfl
theorem mats19_t : matsAt 19 true = true := by kernel_rfl
end Go.Proofs.Ytmckaoeofikdaaa.Lift
