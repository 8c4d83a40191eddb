/- The law GateMatrices, index a sign: kinds 15 to 17. -/
import Derived.Test.YtmckaoeofikdaaaMovB
namespace Go.Proofs.Ytmckaoeofikdaaa.Lift
set_option maxRecDepth 100000
theorem mats14_f : matsAt 14 false = true := by kernel_rfl
theorem mats14_t : matsAt 14 true = true := by kernel_rfl
theorem mats15_f : matsAt 15 false = true := by kernel_rfl
theorem mats15_t : matsAt 15 true = true := by kernel_rfl
theorem mats16_f : matsAt 16 false = true := by kernel_rfl
end Go.Proofs.Ytmckaoeofikdaaa.Lift
