/- The law GateMatrices, index a sign: kinds 1 to 7. -/
import Derived.Test.YtmckaoeofikdaaaMovB
namespace Go.Proofs.Ytmckaoeofikdaaa.Lift
set_option maxRecDepth 100000
theorem mats0_f : matsAt 0 false = true := by kernel_rfl
theorem mats0_t : matsAt 0 true = true := by kernel_rfl
theorem mats1_f : matsAt 1 false = true := by kernel_rfl
theorem mats1_t : matsAt 1 true = true := by kernel_rfl
theorem mats2_f : matsAt 2 false = true := by kernel_rfl
theorem mats2_t : matsAt 2 true = true := by kernel_rfl
theorem mats3_f : matsAt 3 false = true := by kernel_rfl
theorem mats3_t : matsAt 3 true = true := by kernel_rfl
theorem mats4_f : matsAt 4 false = true := by kernel_rfl
theorem mats4_t : matsAt 4 true = true := by kernel_rfl
theorem mats5_f : matsAt 5 false = true := by kernel_rfl
theorem mats5_t : matsAt 5 true = true := by kernel_rfl
theorem mats6_f : matsAt 6 false = true := by kernel_rfl
end Go.Proofs.Ytmckaoeofikdaaa.Lift
