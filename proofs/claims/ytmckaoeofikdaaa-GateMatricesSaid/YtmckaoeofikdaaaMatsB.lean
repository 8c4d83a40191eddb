/- The law GateMatrices, index a sign: kinds 8 to 14. -/
import Derived.Test.YtmckaoeofikdaaaMovB
namespace Go.Proofs.Ytmckaoeofikdaaa.Lift
set_option maxRecDepth 100000
theorem mats7_f : matsAt 7 false = true := by kernel_rfl
theorem mats8_f : matsAt 8 false = true := by kernel_rfl
theorem mats9_f : matsAt 9 false = true := by kernel_rfl
theorem mats10_f : matsAt 10 false = true := by kernel_rfl
theorem mats10_t : matsAt 10 true = true := by kernel_rfl
theorem mats11_f : matsAt 11 false = true := by kernel_rfl
theorem mats11_t : matsAt 11 true = true := by kernel_rfl
theorem mats12_f : matsAt 12 false = true := by kernel_rfl
theorem mats12_t : matsAt 12 true = true := by kernel_rfl
theorem mats13_f : matsAt 13 false = true := by kernel_rfl
theorem mats13_t : matsAt 13 true = true := by kernel_rfl
end Go.Proofs.Ytmckaoeofikdaaa.Lift
