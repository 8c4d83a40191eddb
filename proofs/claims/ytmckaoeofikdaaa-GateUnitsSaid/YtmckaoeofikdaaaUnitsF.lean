/- The law GateUnits, for every kind. -/
import Derived.Test.YtmckaoeofikdaaaUnitsA
import Derived.Test.YtmckaoeofikdaaaUnitsB
import Derived.Test.YtmckaoeofikdaaaUnitsC
import Derived.Test.YtmckaoeofikdaaaUnitsD
import Derived.Test.YtmckaoeofikdaaaUnitsE
namespace Go.Proofs.Ytmckaoeofikdaaa.Lift
open Go.RowKit
set_option maxRecDepth 100000
theorem units_lo : yes ((@mach kLow Try.prog fns (orcZ tabD) 4000).call 7 [.chan (some 0)] []) = true := by kernel_rfl
theorem units_hi : yes ((@mach kHigh Try.prog fns (orcZ tabD) 4000).call 7 [.chan (some 0)] []) = true := by kernel_rfl
theorem units_in (k : Nat) (h1 : 1 ≤ k) (h2 : k ≤ 20) : yes ((mach Try.prog fns (orcZ tabD) 4000).call 7 [.int .i64 k] []) = true := by
  have h : k = 1 ∨ k = 2 ∨ k = 3 ∨ k = 4 ∨ k = 5 ∨ k = 6 ∨ k = 7 ∨ k = 8 ∨ k = 9 ∨ k = 10 ∨ k = 11 ∨ k = 12 ∨ k = 13 ∨ k = 14 ∨ k = 15 ∨ k = 16 ∨ k = 17 ∨ k = 18 ∨ k = 19 ∨ k = 20 := by omega
  rcases h with rfl | rfl | rfl | rfl | rfl | rfl | rfl | rfl | rfl | rfl | rfl | rfl | rfl | rfl | rfl | rfl | rfl | rfl | rfl | rfl
  · exact units1
  · exact units2
  · exact units3
  · exact units4
  · exact units5
  · exact units6
  · exact units7
  · exact units8
  · exact units9
  · exact units10
  · exact units11
  · exact units12
  · exact units13
  · exact units14
  · exact units15
  · exact units16
  · exact units17
  · exact units18
  · exact units19
  · exact units20
theorem units_walk (k : Int) (w : World) (hk : (Lit.int .i64 k).wf = true) : Calls Try.prog 7 #[.int .i64 k] w fun e w' => e = .returned (.bool true) ∧ Below w.heap.size w w' :=
  law_of_kind (fun S => @orcZ_sound S _ (@tabD_good S)) units_in units_lo units_hi k hk w
end Go.Proofs.Ytmckaoeofikdaaa.Lift
