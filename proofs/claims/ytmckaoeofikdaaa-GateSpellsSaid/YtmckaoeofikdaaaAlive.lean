/- What the second machine tells of alive: true. -/
import Derived.Test.YtmckaoeofikdaaaOrcB
namespace Go.Proofs.Ytmckaoeofikdaaa.Lift
set_option maxRecDepth 100000
variable [Syms]
noncomputable def aliveE : Ent := ⟨[], .bool true, []⟩
theorem alive_good : Good 39 aliveE := good_flat tabB_sound (n := 4000) (v := aliveE.val) (by kernel_rfl) (by kernel_rfl) (by kernel_rfl)
end Go.Proofs.Ytmckaoeofikdaaa.Lift
