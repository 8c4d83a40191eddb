/- The table with alive in it. -/
import Derived.Test.YtmckaoeofikdaaaAlive
import Derived.Test.YtmckaoeofikdaaaOrcC
namespace Go.Proofs.Ytmckaoeofikdaaa.Lift
set_option maxRecDepth 100000
variable [Syms]
noncomputable def tabD : List (FuncId × List Ent) := (39, [aliveE]) :: tabC
theorem tabD_good : TabGood tabD := ⟨⟨alive_good, trivial⟩, tabC_good⟩
theorem tabD_sound : OrcSound Try.prog (tabO tabD) := tabO_sound tabD_good
end Go.Proofs.Ytmckaoeofikdaaa.Lift
