/- The table with Moves in it, the index a sign. -/
import Derived.Test.YtmckaoeofikdaaaMovA
namespace Go.Proofs.Ytmckaoeofikdaaa.Lift
open Go.RowKit
set_option maxRecDepth 100000
noncomputable def tabM (k : Nat) (b : Bool) : List (FuncId × List Ent) := (45, [movE k b]) :: (54, [movE k b]) :: tabD
@[reducible] noncomputable def kM : Known := (bounds [none, none, none, none] []).known ints
noncomputable def matsAt (k : Nat) (b : Bool) : Bool := yes ((@mach kM Try.prog fns (tabO (tabM k b)) 4000).call 12 [.int .i64 ((k + 1 : Nat) : Int), .chan (some 1)] [])
end Go.Proofs.Ytmckaoeofikdaaa.Lift
