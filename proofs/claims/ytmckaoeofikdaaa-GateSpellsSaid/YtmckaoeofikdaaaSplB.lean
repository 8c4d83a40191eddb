/- The group of gate.Word, and the numbers that memory holds: a product of two of its matrices, told to one place more, is twice a third one. -/
import Derived.Test.YtmckaoeofikdaaaSpl
import Derived.Test.YtmckaoeofikdaaaCEq
import Derived.Test.YtmckaoeofikdaaaMat
namespace Go.Proofs.Ytmckaoeofikdaaa.Lift
open Go.Proofs.Ytmckaoeofikdaaa.Spl

def toZ (m : M8) (i : Nat) : Zi := [(m.a, m.b), (m.c, m.d), (m.e, m.f), (m.g, m.h)].getD i (0, 0)
theorem gen_mat : ∀ k : Fin 10, ∀ i : Fin 4, matF ((k.val + 1 : Nat) : Int) i = toZ (gen (k + 1)) i := by decide +kernel
theorem gen_mul : ∀ i : Fin 96, ∀ k : Fin 10, ∀ j : Fin 4, mulM 2 (toZ (gen (k + 1))) (toZ (at_ i)) j = (2 * (toZ (at_ (to_ i (k + 1))) j).1, 2 * (toZ (at_ (to_ i (k + 1))) j).2) := by decide +kernel
theorem at_small : ∀ i : Fin 96, ∀ j : Fin 4, (toZ (at_ i) j).1.natAbs ≤ 2 ∧ (toZ (at_ i) j).2.natAbs ≤ 2 := by decide +kernel
theorem at_same : ∀ i : Fin 96, ∀ j : Fin 96, sameM 4 (toZ (at_ i)) (toZ (at_ j)) = decide (i = j) := by decide +kernel
end Go.Proofs.Ytmckaoeofikdaaa.Lift
