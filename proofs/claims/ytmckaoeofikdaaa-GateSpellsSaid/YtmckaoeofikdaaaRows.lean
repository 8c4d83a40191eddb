/-
  No cell of these rows narrows 'for every input' (looked for: loops, veiled, ifaces, maps, wideKeys, modest, calm, conditions, laid).
  DERIVED. THE GIVEN ROWS OF THIS SEAT. 11 by the template 'for every input the law returns true; each argument reads behind the call as it read before'; 0 by the template 'total and deterministic' (their statements: YtmckaoeofikdaaaTotals.lean).
  GIVEN WITH THE SEED: the statements are not yours to turn. If you find one false, say at which input.
  Laid BY PROGRAM, IN A SANDBOX (cutbox-rows.mjs): the forced cells as the released guide's own fill.sh prints them over the translation 2a9ca94ed211a49b… (all of the seat's roots in one cut). By AI agents, Wed Nov 11 2026. No macro, syntax, notation, axiom, sorry.
-/
import Derived.Test.YtmckaoeofikdaaaChecked
import GoSem.Claim
import GoSem.ClaimJoined
import GoSem.ClaimMapViews
import Derived.JoinedTies
import Derived.KernelRfl
namespace Go.Proofs.Ytmckaoeofikdaaa
/- THE CELL 'sum', in the pinned program and in every row, IS THE sha256 OF THE DUMP (.gsa) THAT YtmckaoeofikdaaaProg.lean LOADS. Nothing in Lean hashes anything: it is a label: what it is worth is what the hold of that sum in a sandbox is worth. -/
noncomputable def Try.pinned : Pinned := { name := "ytmckaoeofikdaaa", sum := "2a9ca94ed211a49bc8e720af6753a4310314b602adaea661da790f4018af083b", checked := Try.checked }
namespace Rows
def none {H : Type} : Left H := { results := [], args := [] }

/-- 'phasorlaw10.ApplyNames': WHATEVER THE INPUT: true; the input reads as it did. -/
def applyNamesSpec : ChangeSpec := { name := "applyNames", fn := fun _ => fun
  | [] => { results := [.lit (.bool true)], args := [] }
  | _ => none }
def applyNamesRow : OpenClaim := { program := "ytmckaoeofikdaaa", sum := "2a9ca94ed211a49bc8e720af6753a4310314b602adaea661da790f4018af083b", func := "phasor/phasorlaw10.ApplyNames", spec := "applyNames", apart := false }
def ApplyNamesSaid : Prop := applyNamesRow.holds Try.pinned (OpenSpec.ofChange applyNamesSpec)

/-- ITS FALSE NEIGHBOUR: 'it returns false'. Refute it at one input. -/
def applyNamesWrong : ChangeSpec := { name := "applyNames", fn := fun _ => fun
  | [] => { results := [.lit (.bool false)], args := [] }
  | _ => none }
def ApplyNamesWrongFalsely : Prop := applyNamesRow.holds Try.pinned (OpenSpec.ofChange applyNamesWrong)

/-- 'phasorlaw06.GateNames': WHATEVER THE INPUT: true; the input reads as it did. -/
def gateNamesSpec : ChangeSpec := { name := "gateNames", fn := fun _ => fun
  | [] => { results := [.lit (.bool true)], args := [] }
  | _ => none }
def gateNamesRow : OpenClaim := { program := "ytmckaoeofikdaaa", sum := "2a9ca94ed211a49bc8e720af6753a4310314b602adaea661da790f4018af083b", func := "phasor/phasorlaw06.GateNames", spec := "gateNames", apart := false }
def GateNamesSaid : Prop := gateNamesRow.holds Try.pinned (OpenSpec.ofChange gateNamesSpec)

/-- ITS FALSE NEIGHBOUR: 'it returns false'. Refute it at one input. -/
def gateNamesWrong : ChangeSpec := { name := "gateNames", fn := fun _ => fun
  | [] => { results := [.lit (.bool false)], args := [] }
  | _ => none }
def GateNamesWrongFalsely : Prop := gateNamesRow.holds Try.pinned (OpenSpec.ofChange gateNamesWrong)

/-- 'phasorlaw11.OddsChoose': WHATEVER THE INPUT: true; the input reads as it did. -/
def oddsChooseSpec : ChangeSpec := { name := "oddsChoose", fn := fun _ => fun
  | [d1, d2, d3] => { results := [.lit (.bool true)], args := [d1, d2, d3] }
  | _ => none }
def oddsChooseRow : OpenClaim := { program := "ytmckaoeofikdaaa", sum := "2a9ca94ed211a49bc8e720af6753a4310314b602adaea661da790f4018af083b", func := "phasor/phasorlaw11.OddsChoose", spec := "oddsChoose", inPlace := ["math.Float64bits", "math.Float64frombits"], unfollowed := true, recurses := true, apart := false }
def OddsChooseSaid : Prop := oddsChooseRow.holds Try.pinned (OpenSpec.ofChange oddsChooseSpec)

/-- ITS FALSE NEIGHBOUR: 'it returns false'. Refute it at one input. -/
def oddsChooseWrong : ChangeSpec := { name := "oddsChoose", fn := fun _ => fun
  | [d1, d2, d3] => { results := [.lit (.bool false)], args := [d1, d2, d3] }
  | _ => none }
def OddsChooseWrongFalsely : Prop := oddsChooseRow.holds Try.pinned (OpenSpec.ofChange oddsChooseWrong)

/-- 'phasorlaw06.GateLooks': WHATEVER THE INPUT: true; the input reads as it did. -/
def gateLooksSpec : ChangeSpec := { name := "gateLooks", fn := fun _ => fun
  | [d1, d2] => { results := [.lit (.bool true)], args := [d1, d2] }
  | _ => none }
def gateLooksRow : OpenClaim := { program := "ytmckaoeofikdaaa", sum := "2a9ca94ed211a49bc8e720af6753a4310314b602adaea661da790f4018af083b", func := "phasor/phasorlaw06.GateLooks", spec := "gateLooks", unfollowed := true, recurses := true, apart := false }
def GateLooksSaid : Prop := gateLooksRow.holds Try.pinned (OpenSpec.ofChange gateLooksSpec)

/-- ITS FALSE NEIGHBOUR: 'it returns false'. Refute it at one input. -/
def gateLooksWrong : ChangeSpec := { name := "gateLooks", fn := fun _ => fun
  | [d1, d2] => { results := [.lit (.bool false)], args := [d1, d2] }
  | _ => none }
def GateLooksWrongFalsely : Prop := gateLooksRow.holds Try.pinned (OpenSpec.ofChange gateLooksWrong)

/-- 'phasorlaw06.GateUnits': WHATEVER THE INPUT: true; the input reads as it did. -/
def gateUnitsSpec : ChangeSpec := { name := "gateUnits", fn := fun _ => fun
  | [d] => { results := [.lit (.bool true)], args := [d] }
  | _ => none }
def gateUnitsRow : OpenClaim := { program := "ytmckaoeofikdaaa", sum := "2a9ca94ed211a49bc8e720af6753a4310314b602adaea661da790f4018af083b", func := "phasor/phasorlaw06.GateUnits", spec := "gateUnits", unfollowed := true, recurses := true, apart := false }
def GateUnitsSaid : Prop := gateUnitsRow.holds Try.pinned (OpenSpec.ofChange gateUnitsSpec)

/-- ITS FALSE NEIGHBOUR: 'it returns false'. Refute it at one input. -/
def gateUnitsWrong : ChangeSpec := { name := "gateUnits", fn := fun _ => fun
  | [d] => { results := [.lit (.bool false)], args := [d] }
  | _ => none }
def GateUnitsWrongFalsely : Prop := gateUnitsRow.holds Try.pinned (OpenSpec.ofChange gateUnitsWrong)

/-- 'phasorlaw06.GateComposes': WHATEVER THE INPUT: true; the input reads as it did. -/
def gateComposesSpec : ChangeSpec := { name := "gateComposes", fn := fun _ => fun
  | [d1, d2] => { results := [.lit (.bool true)], args := [d1, d2] }
  | _ => none }
def gateComposesRow : OpenClaim := { program := "ytmckaoeofikdaaa", sum := "2a9ca94ed211a49bc8e720af6753a4310314b602adaea661da790f4018af083b", func := "phasor/phasorlaw06.GateComposes", spec := "gateComposes", unfollowed := true, recurses := true, apart := false }
def GateComposesSaid : Prop := gateComposesRow.holds Try.pinned (OpenSpec.ofChange gateComposesSpec)

/-- ITS FALSE NEIGHBOUR: 'it returns false'. Refute it at one input. -/
def gateComposesWrong : ChangeSpec := { name := "gateComposes", fn := fun _ => fun
  | [d1, d2] => { results := [.lit (.bool false)], args := [d1, d2] }
  | _ => none }
def GateComposesWrongFalsely : Prop := gateComposesRow.holds Try.pinned (OpenSpec.ofChange gateComposesWrong)

/-- 'phasorlaw06.GateChecks': WHATEVER THE INPUT: true; the input reads as it did. -/
def gateChecksSpec : ChangeSpec := { name := "gateChecks", fn := fun _ => fun
  | [d1, d2, d3] => { results := [.lit (.bool true)], args := [d1, d2, d3] }
  | _ => none }
def gateChecksRow : OpenClaim := { program := "ytmckaoeofikdaaa", sum := "2a9ca94ed211a49bc8e720af6753a4310314b602adaea661da790f4018af083b", func := "phasor/phasorlaw06.GateChecks", spec := "gateChecks", unfollowed := true, recurses := true, apart := false }
def GateChecksSaid : Prop := gateChecksRow.holds Try.pinned (OpenSpec.ofChange gateChecksSpec)

/-- ITS FALSE NEIGHBOUR: 'it returns false'. Refute it at one input. -/
def gateChecksWrong : ChangeSpec := { name := "gateChecks", fn := fun _ => fun
  | [d1, d2, d3] => { results := [.lit (.bool false)], args := [d1, d2, d3] }
  | _ => none }
def GateChecksWrongFalsely : Prop := gateChecksRow.holds Try.pinned (OpenSpec.ofChange gateChecksWrong)

/-- 'phasorlaw06.GateCommutes': WHATEVER THE INPUT: true; the input reads as it did. -/
def gateCommutesSpec : ChangeSpec := { name := "gateCommutes", fn := fun _ => fun
  | [d1, d2, d3, d4] => { results := [.lit (.bool true)], args := [d1, d2, d3, d4] }
  | _ => none }
def gateCommutesRow : OpenClaim := { program := "ytmckaoeofikdaaa", sum := "2a9ca94ed211a49bc8e720af6753a4310314b602adaea661da790f4018af083b", func := "phasor/phasorlaw06.GateCommutes", spec := "gateCommutes", unfollowed := true, recurses := true, apart := false }
def GateCommutesSaid : Prop := gateCommutesRow.holds Try.pinned (OpenSpec.ofChange gateCommutesSpec)

/-- ITS FALSE NEIGHBOUR: 'it returns false'. Refute it at one input. -/
def gateCommutesWrong : ChangeSpec := { name := "gateCommutes", fn := fun _ => fun
  | [d1, d2, d3, d4] => { results := [.lit (.bool false)], args := [d1, d2, d3, d4] }
  | _ => none }
def GateCommutesWrongFalsely : Prop := gateCommutesRow.holds Try.pinned (OpenSpec.ofChange gateCommutesWrong)

/-- 'phasorlaw06.GateApart': WHATEVER THE INPUT: true; the input reads as it did. -/
def gateApartSpec : ChangeSpec := { name := "gateApart", fn := fun _ => fun
  | [d1, d2, d3, d4] => { results := [.lit (.bool true)], args := [d1, d2, d3, d4] }
  | _ => none }
def gateApartRow : OpenClaim := { program := "ytmckaoeofikdaaa", sum := "2a9ca94ed211a49bc8e720af6753a4310314b602adaea661da790f4018af083b", func := "phasor/phasorlaw06.GateApart", spec := "gateApart", unfollowed := true, recurses := true, apart := false }
def GateApartSaid : Prop := gateApartRow.holds Try.pinned (OpenSpec.ofChange gateApartSpec)

/-- ITS FALSE NEIGHBOUR: 'it returns false'. Refute it at one input. -/
def gateApartWrong : ChangeSpec := { name := "gateApart", fn := fun _ => fun
  | [d1, d2, d3, d4] => { results := [.lit (.bool false)], args := [d1, d2, d3, d4] }
  | _ => none }
def GateApartWrongFalsely : Prop := gateApartRow.holds Try.pinned (OpenSpec.ofChange gateApartWrong)

/-- 'phasorlaw06.GateMatrices': WHATEVER THE INPUT: true; the input reads as it did. -/
def gateMatricesSpec : ChangeSpec := { name := "gateMatrices", fn := fun _ => fun
  | [d1, d2] => { results := [.lit (.bool true)], args := [d1, d2] }
  | _ => none }
def gateMatricesRow : OpenClaim := { program := "ytmckaoeofikdaaa", sum := "2a9ca94ed211a49bc8e720af6753a4310314b602adaea661da790f4018af083b", func := "phasor/phasorlaw06.GateMatrices", spec := "gateMatrices", inPlace := ["math.Float64bits"], unfollowed := true, recurses := true, apart := false }
def GateMatricesSaid : Prop := gateMatricesRow.holds Try.pinned (OpenSpec.ofChange gateMatricesSpec)

/-- ITS FALSE NEIGHBOUR: 'it returns false'. Refute it at one input. -/
def gateMatricesWrong : ChangeSpec := { name := "gateMatrices", fn := fun _ => fun
  | [d1, d2] => { results := [.lit (.bool false)], args := [d1, d2] }
  | _ => none }
def GateMatricesWrongFalsely : Prop := gateMatricesRow.holds Try.pinned (OpenSpec.ofChange gateMatricesWrong)

/-- 'phasorlaw06.GateSpells': WHATEVER THE INPUT: true; the input reads as it did. -/
def gateSpellsSpec : ChangeSpec := { name := "gateSpells", fn := fun _ => fun
  | [d] => { results := [.lit (.bool true)], args := [d] }
  | _ => none }
def gateSpellsRow : OpenClaim := { program := "ytmckaoeofikdaaa", sum := "2a9ca94ed211a49bc8e720af6753a4310314b602adaea661da790f4018af083b", func := "phasor/phasorlaw06.GateSpells", spec := "gateSpells", unfollowed := true, recurses := true, apart := false }
def GateSpellsSaid : Prop := gateSpellsRow.holds Try.pinned (OpenSpec.ofChange gateSpellsSpec)

/-- ITS FALSE NEIGHBOUR: 'it returns false'. Refute it at one input. -/
def gateSpellsWrong : ChangeSpec := { name := "gateSpells", fn := fun _ => fun
  | [d] => { results := [.lit (.bool false)], args := [d] }
  | _ => none }
def GateSpellsWrongFalsely : Prop := gateSpellsRow.holds Try.pinned (OpenSpec.ofChange gateSpellsWrong)

/- THE SECOND FORM. 'bulk': how many values and letters a reading holds, each counted each time it is reached (what is shared counts as often as it is met; a slice's spare places count too). A statement '..UptoSaid' is the law's where the arguments, and the package variables that the reading takes, are together of bulk at most 1048576: NARROWER than '..Said'. Prove '..Said' where nothing that the law and all that it calls make is longer than what came in: it says more and counts as full. Else prove '..UptoSaid'. A law counts once. -/
mutual
def uptoBulk {H : Type} : DataW H → Nat
  | .lit (.string bytes) => bytes.length + 1
  | .lit _ => 1
  | .nil => 1
  | .ptr d => uptoBulk d + 1
  | .slice elems spare => uptoBulkAll elems + uptoBulkAll spare + 1
  | .agg parts => uptoBulkAll parts + 1
  | .iface _ d => uptoBulk d + 1
  | .map entries => uptoBulkEntries entries + 1
  | .held _ => 1
def uptoBulkAll {H : Type} : List (DataW H) → Nat
  | [] => 0
  | d :: r => uptoBulk d + uptoBulkAll r
def uptoBulkEntries {H : Type} : List (Lit × DataW H) → Nat
  | [] => 0
  | x :: r => uptoBulkEntry x + uptoBulkEntries r
def uptoBulkEntry {H : Type} : Lit × DataW H → Nat
  | (.string bytes, d) => bytes.length + uptoBulk d + 1
  | (_, d) => uptoBulk d + 1
 end
def uptoSmall : (H : Type) → List (DataW H) → Bool := fun _ ds => decide (uptoBulkAll ds ≤ 1048576)
def OpenSpec.upto (s : _root_.Go.ChangeSpec) : _root_.Go.OpenSpec := { _root_.Go.OpenSpec.ofChange s with cond := some uptoSmall }

/-- 'phasorlaw10.ApplyNames', WHERE WHAT IT READS IS OF BULK AT MOST 1048576: true; the input reads as it did. -/
def applyNamesUptoRow : OpenClaim := { program := "ytmckaoeofikdaaa", sum := "2a9ca94ed211a49bc8e720af6753a4310314b602adaea661da790f4018af083b", func := "phasor/phasorlaw10.ApplyNames", spec := "applyNames", apart := false, narrowed := true }
def ApplyNamesUptoSaid : Prop := applyNamesUptoRow.holds Try.pinned (OpenSpec.upto applyNamesSpec)

/-- 'phasorlaw06.GateNames', WHERE WHAT IT READS IS OF BULK AT MOST 1048576: true; the input reads as it did. -/
def gateNamesUptoRow : OpenClaim := { program := "ytmckaoeofikdaaa", sum := "2a9ca94ed211a49bc8e720af6753a4310314b602adaea661da790f4018af083b", func := "phasor/phasorlaw06.GateNames", spec := "gateNames", apart := false, narrowed := true }
def GateNamesUptoSaid : Prop := gateNamesUptoRow.holds Try.pinned (OpenSpec.upto gateNamesSpec)

/-- 'phasorlaw11.OddsChoose', WHERE WHAT IT READS IS OF BULK AT MOST 1048576: true; the input reads as it did. -/
def oddsChooseUptoRow : OpenClaim := { program := "ytmckaoeofikdaaa", sum := "2a9ca94ed211a49bc8e720af6753a4310314b602adaea661da790f4018af083b", func := "phasor/phasorlaw11.OddsChoose", spec := "oddsChoose", inPlace := ["math.Float64bits", "math.Float64frombits"], unfollowed := true, recurses := true, apart := false, narrowed := true }
def OddsChooseUptoSaid : Prop := oddsChooseUptoRow.holds Try.pinned (OpenSpec.upto oddsChooseSpec)

/-- 'phasorlaw06.GateLooks', WHERE WHAT IT READS IS OF BULK AT MOST 1048576: true; the input reads as it did. -/
def gateLooksUptoRow : OpenClaim := { program := "ytmckaoeofikdaaa", sum := "2a9ca94ed211a49bc8e720af6753a4310314b602adaea661da790f4018af083b", func := "phasor/phasorlaw06.GateLooks", spec := "gateLooks", unfollowed := true, recurses := true, apart := false, narrowed := true }
def GateLooksUptoSaid : Prop := gateLooksUptoRow.holds Try.pinned (OpenSpec.upto gateLooksSpec)

/-- 'phasorlaw06.GateUnits', WHERE WHAT IT READS IS OF BULK AT MOST 1048576: true; the input reads as it did. -/
def gateUnitsUptoRow : OpenClaim := { program := "ytmckaoeofikdaaa", sum := "2a9ca94ed211a49bc8e720af6753a4310314b602adaea661da790f4018af083b", func := "phasor/phasorlaw06.GateUnits", spec := "gateUnits", unfollowed := true, recurses := true, apart := false, narrowed := true }
def GateUnitsUptoSaid : Prop := gateUnitsUptoRow.holds Try.pinned (OpenSpec.upto gateUnitsSpec)

/-- 'phasorlaw06.GateComposes', WHERE WHAT IT READS IS OF BULK AT MOST 1048576: true; the input reads as it did. -/
def gateComposesUptoRow : OpenClaim := { program := "ytmckaoeofikdaaa", sum := "2a9ca94ed211a49bc8e720af6753a4310314b602adaea661da790f4018af083b", func := "phasor/phasorlaw06.GateComposes", spec := "gateComposes", unfollowed := true, recurses := true, apart := false, narrowed := true }
def GateComposesUptoSaid : Prop := gateComposesUptoRow.holds Try.pinned (OpenSpec.upto gateComposesSpec)

/-- 'phasorlaw06.GateChecks', WHERE WHAT IT READS IS OF BULK AT MOST 1048576: true; the input reads as it did. -/
def gateChecksUptoRow : OpenClaim := { program := "ytmckaoeofikdaaa", sum := "2a9ca94ed211a49bc8e720af6753a4310314b602adaea661da790f4018af083b", func := "phasor/phasorlaw06.GateChecks", spec := "gateChecks", unfollowed := true, recurses := true, apart := false, narrowed := true }
def GateChecksUptoSaid : Prop := gateChecksUptoRow.holds Try.pinned (OpenSpec.upto gateChecksSpec)

/-- 'phasorlaw06.GateCommutes', WHERE WHAT IT READS IS OF BULK AT MOST 1048576: true; the input reads as it did. -/
def gateCommutesUptoRow : OpenClaim := { program := "ytmckaoeofikdaaa", sum := "2a9ca94ed211a49bc8e720af6753a4310314b602adaea661da790f4018af083b", func := "phasor/phasorlaw06.GateCommutes", spec := "gateCommutes", unfollowed := true, recurses := true, apart := false, narrowed := true }
def GateCommutesUptoSaid : Prop := gateCommutesUptoRow.holds Try.pinned (OpenSpec.upto gateCommutesSpec)

/-- 'phasorlaw06.GateApart', WHERE WHAT IT READS IS OF BULK AT MOST 1048576: true; the input reads as it did. -/
def gateApartUptoRow : OpenClaim := { program := "ytmckaoeofikdaaa", sum := "2a9ca94ed211a49bc8e720af6753a4310314b602adaea661da790f4018af083b", func := "phasor/phasorlaw06.GateApart", spec := "gateApart", unfollowed := true, recurses := true, apart := false, narrowed := true }
def GateApartUptoSaid : Prop := gateApartUptoRow.holds Try.pinned (OpenSpec.upto gateApartSpec)

/-- 'phasorlaw06.GateMatrices', WHERE WHAT IT READS IS OF BULK AT MOST 1048576: true; the input reads as it did. -/
def gateMatricesUptoRow : OpenClaim := { program := "ytmckaoeofikdaaa", sum := "2a9ca94ed211a49bc8e720af6753a4310314b602adaea661da790f4018af083b", func := "phasor/phasorlaw06.GateMatrices", spec := "gateMatrices", inPlace := ["math.Float64bits"], unfollowed := true, recurses := true, apart := false, narrowed := true }
def GateMatricesUptoSaid : Prop := gateMatricesUptoRow.holds Try.pinned (OpenSpec.upto gateMatricesSpec)

/-- 'phasorlaw06.GateSpells', WHERE WHAT IT READS IS OF BULK AT MOST 1048576: true; the input reads as it did. -/
def gateSpellsUptoRow : OpenClaim := { program := "ytmckaoeofikdaaa", sum := "2a9ca94ed211a49bc8e720af6753a4310314b602adaea661da790f4018af083b", func := "phasor/phasorlaw06.GateSpells", spec := "gateSpells", unfollowed := true, recurses := true, apart := false, narrowed := true }
def GateSpellsUptoSaid : Prop := gateSpellsUptoRow.holds Try.pinned (OpenSpec.upto gateSpellsSpec)

end Rows
end Go.Proofs.Ytmckaoeofikdaaa
