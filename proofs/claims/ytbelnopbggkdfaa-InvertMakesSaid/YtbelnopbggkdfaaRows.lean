/-
  No cell of these rows narrows 'for every input' (looked for: loops, veiled, ifaces, maps, wideKeys, modest, calm, conditions, laid).
  DERIVED. THE GIVEN ROWS OF THIS SEAT. 4 by the template 'for every input the law returns true; each argument reads behind the call as it read before'; 0 by the template 'total and deterministic' (their statements: YtbelnopbggkdfaaTotals.lean).
  GIVEN WITH THE SEED: the statements are not yours to turn. If you find one false, say at which input.
  Laid BY PROGRAM, IN A SANDBOX (cutbox-rows.mjs): the forced cells as the released guide's own fill.sh prints them over the translation c14bdce831d2a972… (all of the seat's roots in one cut). By AI agents, Wed Nov 11 2026. No macro, syntax, notation, axiom, sorry.
-/
import Derived.Test.YtbelnopbggkdfaaChecked
import GoSem.Claim
import GoSem.ClaimJoined
import GoSem.ClaimMapViews
import Derived.JoinedTies
import Derived.KernelRfl
namespace Go.Proofs.Ytbelnopbggkdfaa
/- THE CELL 'sum', in the pinned program and in every row, IS THE sha256 OF THE DUMP (.gsa) THAT YtbelnopbggkdfaaProg.lean LOADS. Nothing in Lean hashes anything: it is a label: what it is worth is what the hold of that sum in a sandbox is worth. -/
noncomputable def Try.pinned : Pinned := { name := "ytbelnopbggkdfaa", sum := "c14bdce831d2a972935d72a32f4ccdb53fc20d09ab4df72cd9be732eb0779303", checked := Try.checked }
namespace Rows
def none {H : Type} : Left H := { results := [], args := [] }

/-- 'phasorlaw17.InvertMakes': WHATEVER THE INPUT: true; the input reads as it did. -/
def invertMakesSpec : ChangeSpec := { name := "invertMakes", fn := fun _ => fun
  | [d1, d2] => { results := [.lit (.bool true)], args := [d1, d2] }
  | _ => none }
def invertMakesRow : OpenClaim := { program := "ytbelnopbggkdfaa", sum := "c14bdce831d2a972935d72a32f4ccdb53fc20d09ab4df72cd9be732eb0779303", func := "phasor/phasorlaw17.InvertMakes", spec := "invertMakes", unfollowed := true, recurses := true, apart := false }
def InvertMakesSaid : Prop := invertMakesRow.holds Try.pinned (OpenSpec.ofChange invertMakesSpec)

/-- ITS FALSE NEIGHBOUR: 'it returns false'. Refute it at one input. -/
def invertMakesWrong : ChangeSpec := { name := "invertMakes", fn := fun _ => fun
  | [d1, d2] => { results := [.lit (.bool false)], args := [d1, d2] }
  | _ => none }
def InvertMakesWrongFalsely : Prop := invertMakesRow.holds Try.pinned (OpenSpec.ofChange invertMakesWrong)

/-- 'phasorlaw19.LayersOrder': WHATEVER THE INPUT: true; the input reads as it did. -/
def layersOrderSpec : ChangeSpec := { name := "layersOrder", fn := fun _ => fun
  | [d] => { results := [.lit (.bool true)], args := [d] }
  | _ => none }
def layersOrderRow : OpenClaim := { program := "ytbelnopbggkdfaa", sum := "c14bdce831d2a972935d72a32f4ccdb53fc20d09ab4df72cd9be732eb0779303", func := "phasor/phasorlaw19.LayersOrder", spec := "layersOrder", unfollowed := true, recurses := true, apart := false }
def LayersOrderSaid : Prop := layersOrderRow.holds Try.pinned (OpenSpec.ofChange layersOrderSpec)

/-- ITS FALSE NEIGHBOUR: 'it returns false'. Refute it at one input. -/
def layersOrderWrong : ChangeSpec := { name := "layersOrder", fn := fun _ => fun
  | [d] => { results := [.lit (.bool false)], args := [d] }
  | _ => none }
def LayersOrderWrongFalsely : Prop := layersOrderRow.holds Try.pinned (OpenSpec.ofChange layersOrderWrong)

/-- 'phasorlaw19.LayersTell': WHATEVER THE INPUT: true; the input reads as it did. -/
def layersTellSpec : ChangeSpec := { name := "layersTell", fn := fun _ => fun
  | [d1, d2] => { results := [.lit (.bool true)], args := [d1, d2] }
  | _ => none }
def layersTellRow : OpenClaim := { program := "ytbelnopbggkdfaa", sum := "c14bdce831d2a972935d72a32f4ccdb53fc20d09ab4df72cd9be732eb0779303", func := "phasor/phasorlaw19.LayersTell", spec := "layersTell", unfollowed := true, recurses := true, apart := false }
def LayersTellSaid : Prop := layersTellRow.holds Try.pinned (OpenSpec.ofChange layersTellSpec)

/-- ITS FALSE NEIGHBOUR: 'it returns false'. Refute it at one input. -/
def layersTellWrong : ChangeSpec := { name := "layersTell", fn := fun _ => fun
  | [d1, d2] => { results := [.lit (.bool false)], args := [d1, d2] }
  | _ => none }
def LayersTellWrongFalsely : Prop := layersTellRow.holds Try.pinned (OpenSpec.ofChange layersTellWrong)

/-- 'phasorlaw19.LayersSort': WHATEVER THE INPUT: true; the input reads as it did. -/
def layersSortSpec : ChangeSpec := { name := "layersSort", fn := fun _ => fun
  | [d1, d2] => { results := [.lit (.bool true)], args := [d1, d2] }
  | _ => none }
def layersSortRow : OpenClaim := { program := "ytbelnopbggkdfaa", sum := "c14bdce831d2a972935d72a32f4ccdb53fc20d09ab4df72cd9be732eb0779303", func := "phasor/phasorlaw19.LayersSort", spec := "layersSort", unfollowed := true, recurses := true, apart := false }
def LayersSortSaid : Prop := layersSortRow.holds Try.pinned (OpenSpec.ofChange layersSortSpec)

/-- ITS FALSE NEIGHBOUR: 'it returns false'. Refute it at one input. -/
def layersSortWrong : ChangeSpec := { name := "layersSort", fn := fun _ => fun
  | [d1, d2] => { results := [.lit (.bool false)], args := [d1, d2] }
  | _ => none }
def LayersSortWrongFalsely : Prop := layersSortRow.holds Try.pinned (OpenSpec.ofChange layersSortWrong)

/- THE SECOND FORM. 'bulk': how many values and letters a reading holds, each counted each time it is reached (what is shared counts as often as it is met; a slice's spare places count too). A statement '..UptoSaid' is the law's where the arguments, and the package variables that the reading takes, are together of bulk at most 1048576: NARROWER than '..Said'. Prove '..Said' where nothing that the law and all that it calls make is longer than what came in: it says more and counts as full. Else prove '..UptoSaid'. A law counts once. -/
mutual
def uptoBulk {H : Type} : DataW H → Nat
  | .lit (.string bytes) => bytes.length + 1
  | .lit _ => 1
  | .nil => 1
  | .ptr d => uptoBulk d + 1
  | .slice elems spare => uptoBulkAll elems + uptoBulkAll spare + 1
  | .agg parts => uptoBulkAll parts + 1
  | .iface _ d => uptoBulk d + 1
  | .map entries => uptoBulkEntries entries + 1
  | .held _ => 1
def uptoBulkAll {H : Type} : List (DataW H) → Nat
  | [] => 0
  | d :: r => uptoBulk d + uptoBulkAll r
def uptoBulkEntries {H : Type} : List (Lit × DataW H) → Nat
  | [] => 0
  | x :: r => uptoBulkEntry x + uptoBulkEntries r
def uptoBulkEntry {H : Type} : Lit × DataW H → Nat
  | (.string bytes, d) => bytes.length + uptoBulk d + 1
  | (_, d) => uptoBulk d + 1
 end
def uptoSmall : (H : Type) → List (DataW H) → Bool := fun _ ds => decide (uptoBulkAll ds ≤ 1048576)
def OpenSpec.upto (s : _root_.Go.ChangeSpec) : _root_.Go.OpenSpec := { _root_.Go.OpenSpec.ofChange s with cond := some uptoSmall }

/-- 'phasorlaw17.InvertMakes', WHERE WHAT IT READS IS OF BULK AT MOST 1048576: true; the input reads as it did. -/
def invertMakesUptoRow : OpenClaim := { program := "ytbelnopbggkdfaa", sum := "c14bdce831d2a972935d72a32f4ccdb53fc20d09ab4df72cd9be732eb0779303", func := "phasor/phasorlaw17.InvertMakes", spec := "invertMakes", unfollowed := true, recurses := true, apart := false, narrowed := true }
def InvertMakesUptoSaid : Prop := invertMakesUptoRow.holds Try.pinned (OpenSpec.upto invertMakesSpec)

/-- 'phasorlaw19.LayersOrder', WHERE WHAT IT READS IS OF BULK AT MOST 1048576: true; the input reads as it did. -/
def layersOrderUptoRow : OpenClaim := { program := "ytbelnopbggkdfaa", sum := "c14bdce831d2a972935d72a32f4ccdb53fc20d09ab4df72cd9be732eb0779303", func := "phasor/phasorlaw19.LayersOrder", spec := "layersOrder", unfollowed := true, recurses := true, apart := false, narrowed := true }
def LayersOrderUptoSaid : Prop := layersOrderUptoRow.holds Try.pinned (OpenSpec.upto layersOrderSpec)

/-- 'phasorlaw19.LayersTell', WHERE WHAT IT READS IS OF BULK AT MOST 1048576: true; the input reads as it did. -/
def layersTellUptoRow : OpenClaim := { program := "ytbelnopbggkdfaa", sum := "c14bdce831d2a972935d72a32f4ccdb53fc20d09ab4df72cd9be732eb0779303", func := "phasor/phasorlaw19.LayersTell", spec := "layersTell", unfollowed := true, recurses := true, apart := false, narrowed := true }
def LayersTellUptoSaid : Prop := layersTellUptoRow.holds Try.pinned (OpenSpec.upto layersTellSpec)

/-- 'phasorlaw19.LayersSort', WHERE WHAT IT READS IS OF BULK AT MOST 1048576: true; the input reads as it did. -/
def layersSortUptoRow : OpenClaim := { program := "ytbelnopbggkdfaa", sum := "c14bdce831d2a972935d72a32f4ccdb53fc20d09ab4df72cd9be732eb0779303", func := "phasor/phasorlaw19.LayersSort", spec := "layersSort", unfollowed := true, recurses := true, apart := false, narrowed := true }
def LayersSortUptoSaid : Prop := layersSortUptoRow.holds Try.pinned (OpenSpec.upto layersSortSpec)

end Rows
end Go.Proofs.Ytbelnopbggkdfaa
