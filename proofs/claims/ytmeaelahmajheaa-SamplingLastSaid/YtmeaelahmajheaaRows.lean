/-
  No cell of these rows narrows 'for every input' (looked for: loops, veiled, ifaces, maps, wideKeys, modest, calm, conditions, laid).
  DERIVED. THE GIVEN ROWS OF THIS SEAT. 5 by the template 'for every input the law returns true; each argument reads behind the call as it read before'; 0 by the template 'total and deterministic' (their statements: YtmeaelahmajheaaTotals.lean).
  GIVEN WITH THE SEED: the statements are not yours to turn. If you find one false, say at which input.
  Laid BY PROGRAM, IN A SANDBOX (cutbox-rows.mjs): the forced cells as the released guide's own fill.sh prints them over the translation f956e6a678bca9b7… (all of the seat's roots in one cut). By AI agents, Wed Nov 11 2026. No macro, syntax, notation, axiom, sorry.
-/
import Derived.Test.YtmeaelahmajheaaChecked
import GoSem.Claim
import GoSem.ClaimJoined
import GoSem.ClaimMapViews
import Derived.JoinedTies
import Derived.KernelRfl
namespace Go.Proofs.Ytmeaelahmajheaa
/- THE CELL 'sum', in the pinned program and in every row, IS THE sha256 OF THE DUMP (.gsa) THAT YtmeaelahmajheaaProg.lean LOADS. Nothing in Lean hashes anything: it is a label: what it is worth is what the hold of that sum in a sandbox is worth. -/
noncomputable def Try.pinned : Pinned := { name := "ytmeaelahmajheaa", sum := "f956e6a678bca9b79d385763d2b800dd8d0a39b3244c20287182e00e1362f7d0", checked := Try.checked }
namespace Rows
def none {H : Type} : Left H := { results := [], args := [] }

/-- 'nacellelaw22.SamplingTells': WHATEVER THE INPUT: true; the input reads as it did. -/
def samplingTellsSpec : ChangeSpec := { name := "samplingTells", fn := fun _ => fun
  | [d1, d2, d3, d4] => { results := [.lit (.bool true)], args := [d1, d2, d3, d4] }
  | _ => none }
def samplingTellsRow : OpenClaim := { program := "ytmeaelahmajheaa", sum := "f956e6a678bca9b79d385763d2b800dd8d0a39b3244c20287182e00e1362f7d0", func := "nacelle/nacellelaw22.SamplingTells", spec := "samplingTells", unfollowed := true, recurses := true, apart := false }
def SamplingTellsSaid : Prop := samplingTellsRow.holds Try.pinned (OpenSpec.ofChange samplingTellsSpec)

/-- ITS FALSE NEIGHBOUR: 'it returns false'. Refute it at one input. -/
def samplingTellsWrong : ChangeSpec := { name := "samplingTells", fn := fun _ => fun
  | [d1, d2, d3, d4] => { results := [.lit (.bool false)], args := [d1, d2, d3, d4] }
  | _ => none }
def SamplingTellsWrongFalsely : Prop := samplingTellsRow.holds Try.pinned (OpenSpec.ofChange samplingTellsWrong)

/-- 'nacellelaw22.SamplingLast': WHATEVER THE INPUT: true; the input reads as it did. -/
def samplingLastSpec : ChangeSpec := { name := "samplingLast", fn := fun _ => fun
  | [d1, d2] => { results := [.lit (.bool true)], args := [d1, d2] }
  | _ => none }
def samplingLastRow : OpenClaim := { program := "ytmeaelahmajheaa", sum := "f956e6a678bca9b79d385763d2b800dd8d0a39b3244c20287182e00e1362f7d0", func := "nacelle/nacellelaw22.SamplingLast", spec := "samplingLast", unfollowed := true, recurses := true, apart := false }
def SamplingLastSaid : Prop := samplingLastRow.holds Try.pinned (OpenSpec.ofChange samplingLastSpec)

/-- ITS FALSE NEIGHBOUR: 'it returns false'. Refute it at one input. -/
def samplingLastWrong : ChangeSpec := { name := "samplingLast", fn := fun _ => fun
  | [d1, d2] => { results := [.lit (.bool false)], args := [d1, d2] }
  | _ => none }
def SamplingLastWrongFalsely : Prop := samplingLastRow.holds Try.pinned (OpenSpec.ofChange samplingLastWrong)

/-- 'nacellelaw22.SamplingOverwrites': WHATEVER THE INPUT: true; the input reads as it did. -/
def samplingOverwritesSpec : ChangeSpec := { name := "samplingOverwrites", fn := fun _ => fun
  | [d1, d2, d3, d4, d5, d6] => { results := [.lit (.bool true)], args := [d1, d2, d3, d4, d5, d6] }
  | _ => none }
def samplingOverwritesRow : OpenClaim := { program := "ytmeaelahmajheaa", sum := "f956e6a678bca9b79d385763d2b800dd8d0a39b3244c20287182e00e1362f7d0", func := "nacelle/nacellelaw22.SamplingOverwrites", spec := "samplingOverwrites", unfollowed := true, recurses := true, apart := false }
def SamplingOverwritesSaid : Prop := samplingOverwritesRow.holds Try.pinned (OpenSpec.ofChange samplingOverwritesSpec)

/-- ITS FALSE NEIGHBOUR: 'it returns false'. Refute it at one input. -/
def samplingOverwritesWrong : ChangeSpec := { name := "samplingOverwrites", fn := fun _ => fun
  | [d1, d2, d3, d4, d5, d6] => { results := [.lit (.bool false)], args := [d1, d2, d3, d4, d5, d6] }
  | _ => none }
def SamplingOverwritesWrongFalsely : Prop := samplingOverwritesRow.holds Try.pinned (OpenSpec.ofChange samplingOverwritesWrong)

/-- 'nacellelaw22.SamplingSizes': WHATEVER THE INPUT: true; the input reads as it did. -/
def samplingSizesSpec : ChangeSpec := { name := "samplingSizes", fn := fun _ => fun
  | [d1, d2, d3, d4] => { results := [.lit (.bool true)], args := [d1, d2, d3, d4] }
  | _ => none }
def samplingSizesRow : OpenClaim := { program := "ytmeaelahmajheaa", sum := "f956e6a678bca9b79d385763d2b800dd8d0a39b3244c20287182e00e1362f7d0", func := "nacelle/nacellelaw22.SamplingSizes", spec := "samplingSizes", unfollowed := true, recurses := true, apart := false }
def SamplingSizesSaid : Prop := samplingSizesRow.holds Try.pinned (OpenSpec.ofChange samplingSizesSpec)

/-- ITS FALSE NEIGHBOUR: 'it returns false'. Refute it at one input. -/
def samplingSizesWrong : ChangeSpec := { name := "samplingSizes", fn := fun _ => fun
  | [d1, d2, d3, d4] => { results := [.lit (.bool false)], args := [d1, d2, d3, d4] }
  | _ => none }
def SamplingSizesWrongFalsely : Prop := samplingSizesRow.holds Try.pinned (OpenSpec.ofChange samplingSizesWrong)

/-- 'nacellelaw22.SamplingMoves': WHATEVER THE INPUT: true; the input reads as it did. -/
def samplingMovesSpec : ChangeSpec := { name := "samplingMoves", fn := fun _ => fun
  | [d1, d2, d3, d4, d5] => { results := [.lit (.bool true)], args := [d1, d2, d3, d4, d5] }
  | _ => none }
def samplingMovesRow : OpenClaim := { program := "ytmeaelahmajheaa", sum := "f956e6a678bca9b79d385763d2b800dd8d0a39b3244c20287182e00e1362f7d0", func := "nacelle/nacellelaw22.SamplingMoves", spec := "samplingMoves", unfollowed := true, recurses := true, apart := false }
def SamplingMovesSaid : Prop := samplingMovesRow.holds Try.pinned (OpenSpec.ofChange samplingMovesSpec)

/-- ITS FALSE NEIGHBOUR: 'it returns false'. Refute it at one input. -/
def samplingMovesWrong : ChangeSpec := { name := "samplingMoves", fn := fun _ => fun
  | [d1, d2, d3, d4, d5] => { results := [.lit (.bool false)], args := [d1, d2, d3, d4, d5] }
  | _ => none }
def SamplingMovesWrongFalsely : Prop := samplingMovesRow.holds Try.pinned (OpenSpec.ofChange samplingMovesWrong)

/- THE SECOND FORM. 'bulk': how many values and letters a reading holds, each counted each time it is reached (what is shared counts as often as it is met; a slice's spare places count too). A statement '..UptoSaid' is the law's where the arguments, and the package variables that the reading takes, are together of bulk at most 1048576: NARROWER than '..Said'. Prove '..Said' where nothing that the law and all that it calls make is longer than what came in: it says more and counts as full. Else prove '..UptoSaid'. A law counts once. -/
mutual
def uptoBulk {H : Type} : DataW H → Nat
  | .lit (.string bytes) => bytes.length + 1
  | .lit _ => 1
  | .nil => 1
  | .ptr d => uptoBulk d + 1
  | .slice elems spare => uptoBulkAll elems + uptoBulkAll spare + 1
  | .agg parts => uptoBulkAll parts + 1
  | .iface _ d => uptoBulk d + 1
  | .map entries => uptoBulkEntries entries + 1
  | .held _ => 1
def uptoBulkAll {H : Type} : List (DataW H) → Nat
  | [] => 0
  | d :: r => uptoBulk d + uptoBulkAll r
def uptoBulkEntries {H : Type} : List (Lit × DataW H) → Nat
  | [] => 0
  | x :: r => uptoBulkEntry x + uptoBulkEntries r
def uptoBulkEntry {H : Type} : Lit × DataW H → Nat
  | (.string bytes, d) => bytes.length + uptoBulk d + 1
  | (_, d) => uptoBulk d + 1
 end
def uptoSmall : (H : Type) → List (DataW H) → Bool := fun _ ds => decide (uptoBulkAll ds ≤ 1048576)
def OpenSpec.upto (s : _root_.Go.ChangeSpec) : _root_.Go.OpenSpec := { _root_.Go.OpenSpec.ofChange s with cond := some uptoSmall }

/-- 'nacellelaw22.SamplingTells', WHERE WHAT IT READS IS OF BULK AT MOST 1048576: true; the input reads as it did. -/
def samplingTellsUptoRow : OpenClaim := { program := "ytmeaelahmajheaa", sum := "f956e6a678bca9b79d385763d2b800dd8d0a39b3244c20287182e00e1362f7d0", func := "nacelle/nacellelaw22.SamplingTells", spec := "samplingTells", unfollowed := true, recurses := true, apart := false, narrowed := true }
def SamplingTellsUptoSaid : Prop := samplingTellsUptoRow.holds Try.pinned (OpenSpec.upto samplingTellsSpec)

/-- 'nacellelaw22.SamplingLast', WHERE WHAT IT READS IS OF BULK AT MOST 1048576: true; the input reads as it did. -/
def samplingLastUptoRow : OpenClaim := { program := "ytmeaelahmajheaa", sum := "f956e6a678bca9b79d385763d2b800dd8d0a39b3244c20287182e00e1362f7d0", func := "nacelle/nacellelaw22.SamplingLast", spec := "samplingLast", unfollowed := true, recurses := true, apart := false, narrowed := true }
def SamplingLastUptoSaid : Prop := samplingLastUptoRow.holds Try.pinned (OpenSpec.upto samplingLastSpec)

/-- 'nacellelaw22.SamplingOverwrites', WHERE WHAT IT READS IS OF BULK AT MOST 1048576: true; the input reads as it did. -/
def samplingOverwritesUptoRow : OpenClaim := { program := "ytmeaelahmajheaa", sum := "f956e6a678bca9b79d385763d2b800dd8d0a39b3244c20287182e00e1362f7d0", func := "nacelle/nacellelaw22.SamplingOverwrites", spec := "samplingOverwrites", unfollowed := true, recurses := true, apart := false, narrowed := true }
def SamplingOverwritesUptoSaid : Prop := samplingOverwritesUptoRow.holds Try.pinned (OpenSpec.upto samplingOverwritesSpec)

/-- 'nacellelaw22.SamplingSizes', WHERE WHAT IT READS IS OF BULK AT MOST 1048576: true; the input reads as it did. -/
def samplingSizesUptoRow : OpenClaim := { program := "ytmeaelahmajheaa", sum := "f956e6a678bca9b79d385763d2b800dd8d0a39b3244c20287182e00e1362f7d0", func := "nacelle/nacellelaw22.SamplingSizes", spec := "samplingSizes", unfollowed := true, recurses := true, apart := false, narrowed := true }
def SamplingSizesUptoSaid : Prop := samplingSizesUptoRow.holds Try.pinned (OpenSpec.upto samplingSizesSpec)

/-- 'nacellelaw22.SamplingMoves', WHERE WHAT IT READS IS OF BULK AT MOST 1048576: true; the input reads as it did. -/
def samplingMovesUptoRow : OpenClaim := { program := "ytmeaelahmajheaa", sum := "f956e6a678bca9b79d385763d2b800dd8d0a39b3244c20287182e00e1362f7d0", func := "nacelle/nacellelaw22.SamplingMoves", spec := "samplingMoves", unfollowed := true, recurses := true, apart := false, narrowed := true }
def SamplingMovesUptoSaid : Prop := samplingMovesUptoRow.holds Try.pinned (OpenSpec.upto samplingMovesSpec)

end Rows
end Go.Proofs.Ytmeaelahmajheaa
