/-
  No cell of these rows narrows 'for every input' (looked for: loops, veiled, ifaces, maps, wideKeys, modest, calm, conditions, laid).
  DERIVED. THE GIVEN ROWS OF THIS SEAT. 7 by the template 'for every input the law returns true; each argument reads behind the call as it read before'; 0 by the template 'total and deterministic' (their statements: YtmlmgpliajffnaaTotals.lean).
  GIVEN WITH THE SEED: the statements are not yours to turn. If you find one false, say at which input.
  Laid BY PROGRAM, IN A SANDBOX (cutbox-rows.mjs): the forced cells as the released guide's own fill.sh prints them over the translation e226ab09dbedac8c… (all of the seat's roots in one cut). By AI agents, Wed Nov 11 2026. No macro, syntax, notation, axiom, sorry.
-/
import Derived.Test.YtmlmgpliajffnaaChecked
import GoSem.Claim
import GoSem.ClaimJoined
import GoSem.ClaimMapViews
import Derived.JoinedTies
import Derived.KernelRfl
namespace Go.Proofs.Ytmlmgpliajffnaa
/- THE CELL 'sum', in the pinned program and in every row, IS THE sha256 OF THE DUMP (.gsa) THAT YtmlmgpliajffnaaProg.lean LOADS. Nothing in Lean hashes anything: it is a label: what it is worth is what the hold of that sum in a sandbox is worth. -/
noncomputable def Try.pinned : Pinned := { name := "ytmlmgpliajffnaa", sum := "e226ab09dbedac8cf7f2ff25ca9ba89669c32ac1718b604314793e538ab0aed5", checked := Try.checked }
namespace Rows
def none {H : Type} : Left H := { results := [], args := [] }

/-- 'nacellelaw05.DigestByte': WHATEVER THE INPUT: true; the input reads as it did. -/
def digestByteSpec : ChangeSpec := { name := "digestByte", fn := fun _ => fun
  | [d1, d2, d3] => { results := [.lit (.bool true)], args := [d1, d2, d3] }
  | _ => none }
def digestByteRow : OpenClaim := { program := "ytmlmgpliajffnaa", sum := "e226ab09dbedac8cf7f2ff25ca9ba89669c32ac1718b604314793e538ab0aed5", func := "nacelle/nacellelaw05.DigestByte", spec := "digestByte", unfollowed := true, recurses := true, apart := false }
def DigestByteSaid : Prop := digestByteRow.holds Try.pinned (OpenSpec.ofChange digestByteSpec)

/-- ITS FALSE NEIGHBOUR: 'it returns false'. Refute it at one input. -/
def digestByteWrong : ChangeSpec := { name := "digestByte", fn := fun _ => fun
  | [d1, d2, d3] => { results := [.lit (.bool false)], args := [d1, d2, d3] }
  | _ => none }
def DigestByteWrongFalsely : Prop := digestByteRow.holds Try.pinned (OpenSpec.ofChange digestByteWrong)

/-- 'nacellelaw05.DigestParts': WHATEVER THE INPUT: true; the input reads as it did. -/
def digestPartsSpec : ChangeSpec := { name := "digestParts", fn := fun _ => fun
  | [d1, d2, d3, d4] => { results := [.lit (.bool true)], args := [d1, d2, d3, d4] }
  | _ => none }
def digestPartsRow : OpenClaim := { program := "ytmlmgpliajffnaa", sum := "e226ab09dbedac8cf7f2ff25ca9ba89669c32ac1718b604314793e538ab0aed5", func := "nacelle/nacellelaw05.DigestParts", spec := "digestParts", unfollowed := true, recurses := true, apart := false }
def DigestPartsSaid : Prop := digestPartsRow.holds Try.pinned (OpenSpec.ofChange digestPartsSpec)

/-- ITS FALSE NEIGHBOUR: 'it returns false'. Refute it at one input. -/
def digestPartsWrong : ChangeSpec := { name := "digestParts", fn := fun _ => fun
  | [d1, d2, d3, d4] => { results := [.lit (.bool false)], args := [d1, d2, d3, d4] }
  | _ => none }
def DigestPartsWrongFalsely : Prop := digestPartsRow.holds Try.pinned (OpenSpec.ofChange digestPartsWrong)

/-- 'nacellelaw05.DigestStates': WHATEVER THE INPUT: true; the input reads as it did. -/
def digestStatesSpec : ChangeSpec := { name := "digestStates", fn := fun _ => fun
  | [d1, d2, d3, d4, d5] => { results := [.lit (.bool true)], args := [d1, d2, d3, d4, d5] }
  | _ => none }
def digestStatesRow : OpenClaim := { program := "ytmlmgpliajffnaa", sum := "e226ab09dbedac8cf7f2ff25ca9ba89669c32ac1718b604314793e538ab0aed5", func := "nacelle/nacellelaw05.DigestStates", spec := "digestStates", unfollowed := true, recurses := true, apart := false }
def DigestStatesSaid : Prop := digestStatesRow.holds Try.pinned (OpenSpec.ofChange digestStatesSpec)

/-- ITS FALSE NEIGHBOUR: 'it returns false'. Refute it at one input. -/
def digestStatesWrong : ChangeSpec := { name := "digestStates", fn := fun _ => fun
  | [d1, d2, d3, d4, d5] => { results := [.lit (.bool false)], args := [d1, d2, d3, d4, d5] }
  | _ => none }
def DigestStatesWrongFalsely : Prop := digestStatesRow.holds Try.pinned (OpenSpec.ofChange digestStatesWrong)

/-- 'nacellelaw05.DigestUndo': WHATEVER THE INPUT: true; the input reads as it did. -/
def digestUndoSpec : ChangeSpec := { name := "digestUndo", fn := fun _ => fun
  | [d1, d2] => { results := [.lit (.bool true)], args := [d1, d2] }
  | _ => none }
def digestUndoRow : OpenClaim := { program := "ytmlmgpliajffnaa", sum := "e226ab09dbedac8cf7f2ff25ca9ba89669c32ac1718b604314793e538ab0aed5", func := "nacelle/nacellelaw05.DigestUndo", spec := "digestUndo", unfollowed := true, recurses := true, apart := false }
def DigestUndoSaid : Prop := digestUndoRow.holds Try.pinned (OpenSpec.ofChange digestUndoSpec)

/-- ITS FALSE NEIGHBOUR: 'it returns false'. Refute it at one input. -/
def digestUndoWrong : ChangeSpec := { name := "digestUndo", fn := fun _ => fun
  | [d1, d2] => { results := [.lit (.bool false)], args := [d1, d2] }
  | _ => none }
def DigestUndoWrongFalsely : Prop := digestUndoRow.holds Try.pinned (OpenSpec.ofChange digestUndoWrong)

/-- 'nacellelaw05.DigestText': WHATEVER THE INPUT: true; the input reads as it did. -/
def digestTextSpec : ChangeSpec := { name := "digestText", fn := fun _ => fun
  | [d1, d2] => { results := [.lit (.bool true)], args := [d1, d2] }
  | _ => none }
def digestTextRow : OpenClaim := { program := "ytmlmgpliajffnaa", sum := "e226ab09dbedac8cf7f2ff25ca9ba89669c32ac1718b604314793e538ab0aed5", func := "nacelle/nacellelaw05.DigestText", spec := "digestText", unfollowed := true, recurses := true, apart := false }
def DigestTextSaid : Prop := digestTextRow.holds Try.pinned (OpenSpec.ofChange digestTextSpec)

/-- ITS FALSE NEIGHBOUR: 'it returns false'. Refute it at one input. -/
def digestTextWrong : ChangeSpec := { name := "digestText", fn := fun _ => fun
  | [d1, d2] => { results := [.lit (.bool false)], args := [d1, d2] }
  | _ => none }
def DigestTextWrongFalsely : Prop := digestTextRow.holds Try.pinned (OpenSpec.ofChange digestTextWrong)

/-- 'nacellelaw05.DigestTells': WHATEVER THE INPUT: true; the input reads as it did. -/
def digestTellsSpec : ChangeSpec := { name := "digestTells", fn := fun _ => fun
  | [d1, d2, d3, d4, d5] => { results := [.lit (.bool true)], args := [d1, d2, d3, d4, d5] }
  | _ => none }
def digestTellsRow : OpenClaim := { program := "ytmlmgpliajffnaa", sum := "e226ab09dbedac8cf7f2ff25ca9ba89669c32ac1718b604314793e538ab0aed5", func := "nacelle/nacellelaw05.DigestTells", spec := "digestTells", unfollowed := true, recurses := true, apart := false }
def DigestTellsSaid : Prop := digestTellsRow.holds Try.pinned (OpenSpec.ofChange digestTellsSpec)

/-- ITS FALSE NEIGHBOUR: 'it returns false'. Refute it at one input. -/
def digestTellsWrong : ChangeSpec := { name := "digestTells", fn := fun _ => fun
  | [d1, d2, d3, d4, d5] => { results := [.lit (.bool false)], args := [d1, d2, d3, d4, d5] }
  | _ => none }
def DigestTellsWrongFalsely : Prop := digestTellsRow.holds Try.pinned (OpenSpec.ofChange digestTellsWrong)

/-- 'nacellelaw05.DigestPair': WHATEVER THE INPUT: true; the input reads as it did. -/
def digestPairSpec : ChangeSpec := { name := "digestPair", fn := fun _ => fun
  | [d1, d2, d3, d4] => { results := [.lit (.bool true)], args := [d1, d2, d3, d4] }
  | _ => none }
def digestPairRow : OpenClaim := { program := "ytmlmgpliajffnaa", sum := "e226ab09dbedac8cf7f2ff25ca9ba89669c32ac1718b604314793e538ab0aed5", func := "nacelle/nacellelaw05.DigestPair", spec := "digestPair", unfollowed := true, recurses := true, apart := false }
def DigestPairSaid : Prop := digestPairRow.holds Try.pinned (OpenSpec.ofChange digestPairSpec)

/-- ITS FALSE NEIGHBOUR: 'it returns false'. Refute it at one input. -/
def digestPairWrong : ChangeSpec := { name := "digestPair", fn := fun _ => fun
  | [d1, d2, d3, d4] => { results := [.lit (.bool false)], args := [d1, d2, d3, d4] }
  | _ => none }
def DigestPairWrongFalsely : Prop := digestPairRow.holds Try.pinned (OpenSpec.ofChange digestPairWrong)

/- THE SECOND FORM. 'bulk': how many values and letters a reading holds, each counted each time it is reached (what is shared counts as often as it is met; a slice's spare places count too). A statement '..UptoSaid' is the law's where the arguments, and the package variables that the reading takes, are together of bulk at most 1048576: NARROWER than '..Said'. Prove '..Said' where nothing that the law and all that it calls make is longer than what came in: it says more and counts as full. Else prove '..UptoSaid'. A law counts once. -/
mutual
def uptoBulk {H : Type} : DataW H → Nat
  | .lit (.string bytes) => bytes.length + 1
  | .lit _ => 1
  | .nil => 1
  | .ptr d => uptoBulk d + 1
  | .slice elems spare => uptoBulkAll elems + uptoBulkAll spare + 1
  | .agg parts => uptoBulkAll parts + 1
  | .iface _ d => uptoBulk d + 1
  | .map entries => uptoBulkEntries entries + 1
  | .held _ => 1
def uptoBulkAll {H : Type} : List (DataW H) → Nat
  | [] => 0
  | d :: r => uptoBulk d + uptoBulkAll r
def uptoBulkEntries {H : Type} : List (Lit × DataW H) → Nat
  | [] => 0
  | x :: r => uptoBulkEntry x + uptoBulkEntries r
def uptoBulkEntry {H : Type} : Lit × DataW H → Nat
  | (.string bytes, d) => bytes.length + uptoBulk d + 1
  | (_, d) => uptoBulk d + 1
 end
def uptoSmall : (H : Type) → List (DataW H) → Bool := fun _ ds => decide (uptoBulkAll ds ≤ 1048576)
def OpenSpec.upto (s : _root_.Go.ChangeSpec) : _root_.Go.OpenSpec := { _root_.Go.OpenSpec.ofChange s with cond := some uptoSmall }

/-- 'nacellelaw05.DigestByte', WHERE WHAT IT READS IS OF BULK AT MOST 1048576: true; the input reads as it did. -/
def digestByteUptoRow : OpenClaim := { program := "ytmlmgpliajffnaa", sum := "e226ab09dbedac8cf7f2ff25ca9ba89669c32ac1718b604314793e538ab0aed5", func := "nacelle/nacellelaw05.DigestByte", spec := "digestByte", unfollowed := true, recurses := true, apart := false, narrowed := true }
def DigestByteUptoSaid : Prop := digestByteUptoRow.holds Try.pinned (OpenSpec.upto digestByteSpec)

/-- 'nacellelaw05.DigestParts', WHERE WHAT IT READS IS OF BULK AT MOST 1048576: true; the input reads as it did. -/
def digestPartsUptoRow : OpenClaim := { program := "ytmlmgpliajffnaa", sum := "e226ab09dbedac8cf7f2ff25ca9ba89669c32ac1718b604314793e538ab0aed5", func := "nacelle/nacellelaw05.DigestParts", spec := "digestParts", unfollowed := true, recurses := true, apart := false, narrowed := true }
def DigestPartsUptoSaid : Prop := digestPartsUptoRow.holds Try.pinned (OpenSpec.upto digestPartsSpec)

/-- 'nacellelaw05.DigestStates', WHERE WHAT IT READS IS OF BULK AT MOST 1048576: true; the input reads as it did. -/
def digestStatesUptoRow : OpenClaim := { program := "ytmlmgpliajffnaa", sum := "e226ab09dbedac8cf7f2ff25ca9ba89669c32ac1718b604314793e538ab0aed5", func := "nacelle/nacellelaw05.DigestStates", spec := "digestStates", unfollowed := true, recurses := true, apart := false, narrowed := true }
def DigestStatesUptoSaid : Prop := digestStatesUptoRow.holds Try.pinned (OpenSpec.upto digestStatesSpec)

/-- 'nacellelaw05.DigestUndo', WHERE WHAT IT READS IS OF BULK AT MOST 1048576: true; the input reads as it did. -/
def digestUndoUptoRow : OpenClaim := { program := "ytmlmgpliajffnaa", sum := "e226ab09dbedac8cf7f2ff25ca9ba89669c32ac1718b604314793e538ab0aed5", func := "nacelle/nacellelaw05.DigestUndo", spec := "digestUndo", unfollowed := true, recurses := true, apart := false, narrowed := true }
def DigestUndoUptoSaid : Prop := digestUndoUptoRow.holds Try.pinned (OpenSpec.upto digestUndoSpec)

/-- 'nacellelaw05.DigestText', WHERE WHAT IT READS IS OF BULK AT MOST 1048576: true; the input reads as it did. -/
def digestTextUptoRow : OpenClaim := { program := "ytmlmgpliajffnaa", sum := "e226ab09dbedac8cf7f2ff25ca9ba89669c32ac1718b604314793e538ab0aed5", func := "nacelle/nacellelaw05.DigestText", spec := "digestText", unfollowed := true, recurses := true, apart := false, narrowed := true }
def DigestTextUptoSaid : Prop := digestTextUptoRow.holds Try.pinned (OpenSpec.upto digestTextSpec)

/-- 'nacellelaw05.DigestTells', WHERE WHAT IT READS IS OF BULK AT MOST 1048576: true; the input reads as it did. -/
def digestTellsUptoRow : OpenClaim := { program := "ytmlmgpliajffnaa", sum := "e226ab09dbedac8cf7f2ff25ca9ba89669c32ac1718b604314793e538ab0aed5", func := "nacelle/nacellelaw05.DigestTells", spec := "digestTells", unfollowed := true, recurses := true, apart := false, narrowed := true }
def DigestTellsUptoSaid : Prop := digestTellsUptoRow.holds Try.pinned (OpenSpec.upto digestTellsSpec)

/-- 'nacellelaw05.DigestPair', WHERE WHAT IT READS IS OF BULK AT MOST 1048576: true; the input reads as it did. -/
def digestPairUptoRow : OpenClaim := { program := "ytmlmgpliajffnaa", sum := "e226ab09dbedac8cf7f2ff25ca9ba89669c32ac1718b604314793e538ab0aed5", func := "nacelle/nacellelaw05.DigestPair", spec := "digestPair", unfollowed := true, recurses := true, apart := false, narrowed := true }
def DigestPairUptoSaid : Prop := digestPairUptoRow.holds Try.pinned (OpenSpec.upto digestPairSpec)

end Rows
end Go.Proofs.Ytmlmgpliajffnaa
