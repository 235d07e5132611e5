/-
  NARROWER THAN 'FOR EVERY INPUT', by the rows' own cells (each row's printed sentence says how): FrameTells: laid · FrameReads: laid · FrameSmall: laid · FrameBurst: laid · FrameBack: laid · FrameFields: laid · FrameMasks: laid · FrameBad: laid.
  DERIVED. THE GIVEN ROWS OF THIS SEAT. 8 by the template 'for every input the law returns true; each argument reads behind the call as it read before'; 0 by the template 'total and deterministic' (their statements: YtjnjjnkanbnliaaDoorTotals.lean).
  GIVEN WITH THE SEED: the statements are not yours to turn. If you find one false, say at which input.
  Laid BY PROGRAM, IN A SANDBOX (cutbox-rows.mjs): the forced cells as the released guide's own fill.sh prints them over the translation 97427517fd964dec… (all of the seat's roots in one cut). By AI agents, Wed Nov 11 2026. No macro, syntax, notation, axiom, sorry.
-/
import Derived.Test.YtjnjjnkanbnliaaDoorChecked
import GoSem.Claim
import GoSem.ClaimJoined
import GoSem.ClaimMapViews
import Derived.JoinedTies
import Derived.KernelRfl
namespace Go.Proofs.YtjnjjnkanbnliaaDoor
/- THE CELL 'sum', in the pinned program and in every row, IS THE sha256 OF THE DUMP (.gsa) THAT YtjnjjnkanbnliaaDoorProg.lean LOADS. Nothing in Lean hashes anything: it is a label: what it is worth is what the hold of that sum in a sandbox is worth. -/
noncomputable def Tryd.pinned : Pinned := { name := "ytjnjjnkanbnliaadoor", sum := "97427517fd964dece68c809ce0763c68e9f55acfae46907a5f8a72ff7626b5ea", checked := Tryd.checked }
namespace Rows
def none {H : Type} : Left H := { results := [], args := [] }

/- WHAT THE LISTED PACKAGE-LEVEL VARIABLES READ AS WHEN THE CALL BEGINS. Each datum BY PROGRAM (the guide's laid-datum.mjs) off the statement by which the dump's own 'gosem.cut.vars' lays the variable. In a bare row this is a premise. The card (YtjnjjnkanbnliaaDoorCards.lean) ties it to the program's text. -/
def laid_math_bits_deBruijn32tab {H : Type} : DataW H := .agg [.lit (.int .u8 0), .lit (.int .u8 1), .lit (.int .u8 28), .lit (.int .u8 2), .lit (.int .u8 29), .lit (.int .u8 14), .lit (.int .u8 24), .lit (.int .u8 3), .lit (.int .u8 30), .lit (.int .u8 22), .lit (.int .u8 20), .lit (.int .u8 15), .lit (.int .u8 25), .lit (.int .u8 17), .lit (.int .u8 4), .lit (.int .u8 8), .lit (.int .u8 31), .lit (.int .u8 27), .lit (.int .u8 13), .lit (.int .u8 23), .lit (.int .u8 21), .lit (.int .u8 19), .lit (.int .u8 16), .lit (.int .u8 7), .lit (.int .u8 26), .lit (.int .u8 12), .lit (.int .u8 18), .lit (.int .u8 6), .lit (.int .u8 11), .lit (.int .u8 5), .lit (.int .u8 10), .lit (.int .u8 9)]

/-- 'nacellelaw17.FrameTells': WHATEVER THE INPUT: true; the input reads as it did. -/
def frameTellsSpec : ChangeSpec := { name := "frameTells", fn := fun _ => fun
  | [d1, d2] => { results := [.lit (.bool true)], args := [d1, d2] }
  | _ => none }
def frameTellsRow : OpenClaim := { program := "ytjnjjnkanbnliaadoor", sum := "97427517fd964dece68c809ce0763c68e9f55acfae46907a5f8a72ff7626b5ea", func := "nacelle/nacellelaw17.FrameTells", spec := "frameTells", unfollowed := true, recurses := true, named := ["math/bits.deBruijn32tab"], apart := false, laid := [("math/bits.deBruijn32tab", laid_math_bits_deBruijn32tab)] }
def FrameTellsSaid : Prop := frameTellsRow.holds Tryd.pinned (OpenSpec.ofChange frameTellsSpec)

/-- ITS FALSE NEIGHBOUR: 'it returns false'. Refute it at one input. -/
def frameTellsWrong : ChangeSpec := { name := "frameTells", fn := fun _ => fun
  | [d1, d2] => { results := [.lit (.bool false)], args := [d1, d2] }
  | _ => none }
def FrameTellsWrongFalsely : Prop := frameTellsRow.holds Tryd.pinned (OpenSpec.ofChange frameTellsWrong)

/-- 'nacellelaw17.FrameReads': WHATEVER THE INPUT: true; the input reads as it did. -/
def frameReadsSpec : ChangeSpec := { name := "frameReads", fn := fun _ => fun
  | [d1, d2, d3] => { results := [.lit (.bool true)], args := [d1, d2, d3] }
  | _ => none }
def frameReadsRow : OpenClaim := { program := "ytjnjjnkanbnliaadoor", sum := "97427517fd964dece68c809ce0763c68e9f55acfae46907a5f8a72ff7626b5ea", func := "nacelle/nacellelaw17.FrameReads", spec := "frameReads", unfollowed := true, recurses := true, named := ["math/bits.deBruijn32tab"], apart := false, laid := [("math/bits.deBruijn32tab", laid_math_bits_deBruijn32tab)] }
def FrameReadsSaid : Prop := frameReadsRow.holds Tryd.pinned (OpenSpec.ofChange frameReadsSpec)

/-- ITS FALSE NEIGHBOUR: 'it returns false'. Refute it at one input. -/
def frameReadsWrong : ChangeSpec := { name := "frameReads", fn := fun _ => fun
  | [d1, d2, d3] => { results := [.lit (.bool false)], args := [d1, d2, d3] }
  | _ => none }
def FrameReadsWrongFalsely : Prop := frameReadsRow.holds Tryd.pinned (OpenSpec.ofChange frameReadsWrong)

/-- 'nacellelaw17.FrameSmall': WHATEVER THE INPUT: true; the input reads as it did. -/
def frameSmallSpec : ChangeSpec := { name := "frameSmall", fn := fun _ => fun
  | [] => { results := [.lit (.bool true)], args := [] }
  | _ => none }
def frameSmallRow : OpenClaim := { program := "ytjnjjnkanbnliaadoor", sum := "97427517fd964dece68c809ce0763c68e9f55acfae46907a5f8a72ff7626b5ea", func := "nacelle/nacellelaw17.FrameSmall", spec := "frameSmall", unfollowed := true, recurses := true, named := ["math/bits.deBruijn32tab"], apart := false, laid := [("math/bits.deBruijn32tab", laid_math_bits_deBruijn32tab)] }
def FrameSmallSaid : Prop := frameSmallRow.holds Tryd.pinned (OpenSpec.ofChange frameSmallSpec)

/-- ITS FALSE NEIGHBOUR: 'it returns false'. Refute it at one input. -/
def frameSmallWrong : ChangeSpec := { name := "frameSmall", fn := fun _ => fun
  | [] => { results := [.lit (.bool false)], args := [] }
  | _ => none }
def FrameSmallWrongFalsely : Prop := frameSmallRow.holds Tryd.pinned (OpenSpec.ofChange frameSmallWrong)

/-- 'nacellelaw17.FrameBurst': WHATEVER THE INPUT: true; the input reads as it did. -/
def frameBurstSpec : ChangeSpec := { name := "frameBurst", fn := fun _ => fun
  | [d1, d2, d3] => { results := [.lit (.bool true)], args := [d1, d2, d3] }
  | _ => none }
def frameBurstRow : OpenClaim := { program := "ytjnjjnkanbnliaadoor", sum := "97427517fd964dece68c809ce0763c68e9f55acfae46907a5f8a72ff7626b5ea", func := "nacelle/nacellelaw17.FrameBurst", spec := "frameBurst", unfollowed := true, recurses := true, named := ["math/bits.deBruijn32tab"], apart := false, laid := [("math/bits.deBruijn32tab", laid_math_bits_deBruijn32tab)] }
def FrameBurstSaid : Prop := frameBurstRow.holds Tryd.pinned (OpenSpec.ofChange frameBurstSpec)

/-- ITS FALSE NEIGHBOUR: 'it returns false'. Refute it at one input. -/
def frameBurstWrong : ChangeSpec := { name := "frameBurst", fn := fun _ => fun
  | [d1, d2, d3] => { results := [.lit (.bool false)], args := [d1, d2, d3] }
  | _ => none }
def FrameBurstWrongFalsely : Prop := frameBurstRow.holds Tryd.pinned (OpenSpec.ofChange frameBurstWrong)

/-- 'nacellelaw17.FrameBack': WHATEVER THE INPUT: true; the input reads as it did. -/
def frameBackSpec : ChangeSpec := { name := "frameBack", fn := fun _ => fun
  | [d1, d2, d3] => { results := [.lit (.bool true)], args := [d1, d2, d3] }
  | _ => none }
def frameBackRow : OpenClaim := { program := "ytjnjjnkanbnliaadoor", sum := "97427517fd964dece68c809ce0763c68e9f55acfae46907a5f8a72ff7626b5ea", func := "nacelle/nacellelaw17.FrameBack", spec := "frameBack", unfollowed := true, recurses := true, named := ["math/bits.deBruijn32tab"], apart := false, laid := [("math/bits.deBruijn32tab", laid_math_bits_deBruijn32tab)] }
def FrameBackSaid : Prop := frameBackRow.holds Tryd.pinned (OpenSpec.ofChange frameBackSpec)

/-- ITS FALSE NEIGHBOUR: 'it returns false'. Refute it at one input. -/
def frameBackWrong : ChangeSpec := { name := "frameBack", fn := fun _ => fun
  | [d1, d2, d3] => { results := [.lit (.bool false)], args := [d1, d2, d3] }
  | _ => none }
def FrameBackWrongFalsely : Prop := frameBackRow.holds Tryd.pinned (OpenSpec.ofChange frameBackWrong)

/-- 'nacellelaw17.FrameFields': WHATEVER THE INPUT: true; the input reads as it did. -/
def frameFieldsSpec : ChangeSpec := { name := "frameFields", fn := fun _ => fun
  | [d] => { results := [.lit (.bool true)], args := [d] }
  | _ => none }
def frameFieldsRow : OpenClaim := { program := "ytjnjjnkanbnliaadoor", sum := "97427517fd964dece68c809ce0763c68e9f55acfae46907a5f8a72ff7626b5ea", func := "nacelle/nacellelaw17.FrameFields", spec := "frameFields", unfollowed := true, recurses := true, named := ["math/bits.deBruijn32tab"], apart := false, laid := [("math/bits.deBruijn32tab", laid_math_bits_deBruijn32tab)] }
def FrameFieldsSaid : Prop := frameFieldsRow.holds Tryd.pinned (OpenSpec.ofChange frameFieldsSpec)

/-- ITS FALSE NEIGHBOUR: 'it returns false'. Refute it at one input. -/
def frameFieldsWrong : ChangeSpec := { name := "frameFields", fn := fun _ => fun
  | [d] => { results := [.lit (.bool false)], args := [d] }
  | _ => none }
def FrameFieldsWrongFalsely : Prop := frameFieldsRow.holds Tryd.pinned (OpenSpec.ofChange frameFieldsWrong)

/-- 'nacellelaw17.FrameMasks': WHATEVER THE INPUT: true; the input reads as it did. -/
def frameMasksSpec : ChangeSpec := { name := "frameMasks", fn := fun _ => fun
  | [d1, d2, d3, d4] => { results := [.lit (.bool true)], args := [d1, d2, d3, d4] }
  | _ => none }
def frameMasksRow : OpenClaim := { program := "ytjnjjnkanbnliaadoor", sum := "97427517fd964dece68c809ce0763c68e9f55acfae46907a5f8a72ff7626b5ea", func := "nacelle/nacellelaw17.FrameMasks", spec := "frameMasks", unfollowed := true, recurses := true, named := ["math/bits.deBruijn32tab"], apart := false, laid := [("math/bits.deBruijn32tab", laid_math_bits_deBruijn32tab)] }
def FrameMasksSaid : Prop := frameMasksRow.holds Tryd.pinned (OpenSpec.ofChange frameMasksSpec)

/-- ITS FALSE NEIGHBOUR: 'it returns false'. Refute it at one input. -/
def frameMasksWrong : ChangeSpec := { name := "frameMasks", fn := fun _ => fun
  | [d1, d2, d3, d4] => { results := [.lit (.bool false)], args := [d1, d2, d3, d4] }
  | _ => none }
def FrameMasksWrongFalsely : Prop := frameMasksRow.holds Tryd.pinned (OpenSpec.ofChange frameMasksWrong)

/-- 'nacellelaw17.FrameBad': WHATEVER THE INPUT: true; the input reads as it did. -/
def frameBadSpec : ChangeSpec := { name := "frameBad", fn := fun _ => fun
  | [d1, d2, d3] => { results := [.lit (.bool true)], args := [d1, d2, d3] }
  | _ => none }
def frameBadRow : OpenClaim := { program := "ytjnjjnkanbnliaadoor", sum := "97427517fd964dece68c809ce0763c68e9f55acfae46907a5f8a72ff7626b5ea", func := "nacelle/nacellelaw17.FrameBad", spec := "frameBad", unfollowed := true, recurses := true, named := ["math/bits.deBruijn32tab"], apart := false, laid := [("math/bits.deBruijn32tab", laid_math_bits_deBruijn32tab)] }
def FrameBadSaid : Prop := frameBadRow.holds Tryd.pinned (OpenSpec.ofChange frameBadSpec)

/-- ITS FALSE NEIGHBOUR: 'it returns false'. Refute it at one input. -/
def frameBadWrong : ChangeSpec := { name := "frameBad", fn := fun _ => fun
  | [d1, d2, d3] => { results := [.lit (.bool false)], args := [d1, d2, d3] }
  | _ => none }
def FrameBadWrongFalsely : Prop := frameBadRow.holds Tryd.pinned (OpenSpec.ofChange frameBadWrong)

/- THE SECOND FORM. 'bulk': how many values and letters a reading holds, each counted each time it is reached (what is shared counts as often as it is met; a slice's spare places count too). A statement '..UptoSaid' is the law's where the arguments, and the package variables that the reading takes, are together of bulk at most 1048576: NARROWER than '..Said'. Prove '..Said' where nothing that the law and all that it calls make is longer than what came in: it says more and counts as full. Else prove '..UptoSaid'. A law counts once. -/
mutual
def uptoBulk {H : Type} : DataW H → Nat
  | .lit (.string bytes) => bytes.length + 1
  | .lit _ => 1
  | .nil => 1
  | .ptr d => uptoBulk d + 1
  | .slice elems spare => uptoBulkAll elems + uptoBulkAll spare + 1
  | .agg parts => uptoBulkAll parts + 1
  | .iface _ d => uptoBulk d + 1
  | .map entries => uptoBulkEntries entries + 1
  | .held _ => 1
def uptoBulkAll {H : Type} : List (DataW H) → Nat
  | [] => 0
  | d :: r => uptoBulk d + uptoBulkAll r
def uptoBulkEntries {H : Type} : List (Lit × DataW H) → Nat
  | [] => 0
  | x :: r => uptoBulkEntry x + uptoBulkEntries r
def uptoBulkEntry {H : Type} : Lit × DataW H → Nat
  | (.string bytes, d) => bytes.length + uptoBulk d + 1
  | (_, d) => uptoBulk d + 1
 end
def uptoSmall : (H : Type) → List (DataW H) → Bool := fun _ ds => decide (uptoBulkAll ds ≤ 1048576)
def OpenSpec.upto (s : _root_.Go.ChangeSpec) : _root_.Go.OpenSpec := { _root_.Go.OpenSpec.ofChange s with cond := some uptoSmall }

/-- 'nacellelaw17.FrameTells', WHERE WHAT IT READS IS OF BULK AT MOST 1048576: true; the input reads as it did. -/
def frameTellsUptoRow : OpenClaim := { program := "ytjnjjnkanbnliaadoor", sum := "97427517fd964dece68c809ce0763c68e9f55acfae46907a5f8a72ff7626b5ea", func := "nacelle/nacellelaw17.FrameTells", spec := "frameTells", unfollowed := true, recurses := true, named := ["math/bits.deBruijn32tab"], apart := false, laid := [("math/bits.deBruijn32tab", laid_math_bits_deBruijn32tab)], narrowed := true }
def FrameTellsUptoSaid : Prop := frameTellsUptoRow.holds Tryd.pinned (OpenSpec.upto frameTellsSpec)

/-- 'nacellelaw17.FrameReads', WHERE WHAT IT READS IS OF BULK AT MOST 1048576: true; the input reads as it did. -/
def frameReadsUptoRow : OpenClaim := { program := "ytjnjjnkanbnliaadoor", sum := "97427517fd964dece68c809ce0763c68e9f55acfae46907a5f8a72ff7626b5ea", func := "nacelle/nacellelaw17.FrameReads", spec := "frameReads", unfollowed := true, recurses := true, named := ["math/bits.deBruijn32tab"], apart := false, laid := [("math/bits.deBruijn32tab", laid_math_bits_deBruijn32tab)], narrowed := true }
def FrameReadsUptoSaid : Prop := frameReadsUptoRow.holds Tryd.pinned (OpenSpec.upto frameReadsSpec)

/-- 'nacellelaw17.FrameSmall', WHERE WHAT IT READS IS OF BULK AT MOST 1048576: true; the input reads as it did. -/
def frameSmallUptoRow : OpenClaim := { program := "ytjnjjnkanbnliaadoor", sum := "97427517fd964dece68c809ce0763c68e9f55acfae46907a5f8a72ff7626b5ea", func := "nacelle/nacellelaw17.FrameSmall", spec := "frameSmall", unfollowed := true, recurses := true, named := ["math/bits.deBruijn32tab"], apart := false, laid := [("math/bits.deBruijn32tab", laid_math_bits_deBruijn32tab)], narrowed := true }
def FrameSmallUptoSaid : Prop := frameSmallUptoRow.holds Tryd.pinned (OpenSpec.upto frameSmallSpec)

/-- 'nacellelaw17.FrameBurst', WHERE WHAT IT READS IS OF BULK AT MOST 1048576: true; the input reads as it did. -/
def frameBurstUptoRow : OpenClaim := { program := "ytjnjjnkanbnliaadoor", sum := "97427517fd964dece68c809ce0763c68e9f55acfae46907a5f8a72ff7626b5ea", func := "nacelle/nacellelaw17.FrameBurst", spec := "frameBurst", unfollowed := true, recurses := true, named := ["math/bits.deBruijn32tab"], apart := false, laid := [("math/bits.deBruijn32tab", laid_math_bits_deBruijn32tab)], narrowed := true }
def FrameBurstUptoSaid : Prop := frameBurstUptoRow.holds Tryd.pinned (OpenSpec.upto frameBurstSpec)

/-- 'nacellelaw17.FrameBack', WHERE WHAT IT READS IS OF BULK AT MOST 1048576: true; the input reads as it did. -/
def frameBackUptoRow : OpenClaim := { program := "ytjnjjnkanbnliaadoor", sum := "97427517fd964dece68c809ce0763c68e9f55acfae46907a5f8a72ff7626b5ea", func := "nacelle/nacellelaw17.FrameBack", spec := "frameBack", unfollowed := true, recurses := true, named := ["math/bits.deBruijn32tab"], apart := false, laid := [("math/bits.deBruijn32tab", laid_math_bits_deBruijn32tab)], narrowed := true }
def FrameBackUptoSaid : Prop := frameBackUptoRow.holds Tryd.pinned (OpenSpec.upto frameBackSpec)

/-- 'nacellelaw17.FrameFields', WHERE WHAT IT READS IS OF BULK AT MOST 1048576: true; the input reads as it did. -/
def frameFieldsUptoRow : OpenClaim := { program := "ytjnjjnkanbnliaadoor", sum := "97427517fd964dece68c809ce0763c68e9f55acfae46907a5f8a72ff7626b5ea", func := "nacelle/nacellelaw17.FrameFields", spec := "frameFields", unfollowed := true, recurses := true, named := ["math/bits.deBruijn32tab"], apart := false, laid := [("math/bits.deBruijn32tab", laid_math_bits_deBruijn32tab)], narrowed := true }
def FrameFieldsUptoSaid : Prop := frameFieldsUptoRow.holds Tryd.pinned (OpenSpec.upto frameFieldsSpec)

/-- 'nacellelaw17.FrameMasks', WHERE WHAT IT READS IS OF BULK AT MOST 1048576: true; the input reads as it did. -/
def frameMasksUptoRow : OpenClaim := { program := "ytjnjjnkanbnliaadoor", sum := "97427517fd964dece68c809ce0763c68e9f55acfae46907a5f8a72ff7626b5ea", func := "nacelle/nacellelaw17.FrameMasks", spec := "frameMasks", unfollowed := true, recurses := true, named := ["math/bits.deBruijn32tab"], apart := false, laid := [("math/bits.deBruijn32tab", laid_math_bits_deBruijn32tab)], narrowed := true }
def FrameMasksUptoSaid : Prop := frameMasksUptoRow.holds Tryd.pinned (OpenSpec.upto frameMasksSpec)

/-- 'nacellelaw17.FrameBad', WHERE WHAT IT READS IS OF BULK AT MOST 1048576: true; the input reads as it did. -/
def frameBadUptoRow : OpenClaim := { program := "ytjnjjnkanbnliaadoor", sum := "97427517fd964dece68c809ce0763c68e9f55acfae46907a5f8a72ff7626b5ea", func := "nacelle/nacellelaw17.FrameBad", spec := "frameBad", unfollowed := true, recurses := true, named := ["math/bits.deBruijn32tab"], apart := false, laid := [("math/bits.deBruijn32tab", laid_math_bits_deBruijn32tab)], narrowed := true }
def FrameBadUptoSaid : Prop := frameBadUptoRow.holds Tryd.pinned (OpenSpec.upto frameBadSpec)

end Rows
end Go.Proofs.YtjnjjnkanbnliaaDoor
