/-
  No cell of these rows narrows 'for every input' (looked for: loops, veiled, ifaces, maps, wideKeys, modest, calm, conditions, laid).
  DERIVED. THE GIVEN ROWS OF THIS SEAT. 7 by the template 'for every input the law returns true; each argument reads behind the call as it read before'; 0 by the template 'total and deterministic' (their statements: YtjpicnfkmfjnoaaTotals.lean).
  GIVEN WITH THE SEED: the statements are not yours to turn. If you find one false, say at which input.
  Laid BY PROGRAM, IN A SANDBOX (cutbox-rows.mjs): the forced cells as the released guide's own fill.sh prints them over the translation 126bdd74902769ed… (all of the seat's roots in one cut). By AI agents, Wed Nov 11 2026. No macro, syntax, notation, axiom, sorry.
-/
import Derived.Test.YtjpicnfkmfjnoaaChecked
import GoSem.Claim
import GoSem.ClaimJoined
import GoSem.ClaimMapViews
import Derived.JoinedTies
import Derived.KernelRfl
namespace Go.Proofs.Ytjpicnfkmfjnoaa
/- THE CELL 'sum', in the pinned program and in every row, IS THE sha256 OF THE DUMP (.gsa) THAT YtjpicnfkmfjnoaaProg.lean LOADS. Nothing in Lean hashes anything: it is a label: what it is worth is what the hold of that sum in a sandbox is worth. -/
noncomputable def Try.pinned : Pinned := { name := "ytjpicnfkmfjnoaa", sum := "126bdd74902769edc430c7be368bf634c81e77ce7c61617bfc116c699cb9eb85", checked := Try.checked }
namespace Rows
def none {H : Type} : Left H := { results := [], args := [] }

/-- 'nacellelaw06.SignTells': WHATEVER THE INPUT: true; the input reads as it did. -/
def signTellsSpec : ChangeSpec := { name := "signTells", fn := fun _ => fun
  | [d1, d2, d3, d4, d5, d6] => { results := [.lit (.bool true)], args := [d1, d2, d3, d4, d5, d6] }
  | _ => none }
def signTellsRow : OpenClaim := { program := "ytjpicnfkmfjnoaa", sum := "126bdd74902769edc430c7be368bf634c81e77ce7c61617bfc116c699cb9eb85", func := "nacelle/nacellelaw06.SignTells", spec := "signTells", unfollowed := true, recurses := true, apart := false }
def SignTellsSaid : Prop := signTellsRow.holds Try.pinned (OpenSpec.ofChange signTellsSpec)

/-- ITS FALSE NEIGHBOUR: 'it returns false'. Refute it at one input. -/
def signTellsWrong : ChangeSpec := { name := "signTells", fn := fun _ => fun
  | [d1, d2, d3, d4, d5, d6] => { results := [.lit (.bool false)], args := [d1, d2, d3, d4, d5, d6] }
  | _ => none }
def SignTellsWrongFalsely : Prop := signTellsRow.holds Try.pinned (OpenSpec.ofChange signTellsWrong)

/-- 'nacellelaw06.SignChecksum': WHATEVER THE INPUT: true; the input reads as it did. -/
def signChecksumSpec : ChangeSpec := { name := "signChecksum", fn := fun _ => fun
  | [d1, d2] => { results := [.lit (.bool true)], args := [d1, d2] }
  | _ => none }
def signChecksumRow : OpenClaim := { program := "ytjpicnfkmfjnoaa", sum := "126bdd74902769edc430c7be368bf634c81e77ce7c61617bfc116c699cb9eb85", func := "nacelle/nacellelaw06.SignChecksum", spec := "signChecksum", unfollowed := true, recurses := true, apart := false }
def SignChecksumSaid : Prop := signChecksumRow.holds Try.pinned (OpenSpec.ofChange signChecksumSpec)

/-- ITS FALSE NEIGHBOUR: 'it returns false'. Refute it at one input. -/
def signChecksumWrong : ChangeSpec := { name := "signChecksum", fn := fun _ => fun
  | [d1, d2] => { results := [.lit (.bool false)], args := [d1, d2] }
  | _ => none }
def SignChecksumWrongFalsely : Prop := signChecksumRow.holds Try.pinned (OpenSpec.ofChange signChecksumWrong)

/-- 'nacellelaw06.SignAdvances': WHATEVER THE INPUT: true; the input reads as it did. -/
def signAdvancesSpec : ChangeSpec := { name := "signAdvances", fn := fun _ => fun
  | [d1, d2, d3, d4] => { results := [.lit (.bool true)], args := [d1, d2, d3, d4] }
  | _ => none }
def signAdvancesRow : OpenClaim := { program := "ytjpicnfkmfjnoaa", sum := "126bdd74902769edc430c7be368bf634c81e77ce7c61617bfc116c699cb9eb85", func := "nacelle/nacellelaw06.SignAdvances", spec := "signAdvances", unfollowed := true, recurses := true, apart := false }
def SignAdvancesSaid : Prop := signAdvancesRow.holds Try.pinned (OpenSpec.ofChange signAdvancesSpec)

/-- ITS FALSE NEIGHBOUR: 'it returns false'. Refute it at one input. -/
def signAdvancesWrong : ChangeSpec := { name := "signAdvances", fn := fun _ => fun
  | [d1, d2, d3, d4] => { results := [.lit (.bool false)], args := [d1, d2, d3, d4] }
  | _ => none }
def SignAdvancesWrongFalsely : Prop := signAdvancesRow.holds Try.pinned (OpenSpec.ofChange signAdvancesWrong)

/-- 'nacellelaw06.SignNil': WHATEVER THE INPUT: true; the input reads as it did. -/
def signNilSpec : ChangeSpec := { name := "signNil", fn := fun _ => fun
  | [d1, d2] => { results := [.lit (.bool true)], args := [d1, d2] }
  | _ => none }
def signNilRow : OpenClaim := { program := "ytjpicnfkmfjnoaa", sum := "126bdd74902769edc430c7be368bf634c81e77ce7c61617bfc116c699cb9eb85", func := "nacelle/nacellelaw06.SignNil", spec := "signNil", unfollowed := true, recurses := true, apart := false }
def SignNilSaid : Prop := signNilRow.holds Try.pinned (OpenSpec.ofChange signNilSpec)

/-- ITS FALSE NEIGHBOUR: 'it returns false'. Refute it at one input. -/
def signNilWrong : ChangeSpec := { name := "signNil", fn := fun _ => fun
  | [d1, d2] => { results := [.lit (.bool false)], args := [d1, d2] }
  | _ => none }
def SignNilWrongFalsely : Prop := signNilRow.holds Try.pinned (OpenSpec.ofChange signNilWrong)

/-- 'nacellelaw06.SignJudges': WHATEVER THE INPUT: true; the input reads as it did. -/
def signJudgesSpec : ChangeSpec := { name := "signJudges", fn := fun _ => fun
  | [d1, d2, d3, d4, d5] => { results := [.lit (.bool true)], args := [d1, d2, d3, d4, d5] }
  | _ => none }
def signJudgesRow : OpenClaim := { program := "ytjpicnfkmfjnoaa", sum := "126bdd74902769edc430c7be368bf634c81e77ce7c61617bfc116c699cb9eb85", func := "nacelle/nacellelaw06.SignJudges", spec := "signJudges", unfollowed := true, recurses := true, apart := false }
def SignJudgesSaid : Prop := signJudgesRow.holds Try.pinned (OpenSpec.ofChange signJudgesSpec)

/-- ITS FALSE NEIGHBOUR: 'it returns false'. Refute it at one input. -/
def signJudgesWrong : ChangeSpec := { name := "signJudges", fn := fun _ => fun
  | [d1, d2, d3, d4, d5] => { results := [.lit (.bool false)], args := [d1, d2, d3, d4, d5] }
  | _ => none }
def SignJudgesWrongFalsely : Prop := signJudgesRow.holds Try.pinned (OpenSpec.ofChange signJudgesWrong)

/-- 'nacellelaw06.SignForm': WHATEVER THE INPUT: true; the input reads as it did. -/
def signFormSpec : ChangeSpec := { name := "signForm", fn := fun _ => fun
  | [d1, d2, d3, d4, d5] => { results := [.lit (.bool true)], args := [d1, d2, d3, d4, d5] }
  | _ => none }
def signFormRow : OpenClaim := { program := "ytjpicnfkmfjnoaa", sum := "126bdd74902769edc430c7be368bf634c81e77ce7c61617bfc116c699cb9eb85", func := "nacelle/nacellelaw06.SignForm", spec := "signForm", unfollowed := true, recurses := true, apart := false }
def SignFormSaid : Prop := signFormRow.holds Try.pinned (OpenSpec.ofChange signFormSpec)

/-- ITS FALSE NEIGHBOUR: 'it returns false'. Refute it at one input. -/
def signFormWrong : ChangeSpec := { name := "signForm", fn := fun _ => fun
  | [d1, d2, d3, d4, d5] => { results := [.lit (.bool false)], args := [d1, d2, d3, d4, d5] }
  | _ => none }
def SignFormWrongFalsely : Prop := signFormRow.holds Try.pinned (OpenSpec.ofChange signFormWrong)

/-- 'nacellelaw06.SignVerifies': WHATEVER THE INPUT: true; the input reads as it did. -/
def signVerifiesSpec : ChangeSpec := { name := "signVerifies", fn := fun _ => fun
  | [d1, d2, d3] => { results := [.lit (.bool true)], args := [d1, d2, d3] }
  | _ => none }
def signVerifiesRow : OpenClaim := { program := "ytjpicnfkmfjnoaa", sum := "126bdd74902769edc430c7be368bf634c81e77ce7c61617bfc116c699cb9eb85", func := "nacelle/nacellelaw06.SignVerifies", spec := "signVerifies", unfollowed := true, recurses := true, apart := false }
def SignVerifiesSaid : Prop := signVerifiesRow.holds Try.pinned (OpenSpec.ofChange signVerifiesSpec)

/-- ITS FALSE NEIGHBOUR: 'it returns false'. Refute it at one input. -/
def signVerifiesWrong : ChangeSpec := { name := "signVerifies", fn := fun _ => fun
  | [d1, d2, d3] => { results := [.lit (.bool false)], args := [d1, d2, d3] }
  | _ => none }
def SignVerifiesWrongFalsely : Prop := signVerifiesRow.holds Try.pinned (OpenSpec.ofChange signVerifiesWrong)

/- THE SECOND FORM. 'bulk': how many values and letters a reading holds, each counted each time it is reached (what is shared counts as often as it is met; a slice's spare places count too). A statement '..UptoSaid' is the law's where the arguments, and the package variables that the reading takes, are together of bulk at most 1048576: NARROWER than '..Said'. Prove '..Said' where nothing that the law and all that it calls make is longer than what came in: it says more and counts as full. Else prove '..UptoSaid'. A law counts once. -/
mutual
def uptoBulk {H : Type} : DataW H → Nat
  | .lit (.string bytes) => bytes.length + 1
  | .lit _ => 1
  | .nil => 1
  | .ptr d => uptoBulk d + 1
  | .slice elems spare => uptoBulkAll elems + uptoBulkAll spare + 1
  | .agg parts => uptoBulkAll parts + 1
  | .iface _ d => uptoBulk d + 1
  | .map entries => uptoBulkEntries entries + 1
  | .held _ => 1
def uptoBulkAll {H : Type} : List (DataW H) → Nat
  | [] => 0
  | d :: r => uptoBulk d + uptoBulkAll r
def uptoBulkEntries {H : Type} : List (Lit × DataW H) → Nat
  | [] => 0
  | x :: r => uptoBulkEntry x + uptoBulkEntries r
def uptoBulkEntry {H : Type} : Lit × DataW H → Nat
  | (.string bytes, d) => bytes.length + uptoBulk d + 1
  | (_, d) => uptoBulk d + 1
 end
def uptoSmall : (H : Type) → List (DataW H) → Bool := fun _ ds => decide (uptoBulkAll ds ≤ 1048576)
def OpenSpec.upto (s : _root_.Go.ChangeSpec) : _root_.Go.OpenSpec := { _root_.Go.OpenSpec.ofChange s with cond := some uptoSmall }

/-- 'nacellelaw06.SignTells', WHERE WHAT IT READS IS OF BULK AT MOST 1048576: true; the input reads as it did. -/
def signTellsUptoRow : OpenClaim := { program := "ytjpicnfkmfjnoaa", sum := "126bdd74902769edc430c7be368bf634c81e77ce7c61617bfc116c699cb9eb85", func := "nacelle/nacellelaw06.SignTells", spec := "signTells", unfollowed := true, recurses := true, apart := false, narrowed := true }
def SignTellsUptoSaid : Prop := signTellsUptoRow.holds Try.pinned (OpenSpec.upto signTellsSpec)

/-- 'nacellelaw06.SignChecksum', WHERE WHAT IT READS IS OF BULK AT MOST 1048576: true; the input reads as it did. -/
def signChecksumUptoRow : OpenClaim := { program := "ytjpicnfkmfjnoaa", sum := "126bdd74902769edc430c7be368bf634c81e77ce7c61617bfc116c699cb9eb85", func := "nacelle/nacellelaw06.SignChecksum", spec := "signChecksum", unfollowed := true, recurses := true, apart := false, narrowed := true }
def SignChecksumUptoSaid : Prop := signChecksumUptoRow.holds Try.pinned (OpenSpec.upto signChecksumSpec)

/-- 'nacellelaw06.SignAdvances', WHERE WHAT IT READS IS OF BULK AT MOST 1048576: true; the input reads as it did. -/
def signAdvancesUptoRow : OpenClaim := { program := "ytjpicnfkmfjnoaa", sum := "126bdd74902769edc430c7be368bf634c81e77ce7c61617bfc116c699cb9eb85", func := "nacelle/nacellelaw06.SignAdvances", spec := "signAdvances", unfollowed := true, recurses := true, apart := false, narrowed := true }
def SignAdvancesUptoSaid : Prop := signAdvancesUptoRow.holds Try.pinned (OpenSpec.upto signAdvancesSpec)

/-- 'nacellelaw06.SignNil', WHERE WHAT IT READS IS OF BULK AT MOST 1048576: true; the input reads as it did. -/
def signNilUptoRow : OpenClaim := { program := "ytjpicnfkmfjnoaa", sum := "126bdd74902769edc430c7be368bf634c81e77ce7c61617bfc116c699cb9eb85", func := "nacelle/nacellelaw06.SignNil", spec := "signNil", unfollowed := true, recurses := true, apart := false, narrowed := true }
def SignNilUptoSaid : Prop := signNilUptoRow.holds Try.pinned (OpenSpec.upto signNilSpec)

/-- 'nacellelaw06.SignJudges', WHERE WHAT IT READS IS OF BULK AT MOST 1048576: true; the input reads as it did. -/
def signJudgesUptoRow : OpenClaim := { program := "ytjpicnfkmfjnoaa", sum := "126bdd74902769edc430c7be368bf634c81e77ce7c61617bfc116c699cb9eb85", func := "nacelle/nacellelaw06.SignJudges", spec := "signJudges", unfollowed := true, recurses := true, apart := false, narrowed := true }
def SignJudgesUptoSaid : Prop := signJudgesUptoRow.holds Try.pinned (OpenSpec.upto signJudgesSpec)

/-- 'nacellelaw06.SignForm', WHERE WHAT IT READS IS OF BULK AT MOST 1048576: true; the input reads as it did. -/
def signFormUptoRow : OpenClaim := { program := "ytjpicnfkmfjnoaa", sum := "126bdd74902769edc430c7be368bf634c81e77ce7c61617bfc116c699cb9eb85", func := "nacelle/nacellelaw06.SignForm", spec := "signForm", unfollowed := true, recurses := true, apart := false, narrowed := true }
def SignFormUptoSaid : Prop := signFormUptoRow.holds Try.pinned (OpenSpec.upto signFormSpec)

/-- 'nacellelaw06.SignVerifies', WHERE WHAT IT READS IS OF BULK AT MOST 1048576: true; the input reads as it did. -/
def signVerifiesUptoRow : OpenClaim := { program := "ytjpicnfkmfjnoaa", sum := "126bdd74902769edc430c7be368bf634c81e77ce7c61617bfc116c699cb9eb85", func := "nacelle/nacellelaw06.SignVerifies", spec := "signVerifies", unfollowed := true, recurses := true, apart := false, narrowed := true }
def SignVerifiesUptoSaid : Prop := signVerifiesUptoRow.holds Try.pinned (OpenSpec.upto signVerifiesSpec)

end Rows
end Go.Proofs.Ytjpicnfkmfjnoaa
