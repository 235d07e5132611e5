/-
  No cell of these rows narrows 'for every input' (looked for: loops, veiled, ifaces, maps, wideKeys, modest, calm, conditions, laid).
  DERIVED. THE GIVEN ROWS OF THIS SEAT. 6 by the template 'for every input the law returns true; each argument reads behind the call as it read before'; 0 by the template 'total and deterministic' (their statements: YtgibfagnfhgelaaTotals.lean).
  GIVEN WITH THE SEED: the statements are not yours to turn. If you find one false, say at which input.
  Laid BY PROGRAM, IN A SANDBOX (cutbox-rows.mjs): the forced cells as the released guide's own fill.sh prints them over the translation 75d48f4cb6828024… (all of the seat's roots in one cut). By AI agents, Wed Nov 11 2026. No macro, syntax, notation, axiom, sorry.
-/
import Derived.Test.YtgibfagnfhgelaaChecked
import GoSem.Claim
import GoSem.ClaimJoined
import GoSem.ClaimMapViews
import Derived.JoinedTies
import Derived.KernelRfl
namespace Go.Proofs.Ytgibfagnfhgelaa
/- THE CELL 'sum', in the pinned program and in every row, IS THE sha256 OF THE DUMP (.gsa) THAT YtgibfagnfhgelaaProg.lean LOADS. Nothing in Lean hashes anything: it is a label: what it is worth is what the hold of that sum in a sandbox is worth. -/
noncomputable def Try.pinned : Pinned := { name := "ytgibfagnfhgelaa", sum := "75d48f4cb68280245c64578cd2213ea8d8622a172103d48a8010cf2ba07f9bb5", checked := Try.checked }
namespace Rows
def none {H : Type} : Left H := { results := [], args := [] }

/-- 'nacellelaw37.BlockTells': WHATEVER THE INPUT: true; the input reads as it did. -/
def blockTellsSpec : ChangeSpec := { name := "blockTells", fn := fun _ => fun
  | [d1, d2, d3, d4, d5, d6] => { results := [.lit (.bool true)], args := [d1, d2, d3, d4, d5, d6] }
  | _ => none }
def blockTellsRow : OpenClaim := { program := "ytgibfagnfhgelaa", sum := "75d48f4cb68280245c64578cd2213ea8d8622a172103d48a8010cf2ba07f9bb5", func := "nacelle/nacellelaw37.BlockTells", spec := "blockTells", unfollowed := true, recurses := true, apart := false }
def BlockTellsSaid : Prop := blockTellsRow.holds Try.pinned (OpenSpec.ofChange blockTellsSpec)

/-- ITS FALSE NEIGHBOUR: 'it returns false'. Refute it at one input. -/
def blockTellsWrong : ChangeSpec := { name := "blockTells", fn := fun _ => fun
  | [d1, d2, d3, d4, d5, d6] => { results := [.lit (.bool false)], args := [d1, d2, d3, d4, d5, d6] }
  | _ => none }
def BlockTellsWrongFalsely : Prop := blockTellsRow.holds Try.pinned (OpenSpec.ofChange blockTellsWrong)

/-- 'nacellelaw37.BlockReads': WHATEVER THE INPUT: true; the input reads as it did. -/
def blockReadsSpec : ChangeSpec := { name := "blockReads", fn := fun _ => fun
  | [d1, d2] => { results := [.lit (.bool true)], args := [d1, d2] }
  | _ => none }
def blockReadsRow : OpenClaim := { program := "ytgibfagnfhgelaa", sum := "75d48f4cb68280245c64578cd2213ea8d8622a172103d48a8010cf2ba07f9bb5", func := "nacelle/nacellelaw37.BlockReads", spec := "blockReads", unfollowed := true, recurses := true, apart := false }
def BlockReadsSaid : Prop := blockReadsRow.holds Try.pinned (OpenSpec.ofChange blockReadsSpec)

/-- ITS FALSE NEIGHBOUR: 'it returns false'. Refute it at one input. -/
def blockReadsWrong : ChangeSpec := { name := "blockReads", fn := fun _ => fun
  | [d1, d2] => { results := [.lit (.bool false)], args := [d1, d2] }
  | _ => none }
def BlockReadsWrongFalsely : Prop := blockReadsRow.holds Try.pinned (OpenSpec.ofChange blockReadsWrong)

/-- 'nacellelaw37.BlockBurst': WHATEVER THE INPUT: true; the input reads as it did. -/
def blockBurstSpec : ChangeSpec := { name := "blockBurst", fn := fun _ => fun
  | [d1, d2, d3, d4] => { results := [.lit (.bool true)], args := [d1, d2, d3, d4] }
  | _ => none }
def blockBurstRow : OpenClaim := { program := "ytgibfagnfhgelaa", sum := "75d48f4cb68280245c64578cd2213ea8d8622a172103d48a8010cf2ba07f9bb5", func := "nacelle/nacellelaw37.BlockBurst", spec := "blockBurst", unfollowed := true, recurses := true, apart := false }
def BlockBurstSaid : Prop := blockBurstRow.holds Try.pinned (OpenSpec.ofChange blockBurstSpec)

/-- ITS FALSE NEIGHBOUR: 'it returns false'. Refute it at one input. -/
def blockBurstWrong : ChangeSpec := { name := "blockBurst", fn := fun _ => fun
  | [d1, d2, d3, d4] => { results := [.lit (.bool false)], args := [d1, d2, d3, d4] }
  | _ => none }
def BlockBurstWrongFalsely : Prop := blockBurstRow.holds Try.pinned (OpenSpec.ofChange blockBurstWrong)

/-- 'nacellelaw37.BlockRuns': WHATEVER THE INPUT: true; the input reads as it did. -/
def blockRunsSpec : ChangeSpec := { name := "blockRuns", fn := fun _ => fun
  | [d1, d2, d3] => { results := [.lit (.bool true)], args := [d1, d2, d3] }
  | _ => none }
def blockRunsRow : OpenClaim := { program := "ytgibfagnfhgelaa", sum := "75d48f4cb68280245c64578cd2213ea8d8622a172103d48a8010cf2ba07f9bb5", func := "nacelle/nacellelaw37.BlockRuns", spec := "blockRuns", unfollowed := true, recurses := true, apart := false }
def BlockRunsSaid : Prop := blockRunsRow.holds Try.pinned (OpenSpec.ofChange blockRunsSpec)

/-- ITS FALSE NEIGHBOUR: 'it returns false'. Refute it at one input. -/
def blockRunsWrong : ChangeSpec := { name := "blockRuns", fn := fun _ => fun
  | [d1, d2, d3] => { results := [.lit (.bool false)], args := [d1, d2, d3] }
  | _ => none }
def BlockRunsWrongFalsely : Prop := blockRunsRow.holds Try.pinned (OpenSpec.ofChange blockRunsWrong)

/-- 'nacellelaw37.BlockRepairs': WHATEVER THE INPUT: true; the input reads as it did. -/
def blockRepairsSpec : ChangeSpec := { name := "blockRepairs", fn := fun _ => fun
  | [d1, d2, d3, d4] => { results := [.lit (.bool true)], args := [d1, d2, d3, d4] }
  | _ => none }
def blockRepairsRow : OpenClaim := { program := "ytgibfagnfhgelaa", sum := "75d48f4cb68280245c64578cd2213ea8d8622a172103d48a8010cf2ba07f9bb5", func := "nacelle/nacellelaw37.BlockRepairs", spec := "blockRepairs", unfollowed := true, recurses := true, apart := false }
def BlockRepairsSaid : Prop := blockRepairsRow.holds Try.pinned (OpenSpec.ofChange blockRepairsSpec)

/-- ITS FALSE NEIGHBOUR: 'it returns false'. Refute it at one input. -/
def blockRepairsWrong : ChangeSpec := { name := "blockRepairs", fn := fun _ => fun
  | [d1, d2, d3, d4] => { results := [.lit (.bool false)], args := [d1, d2, d3, d4] }
  | _ => none }
def BlockRepairsWrongFalsely : Prop := blockRepairsRow.holds Try.pinned (OpenSpec.ofChange blockRepairsWrong)

/-- 'nacellelaw37.BlockWrong': WHATEVER THE INPUT: true; the input reads as it did. -/
def blockWrongSpec : ChangeSpec := { name := "blockWrong", fn := fun _ => fun
  | [d1, d2] => { results := [.lit (.bool true)], args := [d1, d2] }
  | _ => none }
def blockWrongRow : OpenClaim := { program := "ytgibfagnfhgelaa", sum := "75d48f4cb68280245c64578cd2213ea8d8622a172103d48a8010cf2ba07f9bb5", func := "nacelle/nacellelaw37.BlockWrong", spec := "blockWrong", unfollowed := true, recurses := true, apart := false }
def BlockWrongSaid : Prop := blockWrongRow.holds Try.pinned (OpenSpec.ofChange blockWrongSpec)

/-- ITS FALSE NEIGHBOUR: 'it returns false'. Refute it at one input. -/
def blockWrongWrong : ChangeSpec := { name := "blockWrong", fn := fun _ => fun
  | [d1, d2] => { results := [.lit (.bool false)], args := [d1, d2] }
  | _ => none }
def BlockWrongWrongFalsely : Prop := blockWrongRow.holds Try.pinned (OpenSpec.ofChange blockWrongWrong)

/- THE SECOND FORM. 'bulk': how many values and letters a reading holds, each counted each time it is reached (what is shared counts as often as it is met; a slice's spare places count too). A statement '..UptoSaid' is the law's where the arguments, and the package variables that the reading takes, are together of bulk at most 1048576: NARROWER than '..Said'. Prove '..Said' where nothing that the law and all that it calls make is longer than what came in: it says more and counts as full. Else prove '..UptoSaid'. A law counts once. -/
mutual
def uptoBulk {H : Type} : DataW H → Nat
  | .lit (.string bytes) => bytes.length + 1
  | .lit _ => 1
  | .nil => 1
  | .ptr d => uptoBulk d + 1
  | .slice elems spare => uptoBulkAll elems + uptoBulkAll spare + 1
  | .agg parts => uptoBulkAll parts + 1
  | .iface _ d => uptoBulk d + 1
  | .map entries => uptoBulkEntries entries + 1
  | .held _ => 1
def uptoBulkAll {H : Type} : List (DataW H) → Nat
  | [] => 0
  | d :: r => uptoBulk d + uptoBulkAll r
def uptoBulkEntries {H : Type} : List (Lit × DataW H) → Nat
  | [] => 0
  | x :: r => uptoBulkEntry x + uptoBulkEntries r
def uptoBulkEntry {H : Type} : Lit × DataW H → Nat
  | (.string bytes, d) => bytes.length + uptoBulk d + 1
  | (_, d) => uptoBulk d + 1
 end
def uptoSmall : (H : Type) → List (DataW H) → Bool := fun _ ds => decide (uptoBulkAll ds ≤ 1048576)
def OpenSpec.upto (s : _root_.Go.ChangeSpec) : _root_.Go.OpenSpec := { _root_.Go.OpenSpec.ofChange s with cond := some uptoSmall }

/-- 'nacellelaw37.BlockTells', WHERE WHAT IT READS IS OF BULK AT MOST 1048576: true; the input reads as it did. -/
def blockTellsUptoRow : OpenClaim := { program := "ytgibfagnfhgelaa", sum := "75d48f4cb68280245c64578cd2213ea8d8622a172103d48a8010cf2ba07f9bb5", func := "nacelle/nacellelaw37.BlockTells", spec := "blockTells", unfollowed := true, recurses := true, apart := false, narrowed := true }
def BlockTellsUptoSaid : Prop := blockTellsUptoRow.holds Try.pinned (OpenSpec.upto blockTellsSpec)

/-- 'nacellelaw37.BlockReads', WHERE WHAT IT READS IS OF BULK AT MOST 1048576: true; the input reads as it did. -/
def blockReadsUptoRow : OpenClaim := { program := "ytgibfagnfhgelaa", sum := "75d48f4cb68280245c64578cd2213ea8d8622a172103d48a8010cf2ba07f9bb5", func := "nacelle/nacellelaw37.BlockReads", spec := "blockReads", unfollowed := true, recurses := true, apart := false, narrowed := true }
def BlockReadsUptoSaid : Prop := blockReadsUptoRow.holds Try.pinned (OpenSpec.upto blockReadsSpec)

/-- 'nacellelaw37.BlockBurst', WHERE WHAT IT READS IS OF BULK AT MOST 1048576: true; the input reads as it did. -/
def blockBurstUptoRow : OpenClaim := { program := "ytgibfagnfhgelaa", sum := "75d48f4cb68280245c64578cd2213ea8d8622a172103d48a8010cf2ba07f9bb5", func := "nacelle/nacellelaw37.BlockBurst", spec := "blockBurst", unfollowed := true, recurses := true, apart := false, narrowed := true }
def BlockBurstUptoSaid : Prop := blockBurstUptoRow.holds Try.pinned (OpenSpec.upto blockBurstSpec)

/-- 'nacellelaw37.BlockRuns', WHERE WHAT IT READS IS OF BULK AT MOST 1048576: true; the input reads as it did. -/
def blockRunsUptoRow : OpenClaim := { program := "ytgibfagnfhgelaa", sum := "75d48f4cb68280245c64578cd2213ea8d8622a172103d48a8010cf2ba07f9bb5", func := "nacelle/nacellelaw37.BlockRuns", spec := "blockRuns", unfollowed := true, recurses := true, apart := false, narrowed := true }
def BlockRunsUptoSaid : Prop := blockRunsUptoRow.holds Try.pinned (OpenSpec.upto blockRunsSpec)

/-- 'nacellelaw37.BlockRepairs', WHERE WHAT IT READS IS OF BULK AT MOST 1048576: true; the input reads as it did. -/
def blockRepairsUptoRow : OpenClaim := { program := "ytgibfagnfhgelaa", sum := "75d48f4cb68280245c64578cd2213ea8d8622a172103d48a8010cf2ba07f9bb5", func := "nacelle/nacellelaw37.BlockRepairs", spec := "blockRepairs", unfollowed := true, recurses := true, apart := false, narrowed := true }
def BlockRepairsUptoSaid : Prop := blockRepairsUptoRow.holds Try.pinned (OpenSpec.upto blockRepairsSpec)

/-- 'nacellelaw37.BlockWrong', WHERE WHAT IT READS IS OF BULK AT MOST 1048576: true; the input reads as it did. -/
def blockWrongUptoRow : OpenClaim := { program := "ytgibfagnfhgelaa", sum := "75d48f4cb68280245c64578cd2213ea8d8622a172103d48a8010cf2ba07f9bb5", func := "nacelle/nacellelaw37.BlockWrong", spec := "blockWrong", unfollowed := true, recurses := true, apart := false, narrowed := true }
def BlockWrongUptoSaid : Prop := blockWrongUptoRow.holds Try.pinned (OpenSpec.upto blockWrongSpec)

end Rows
end Go.Proofs.Ytgibfagnfhgelaa
