/-
  No cell of these rows narrows 'for every input' (looked for: loops, veiled, ifaces, maps, wideKeys, modest, calm, conditions, laid).
  DERIVED. THE GIVEN ROWS OF THIS SEAT. 5 by the template 'for every input the law returns true; each argument reads behind the call as it read before'; 0 by the template 'total and deterministic' (their statements: YtapefonhgkjgnaaTotals.lean).
  GIVEN WITH THE SEED: the statements are not yours to turn. If you find one false, say at which input.
  Laid BY PROGRAM, IN A SANDBOX (cutbox-rows.mjs): the forced cells as the released guide's own fill.sh prints them over the translation 2f270c0054de657d… (all of the seat's roots in one cut). By AI agents, Wed Nov 11 2026. No macro, syntax, notation, axiom, sorry.
-/
import Derived.Test.YtapefonhgkjgnaaChecked
import GoSem.Claim
import GoSem.ClaimJoined
import GoSem.ClaimMapViews
import Derived.JoinedTies
import Derived.KernelRfl
namespace Go.Proofs.Ytapefonhgkjgnaa
/- THE CELL 'sum', in the pinned program and in every row, IS THE sha256 OF THE DUMP (.gsa) THAT YtapefonhgkjgnaaProg.lean LOADS. Nothing in Lean hashes anything: it is a label: what it is worth is what the hold of that sum in a sandbox is worth. -/
noncomputable def Try.pinned : Pinned := { name := "ytapefonhgkjgnaa", sum := "2f270c0054de657d189322f8c2a4f5b1129ef4fa3165cf93cda85bbd9afbad0b", checked := Try.checked }
namespace Rows
def none {H : Type} : Left H := { results := [], args := [] }

/-- 'nacellelaw38.LoaderPacks': WHATEVER THE INPUT: true; the input reads as it did. -/
def loaderPacksSpec : ChangeSpec := { name := "loaderPacks", fn := fun _ => fun
  | [d1, d2, d3] => { results := [.lit (.bool true)], args := [d1, d2, d3] }
  | _ => none }
def loaderPacksRow : OpenClaim := { program := "ytapefonhgkjgnaa", sum := "2f270c0054de657d189322f8c2a4f5b1129ef4fa3165cf93cda85bbd9afbad0b", func := "nacelle/nacellelaw38.LoaderPacks", spec := "loaderPacks", unfollowed := true, recurses := true, apart := false }
def LoaderPacksSaid : Prop := loaderPacksRow.holds Try.pinned (OpenSpec.ofChange loaderPacksSpec)

/-- ITS FALSE NEIGHBOUR: 'it returns false'. Refute it at one input. -/
def loaderPacksWrong : ChangeSpec := { name := "loaderPacks", fn := fun _ => fun
  | [d1, d2, d3] => { results := [.lit (.bool false)], args := [d1, d2, d3] }
  | _ => none }
def LoaderPacksWrongFalsely : Prop := loaderPacksRow.holds Try.pinned (OpenSpec.ofChange loaderPacksWrong)

/-- 'nacellelaw38.LoaderRefuses': WHATEVER THE INPUT: true; the input reads as it did. -/
def loaderRefusesSpec : ChangeSpec := { name := "loaderRefuses", fn := fun _ => fun
  | [d1, d2, d3, d4] => { results := [.lit (.bool true)], args := [d1, d2, d3, d4] }
  | _ => none }
def loaderRefusesRow : OpenClaim := { program := "ytapefonhgkjgnaa", sum := "2f270c0054de657d189322f8c2a4f5b1129ef4fa3165cf93cda85bbd9afbad0b", func := "nacelle/nacellelaw38.LoaderRefuses", spec := "loaderRefuses", unfollowed := true, recurses := true, apart := false }
def LoaderRefusesSaid : Prop := loaderRefusesRow.holds Try.pinned (OpenSpec.ofChange loaderRefusesSpec)

/-- ITS FALSE NEIGHBOUR: 'it returns false'. Refute it at one input. -/
def loaderRefusesWrong : ChangeSpec := { name := "loaderRefuses", fn := fun _ => fun
  | [d1, d2, d3, d4] => { results := [.lit (.bool false)], args := [d1, d2, d3, d4] }
  | _ => none }
def LoaderRefusesWrongFalsely : Prop := loaderRefusesRow.holds Try.pinned (OpenSpec.ofChange loaderRefusesWrong)

/-- 'nacellelaw38.LoaderPower': WHATEVER THE INPUT: true; the input reads as it did. -/
def loaderPowerSpec : ChangeSpec := { name := "loaderPower", fn := fun _ => fun
  | [d1, d2] => { results := [.lit (.bool true)], args := [d1, d2] }
  | _ => none }
def loaderPowerRow : OpenClaim := { program := "ytapefonhgkjgnaa", sum := "2f270c0054de657d189322f8c2a4f5b1129ef4fa3165cf93cda85bbd9afbad0b", func := "nacelle/nacellelaw38.LoaderPower", spec := "loaderPower", unfollowed := true, recurses := true, apart := false }
def LoaderPowerSaid : Prop := loaderPowerRow.holds Try.pinned (OpenSpec.ofChange loaderPowerSpec)

/-- ITS FALSE NEIGHBOUR: 'it returns false'. Refute it at one input. -/
def loaderPowerWrong : ChangeSpec := { name := "loaderPower", fn := fun _ => fun
  | [d1, d2] => { results := [.lit (.bool false)], args := [d1, d2] }
  | _ => none }
def LoaderPowerWrongFalsely : Prop := loaderPowerRow.holds Try.pinned (OpenSpec.ofChange loaderPowerWrong)

/-- 'nacellelaw38.LoaderKeeps': WHATEVER THE INPUT: true; the input reads as it did. -/
def loaderKeepsSpec : ChangeSpec := { name := "loaderKeeps", fn := fun _ => fun
  | [d1, d2, d3, d4, d5] => { results := [.lit (.bool true)], args := [d1, d2, d3, d4, d5] }
  | _ => none }
def loaderKeepsRow : OpenClaim := { program := "ytapefonhgkjgnaa", sum := "2f270c0054de657d189322f8c2a4f5b1129ef4fa3165cf93cda85bbd9afbad0b", func := "nacelle/nacellelaw38.LoaderKeeps", spec := "loaderKeeps", unfollowed := true, recurses := true, apart := false }
def LoaderKeepsSaid : Prop := loaderKeepsRow.holds Try.pinned (OpenSpec.ofChange loaderKeepsSpec)

/-- ITS FALSE NEIGHBOUR: 'it returns false'. Refute it at one input. -/
def loaderKeepsWrong : ChangeSpec := { name := "loaderKeeps", fn := fun _ => fun
  | [d1, d2, d3, d4, d5] => { results := [.lit (.bool false)], args := [d1, d2, d3, d4, d5] }
  | _ => none }
def LoaderKeepsWrongFalsely : Prop := loaderKeepsRow.holds Try.pinned (OpenSpec.ofChange loaderKeepsWrong)

/-- 'nacellelaw38.LoaderDamage': WHATEVER THE INPUT: true; the input reads as it did. -/
def loaderDamageSpec : ChangeSpec := { name := "loaderDamage", fn := fun _ => fun
  | [d1, d2, d3, d4] => { results := [.lit (.bool true)], args := [d1, d2, d3, d4] }
  | _ => none }
def loaderDamageRow : OpenClaim := { program := "ytapefonhgkjgnaa", sum := "2f270c0054de657d189322f8c2a4f5b1129ef4fa3165cf93cda85bbd9afbad0b", func := "nacelle/nacellelaw38.LoaderDamage", spec := "loaderDamage", unfollowed := true, recurses := true, apart := false }
def LoaderDamageSaid : Prop := loaderDamageRow.holds Try.pinned (OpenSpec.ofChange loaderDamageSpec)

/-- ITS FALSE NEIGHBOUR: 'it returns false'. Refute it at one input. -/
def loaderDamageWrong : ChangeSpec := { name := "loaderDamage", fn := fun _ => fun
  | [d1, d2, d3, d4] => { results := [.lit (.bool false)], args := [d1, d2, d3, d4] }
  | _ => none }
def LoaderDamageWrongFalsely : Prop := loaderDamageRow.holds Try.pinned (OpenSpec.ofChange loaderDamageWrong)

/- THE SECOND FORM. 'bulk': how many values and letters a reading holds, each counted each time it is reached (what is shared counts as often as it is met; a slice's spare places count too). A statement '..UptoSaid' is the law's where the arguments, and the package variables that the reading takes, are together of bulk at most 1048576: NARROWER than '..Said'. Prove '..Said' where nothing that the law and all that it calls make is longer than what came in: it says more and counts as full. Else prove '..UptoSaid'. A law counts once. -/
mutual
def uptoBulk {H : Type} : DataW H → Nat
  | .lit (.string bytes) => bytes.length + 1
  | .lit _ => 1
  | .nil => 1
  | .ptr d => uptoBulk d + 1
  | .slice elems spare => uptoBulkAll elems + uptoBulkAll spare + 1
  | .agg parts => uptoBulkAll parts + 1
  | .iface _ d => uptoBulk d + 1
  | .map entries => uptoBulkEntries entries + 1
  | .held _ => 1
def uptoBulkAll {H : Type} : List (DataW H) → Nat
  | [] => 0
  | d :: r => uptoBulk d + uptoBulkAll r
def uptoBulkEntries {H : Type} : List (Lit × DataW H) → Nat
  | [] => 0
  | x :: r => uptoBulkEntry x + uptoBulkEntries r
def uptoBulkEntry {H : Type} : Lit × DataW H → Nat
  | (.string bytes, d) => bytes.length + uptoBulk d + 1
  | (_, d) => uptoBulk d + 1
 end
def uptoSmall : (H : Type) → List (DataW H) → Bool := fun _ ds => decide (uptoBulkAll ds ≤ 1048576)
def OpenSpec.upto (s : _root_.Go.ChangeSpec) : _root_.Go.OpenSpec := { _root_.Go.OpenSpec.ofChange s with cond := some uptoSmall }

/-- 'nacellelaw38.LoaderPacks', WHERE WHAT IT READS IS OF BULK AT MOST 1048576: true; the input reads as it did. -/
def loaderPacksUptoRow : OpenClaim := { program := "ytapefonhgkjgnaa", sum := "2f270c0054de657d189322f8c2a4f5b1129ef4fa3165cf93cda85bbd9afbad0b", func := "nacelle/nacellelaw38.LoaderPacks", spec := "loaderPacks", unfollowed := true, recurses := true, apart := false, narrowed := true }
def LoaderPacksUptoSaid : Prop := loaderPacksUptoRow.holds Try.pinned (OpenSpec.upto loaderPacksSpec)

/-- 'nacellelaw38.LoaderRefuses', WHERE WHAT IT READS IS OF BULK AT MOST 1048576: true; the input reads as it did. -/
def loaderRefusesUptoRow : OpenClaim := { program := "ytapefonhgkjgnaa", sum := "2f270c0054de657d189322f8c2a4f5b1129ef4fa3165cf93cda85bbd9afbad0b", func := "nacelle/nacellelaw38.LoaderRefuses", spec := "loaderRefuses", unfollowed := true, recurses := true, apart := false, narrowed := true }
def LoaderRefusesUptoSaid : Prop := loaderRefusesUptoRow.holds Try.pinned (OpenSpec.upto loaderRefusesSpec)

/-- 'nacellelaw38.LoaderPower', WHERE WHAT IT READS IS OF BULK AT MOST 1048576: true; the input reads as it did. -/
def loaderPowerUptoRow : OpenClaim := { program := "ytapefonhgkjgnaa", sum := "2f270c0054de657d189322f8c2a4f5b1129ef4fa3165cf93cda85bbd9afbad0b", func := "nacelle/nacellelaw38.LoaderPower", spec := "loaderPower", unfollowed := true, recurses := true, apart := false, narrowed := true }
def LoaderPowerUptoSaid : Prop := loaderPowerUptoRow.holds Try.pinned (OpenSpec.upto loaderPowerSpec)

/-- 'nacellelaw38.LoaderKeeps', WHERE WHAT IT READS IS OF BULK AT MOST 1048576: true; the input reads as it did. -/
def loaderKeepsUptoRow : OpenClaim := { program := "ytapefonhgkjgnaa", sum := "2f270c0054de657d189322f8c2a4f5b1129ef4fa3165cf93cda85bbd9afbad0b", func := "nacelle/nacellelaw38.LoaderKeeps", spec := "loaderKeeps", unfollowed := true, recurses := true, apart := false, narrowed := true }
def LoaderKeepsUptoSaid : Prop := loaderKeepsUptoRow.holds Try.pinned (OpenSpec.upto loaderKeepsSpec)

/-- 'nacellelaw38.LoaderDamage', WHERE WHAT IT READS IS OF BULK AT MOST 1048576: true; the input reads as it did. -/
def loaderDamageUptoRow : OpenClaim := { program := "ytapefonhgkjgnaa", sum := "2f270c0054de657d189322f8c2a4f5b1129ef4fa3165cf93cda85bbd9afbad0b", func := "nacelle/nacellelaw38.LoaderDamage", spec := "loaderDamage", unfollowed := true, recurses := true, apart := false, narrowed := true }
def LoaderDamageUptoSaid : Prop := loaderDamageUptoRow.holds Try.pinned (OpenSpec.upto loaderDamageSpec)

end Rows
end Go.Proofs.Ytapefonhgkjgnaa
