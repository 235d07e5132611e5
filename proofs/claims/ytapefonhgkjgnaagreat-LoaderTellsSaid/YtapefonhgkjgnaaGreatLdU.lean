/- A row of tries (installations with power losses) in memory. -/
import Derived.Test.YtapefonhgkjgnaaGreatLdW
namespace Go.Proofs.YtapefonhgkjgnaaGreat
open Go.RowKit

/-- A try: a version, an image, numbers of operations and of steps. -/
structure TryV where
  ver : Int
  x : Option Addr
  c : Nat
  im : List UInt8
  ops : UInt8
  stp : UInt8
end Go.Proofs.YtapefonhgkjgnaaGreat
