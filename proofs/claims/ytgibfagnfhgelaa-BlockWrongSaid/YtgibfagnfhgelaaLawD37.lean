/- LAW BlockWrong. -/
import Derived.Test.YtgibfagnfhgelaaWrgB
import Derived.Test.YtgibfagnfhgelaaWrgC
import Derived.Test.YtgibfagnfhgelaaWrgD
import Derived.Test.YtgibfagnfhgelaaWrgE
import Derived.Test.YtgibfagnfhgelaaWrgF
namespace Go.Proofs.Ytgibfagnfhgelaa
open Go.RowKit

theorem wrong_law (way : UInt8) (i : Int) (w : World) (hi : -9223372036854775808 ≤ i ∧ i ≤ 9223372036854775807) : Calls Try.prog 8 #[.int .u8 (way.toNat : Int), .int .i64 i] w (YesOf w) := by
  have h : (way.toNat : Int) % 6 = 0 ∨ (way.toNat : Int) % 6 = 1 ∨ (way.toNat : Int) % 6 = 2 ∨ (way.toNat : Int) % 6 = 3 ∨ (way.toNat : Int) % 6 = 4 ∨ (way.toNat : Int) % 6 = 5 := by omega
  rcases h with h | h | h | h | h | h
  · exact wrong_0 way i w hi h
  · exact wrong_1 way i w hi h
  · exact wrong_2 way i w hi h
  · exact wrong_3 way i w hi h
  · exact wrong_4 way i w hi h
  · exact wrong_5 way i w hi h

end Go.Proofs.Ytgibfagnfhgelaa
