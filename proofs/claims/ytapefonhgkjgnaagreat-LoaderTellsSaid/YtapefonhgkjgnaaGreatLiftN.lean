/- A slice that comes in lies in memory, whatever its length. -/
import Derived.Test.YtapefonhgkjgnaaGreatLiftM
namespace Go.Proofs.YtapefonhgkjgnaaGreat
open Go.Joins Go.ChangeShapes Go.WideShapes Go.RowKit Go.Deep

end Go.Proofs.YtapefonhgkjgnaaGreat
