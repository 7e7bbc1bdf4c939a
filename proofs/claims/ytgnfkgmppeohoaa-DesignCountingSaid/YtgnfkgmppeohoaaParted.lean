/- Walk: the program's Parted. -/
import Derived.Test.YtgnfkgmppeohoaaCount
namespace Go.Proofs.Ytgnfkgmppeohoaa
open Go.RowKit

theorem partRow_succ (P : List Int) (j : Nat) : partRow P (j + 1) = partIn (partRow P j) j := foldl_range_succ _ _ _

end Go.Proofs.Ytgnfkgmppeohoaa
