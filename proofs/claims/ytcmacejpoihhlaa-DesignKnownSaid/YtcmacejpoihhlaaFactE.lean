/- A fact of the whole program, one and the same for every law: mayEnter: the words at the head of the program let a claim begin at a function entry. -/
import Derived.Test.YtcmacejpoihhlaaRows
namespace Go.Proofs.Ytcmacejpoihhlaa

set_option maxRecDepth 100000 in
theorem factEnter : Try.pinned.checked.prog.mayEnter = true := by kernel_rfl
end Go.Proofs.Ytcmacejpoihhlaa
