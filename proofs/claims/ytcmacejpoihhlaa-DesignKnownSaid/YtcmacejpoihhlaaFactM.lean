/- A fact of the whole program, one and the same for every law: make: how the program was made, as every row of this seat says it. -/
import Derived.Test.YtcmacejpoihhlaaRows
namespace Go.Proofs.Ytcmacejpoihhlaa

set_option maxRecDepth 100000 in
theorem factMake : (Try.pinned.checked.prog.make == some Rows.designKnownRow.make) = true := by kernel_rfl
end Go.Proofs.Ytcmacejpoihhlaa
