/- A fact of the whole program, one and the same for every law: liftsFinal: what a row says of finals, as every row of this seat does. -/
import Derived.Test.YtcmacejpoihhlaaRows
namespace Go.Proofs.Ytcmacejpoihhlaa

set_option maxRecDepth 100000 in
theorem factLifts : (Rows.designKnownRow.lifted == Try.pinned.checked.prog.liftsFinal) = true := by kernel_rfl
end Go.Proofs.Ytcmacejpoihhlaa
