/- A fact of the whole program, one and the same for every law: make: how the program was made, as every row of this seat says it. -/
import Derived.Test.YtooepkpgffpcjaaDoorRows
namespace Go.Proofs.YtooepkpgffpcjaaDoor

set_option maxRecDepth 100000 in
theorem factMake : (Tryd.pinned.checked.prog.make == some Rows.chartDrawsRow.make) = true := by kernel_rfl
end Go.Proofs.YtooepkpgffpcjaaDoor
