/- A fact of the whole program, one and the same for every law: mainIs: which text the main package is. -/
import Derived.Test.YtooepkpgffpcjaaDoorCards
namespace Go.Proofs.YtooepkpgffpcjaaDoor

set_option maxRecDepth 100000 in
theorem factMain : Tryd.pinned.checked.prog.mainIs = some (true, "5961d0f62888aaa78217b28e80a7047ac61560873b92fe3465261809cf5537ae".toList) := by kernel_rfl
end Go.Proofs.YtooepkpgffpcjaaDoor
