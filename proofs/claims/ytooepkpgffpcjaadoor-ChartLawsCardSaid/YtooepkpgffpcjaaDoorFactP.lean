/- A fact of the whole program, one and the same for every law: looks: the program looks at nothing beside. -/
import Derived.Test.YtooepkpgffpcjaaDoorCards
namespace Go.Proofs.YtooepkpgffpcjaaDoor

set_option maxRecDepth 100000 in
theorem factLooks : false = Tryd.pinned.checked.prog.looks [] := by kernel_rfl
end Go.Proofs.YtooepkpgffpcjaaDoor
