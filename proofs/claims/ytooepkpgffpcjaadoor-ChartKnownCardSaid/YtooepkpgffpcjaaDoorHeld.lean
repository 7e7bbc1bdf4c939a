/- What every statement of this seat leaves. -/
import Derived.Test.YtooepkpgffpcjaaDoorAwake
namespace Go.Proofs.YtooepkpgffpcjaaDoor
open Go.RowKit

theorem refused_any (e : Int) (w : World) : Calls Tryd.prog 30 #[.int .i64 e] w fun en w' => en = .returned (.bool (e != 0)) ∧ w = w' := by
  go_enter Tryd.func30, Tryd.ntmps30
  go_wp2
  go_ret
  exact ⟨rfl, rfl⟩
/-- what a statement leaves -/
def Held (w : World) (e : Ending) (w' : World) : Prop := e = .returned (.bool true) ∧ Below w.heap.size w w'
end Go.Proofs.YtooepkpgffpcjaaDoor
