/- The card of the statement ChartLabels. -/
import Derived.Test.YtooepkpgffpcjaaDoorSaidLabels
import Derived.Test.YtooepkpgffpcjaaDoorFactP
import Derived.Test.YtooepkpgffpcjaaDoorFactI
namespace Go.Proofs.YtooepkpgffpcjaaDoor.chartLabels
open Go.ChangeShapes Go.WideShapes Go.ChangeAt Go.RowKit

theorem plain (f : FuncId) (fn : Func) (hf : Tryd.pinned.checked.prog.funcNamed "aloeswood/aloeswoodlaw01.ChartLabels" = some f) (hfn : Tryd.pinned.checked.prog.funcs[f]? = some fn) :
    false = Tryd.pinned.checked.prog.looks [] ∧ ∀ (j : Nat) t, fn.params[j]? = some t → Tryd.pinned.checked.prog.wantsStandIn t = false := by
  obtain rfl : f = 5 := Option.some.inj ((show Tryd.prog.funcNamed "aloeswood/aloeswoodlaw01.ChartLabels" = some 5 by kernel_rfl).symm.trans hf) |>.symm
  obtain rfl : fn = Tryd.f5 := (Option.some.inj (Tryd.func5.symm.trans hfn)).symm
  refine ⟨factLooks, fun j t ht => ?_⟩
  rw [Tryd.params5] at ht
  have h : t = 22 ∨ t = 3 := by simpa using Array.mem_of_getElem? ht
  rcases h with rfl | rfl <;> show Tryd.prog.wantsStandIn _ = false <;> kernel_rfl

theorem card : Rows.ChartLabelsCardSaid :=
  Claim7.holds_tied_plain_at .later [] _ _ _ _ said (fun _ h => by cases h) (by kernel_rfl) (fun _ h => by cases h) chartLabels_row_tie rfl ⟨rfl, rfl⟩ factMain rfl plain (by kernel_rfl)
end Go.Proofs.YtooepkpgffpcjaaDoor.chartLabels
