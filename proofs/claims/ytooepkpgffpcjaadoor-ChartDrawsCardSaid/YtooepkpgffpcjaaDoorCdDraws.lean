/- The card of the statement ChartDraws. -/
import Derived.Test.YtooepkpgffpcjaaDoorSdDraws
import Derived.Test.YtooepkpgffpcjaaDoorFcP
import Derived.Test.YtooepkpgffpcjaaDoorFcI
namespace Go.Proofs.YtooepkpgffpcjaaDoor.chartDraws
open Go.ChangeShapes Go.WideShapes Go.ChangeAt Go.RowKit

theorem plain (f : FuncId) (fn : Func) (hf : Tryd.pinned.checked.prog.funcNamed "aloeswood/aloeswoodlaw01.ChartDraws" = some f) (hfn : Tryd.pinned.checked.prog.funcs[f]? = some fn) :
    false = Tryd.pinned.checked.prog.looks [] ∧ ∀ (j : Nat) t, fn.params[j]? = some t → Tryd.pinned.checked.prog.wantsStandIn t = false := by
  obtain rfl : f = 13 := Option.some.inj ((show Tryd.prog.funcNamed "aloeswood/aloeswoodlaw01.ChartDraws" = some 13 by kernel_rfl).symm.trans hf) |>.symm
  obtain rfl : fn = Tryd.f13 := (Option.some.inj (Tryd.func13.symm.trans hfn)).symm
  refine ⟨factLooks, fun j t ht => ?_⟩
  rw [Tryd.params13] at ht
  have h : t = 22 ∨ t = 9 ∨ t = 22 ∨ t = 3 ∨ t = 3 ∨ t = 5 := by simpa using Array.mem_of_getElem? ht
  rcases h with rfl | rfl | rfl | rfl | rfl | rfl <;> show Tryd.prog.wantsStandIn _ = false <;> kernel_rfl

theorem card : Rows.ChartDrawsCardSaid :=
  Claim7.holds_tied_plain_at .later [] _ _ _ _ said (fun _ h => by cases h) (by kernel_rfl) (fun _ h => by cases h) chartDraws_row_tie rfl ⟨rfl, rfl⟩ factMain rfl plain (by kernel_rfl)
end Go.Proofs.YtooepkpgffpcjaaDoor.chartDraws
