/- The card of the statement ChartLaws. -/
import Derived.Test.YtooepkpgffpcjaaDoorSaidLaws
import Derived.Test.YtooepkpgffpcjaaDoorFactP
import Derived.Test.YtooepkpgffpcjaaDoorFactI
namespace Go.Proofs.YtooepkpgffpcjaaDoor.chartLaws
open Go.ChangeShapes Go.WideShapes Go.ChangeAt Go.RowKit

theorem plain (f : FuncId) (fn : Func) (hf : Tryd.pinned.checked.prog.funcNamed "aloeswood/aloeswoodlaw01.ChartLaws" = some f) (hfn : Tryd.pinned.checked.prog.funcs[f]? = some fn) :
    false = Tryd.pinned.checked.prog.looks [] ∧ ∀ (j : Nat) t, fn.params[j]? = some t → Tryd.pinned.checked.prog.wantsStandIn t = false := by
  obtain rfl : f = 12 := Option.some.inj ((show Tryd.prog.funcNamed "aloeswood/aloeswoodlaw01.ChartLaws" = some 12 by kernel_rfl).symm.trans hf) |>.symm
  obtain rfl : fn = Tryd.f12 := (Option.some.inj (Tryd.func12.symm.trans hfn)).symm
  refine ⟨factLooks, fun j t ht => ?_⟩
  rw [Tryd.params12] at ht
  have h : t = 22 := by simpa using Array.mem_of_getElem? ht
  subst h
  show Tryd.prog.wantsStandIn _ = false
  kernel_rfl

theorem card : Rows.ChartLawsCardSaid :=
  Claim7.holds_tied_plain_at .later [] _ _ _ _ said (fun _ h => by cases h) (by kernel_rfl) (fun _ h => by cases h) chartLaws_row_tie rfl ⟨rfl, rfl⟩ factMain rfl plain (by kernel_rfl)
end Go.Proofs.YtooepkpgffpcjaaDoor.chartLaws
