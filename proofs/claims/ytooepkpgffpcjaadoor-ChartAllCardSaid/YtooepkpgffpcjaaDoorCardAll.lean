/- The card of the statement ChartAll. -/
import Derived.Test.YtooepkpgffpcjaaDoorSaidAll
import Derived.Test.YtooepkpgffpcjaaDoorFactP
import Derived.Test.YtooepkpgffpcjaaDoorFactI
namespace Go.Proofs.YtooepkpgffpcjaaDoor.chartAll
open Go.ChangeShapes Go.WideShapes Go.ChangeAt Go.RowKit

theorem plain (f : FuncId) (fn : Func) (hf : Tryd.pinned.checked.prog.funcNamed "aloeswood/aloeswoodlaw01.ChartAll" = some f) (hfn : Tryd.pinned.checked.prog.funcs[f]? = some fn) :
    false = Tryd.pinned.checked.prog.looks [] ∧ ∀ (j : Nat) t, fn.params[j]? = some t → Tryd.pinned.checked.prog.wantsStandIn t = false := by
  obtain rfl : f = 11 := Option.some.inj ((show Tryd.prog.funcNamed "aloeswood/aloeswoodlaw01.ChartAll" = some 11 by kernel_rfl).symm.trans hf) |>.symm
  obtain rfl : fn = Tryd.f11 := (Option.some.inj (Tryd.func11.symm.trans hfn)).symm
  refine ⟨factLooks, fun j t ht => ?_⟩
  rw [Tryd.params11] at ht
  have h : t = 3 := by simpa using Array.mem_of_getElem? ht
  subst h
  show Tryd.prog.wantsStandIn _ = false
  kernel_rfl

theorem card : Rows.ChartAllCardSaid :=
  Claim7.holds_tied_plain_at .later [] _ _ _ _ said (fun _ h => by cases h) (by kernel_rfl) (fun _ h => by cases h) chartAll_row_tie rfl ⟨rfl, rfl⟩ factMain rfl plain (by kernel_rfl)
end Go.Proofs.YtooepkpgffpcjaaDoor.chartAll
