/- The card of the statement ChartKnown. -/
import Derived.Test.YtooepkpgffpcjaaDoorSdKnown
import Derived.Test.YtooepkpgffpcjaaDoorFcP
import Derived.Test.YtooepkpgffpcjaaDoorFcI
namespace Go.Proofs.YtooepkpgffpcjaaDoor.chartKnown
open Go.ChangeShapes Go.WideShapes Go.ChangeAt Go.RowKit

theorem plain (f : FuncId) (fn : Func) (hf : Tryd.pinned.checked.prog.funcNamed "aloeswood/aloeswoodlaw01.ChartKnown" = some f) (hfn : Tryd.pinned.checked.prog.funcs[f]? = some fn) :
    false = Tryd.pinned.checked.prog.looks [] ∧ ∀ (j : Nat) t, fn.params[j]? = some t → Tryd.pinned.checked.prog.wantsStandIn t = false := by
  obtain rfl : f = 17 := Option.some.inj ((show Tryd.prog.funcNamed "aloeswood/aloeswoodlaw01.ChartKnown" = some 17 by kernel_rfl).symm.trans hf) |>.symm
  obtain rfl : fn = Tryd.f17 := (Option.some.inj (Tryd.func17.symm.trans hfn)).symm
  refine ⟨factLooks, fun j t ht => ?_⟩
  rw [Tryd.params17] at ht
  simp at ht

theorem card : Rows.ChartKnownCardSaid :=
  Claim7.holds_tied_plain_at .later [] _ _ _ _ said (fun _ h => by cases h) (by kernel_rfl) (fun _ h => by cases h) chartKnown_row_tie rfl ⟨rfl, rfl⟩ factMain rfl plain (by kernel_rfl)
end Go.Proofs.YtooepkpgffpcjaaDoor.chartKnown
