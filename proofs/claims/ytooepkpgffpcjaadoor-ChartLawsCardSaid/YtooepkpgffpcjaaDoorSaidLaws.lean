/- The statement ChartLaws, over the row's contract. -/
import Derived.Test.YtooepkpgffpcjaaDoorRowLaws
import Derived.Test.YtooepkpgffpcjaaDoorFactE
import Derived.Test.YtooepkpgffpcjaaDoorFactL
import Derived.Test.YtooepkpgffpcjaaDoorFactM
namespace Go.Proofs.YtooepkpgffpcjaaDoor.chartLaws
open Go.ChangeShapes Go.WideShapes Go.ChangeAt Go.RowKit

set_option maxRecDepth 100000 in
theorem lifted (os : Os) (started : os.Started) (H : Type) (enc : TypeId × Value → H) (F : Stop.Interp) :
    ReturnsInHanded {} Tryd.checked os 12 .any ((OpenSpec.ofChange Rows.chartLawsSpec).preRow enc Tryd.prog Tryd.f12 Rows.chartLawsRow.domain false Rows.chartLawsRow.laid) (((OpenSpec.ofChange Rows.chartLawsSpec).at F).post enc Tryd.prog Tryd.f12 false true false false) := by
  obtain ⟨places, hx⟩ := reads os enc
  refine returnsInHanded_of_row (C := Tryd.checked) (s := OpenSpec.ofChange Rows.chartLawsSpec) ownK started (by kernel_rfl) Tryd.func12
    (witness_row_at (enc := enc) (C := Tryd.checked) false (laidWorld os) #[.slice none 0 0] rfl (by kernel_rfl) (by kernel_rfl) (by kernel_rfl)
      (OpenSpec.preRow_of_cond 8 hx (by kernel_rfl) (fun k hk => by cases hk) (by kernel_rfl) (laid_met os))) ?_
  intro W base args ds gs before hval hW _ _ hsz hL _ _
  exact contract H enc W base args ds gs before hval hW hsz hL

set_option maxRecDepth 100000 in
theorem facts : joinedFacts Tryd.pinned.checked.prog 12 Tryd.f12 (OpenSpec.ofChange Rows.chartLawsSpec).bare Rows.chartLawsRow = true := by
  unfold joinedFacts
  rw [factEnter, show (Rows.chartLawsRow.lifted == Tryd.pinned.checked.prog.liftsFinal) = true from factLifts, show (Tryd.pinned.checked.prog.make == some Rows.chartLawsRow.make) = true from factMake]
  kernel_rfl

set_option maxRecDepth 100000 in
theorem said : Rows.ChartLawsSaid :=
  OpenClaim.holds_of_cond 12 Tryd.f12 rfl rfl rfl rfl rfl rfl rfl ⟨rfl, rfl, rfl, rfl, rfl⟩ rfl rfl rfl rfl rfl (by kernel_rfl) Tryd.func12 facts
    (of_decide_eq_true (by kernel_rfl)) (by unfold Func.isWrapper; first | (rw [if_pos (by decide +kernel)]; kernel_rfl) | (rw [if_neg (by decide +kernel)]; exact ⟨rfl, rfl⟩))
    (fun os started H enc _ F => by rw [OpenClaim.pre_eq_preRow]; exact lifted os started H enc F)
end Go.Proofs.YtooepkpgffpcjaaDoor.chartLaws
