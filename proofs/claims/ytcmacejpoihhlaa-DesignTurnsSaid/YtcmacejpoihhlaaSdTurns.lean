/- The statement DesignTurns, over the row's contract. -/
import Derived.Test.YtcmacejpoihhlaaRwTurns
import Derived.Test.YtcmacejpoihhlaaFactE
import Derived.Test.YtcmacejpoihhlaaFactL
import Derived.Test.YtcmacejpoihhlaaFactM
namespace Go.Proofs.Ytcmacejpoihhlaa.designTurns
open Go.ChangeShapes Go.WideShapes Go.ChangeAt Go.RowKit

set_option maxRecDepth 100000 in
theorem lifted (os : Os) (started : os.Started) (H : Type) (enc : TypeId × Value → H) (F : Stop.Interp) :
    ReturnsInHanded {} Try.checked os 14 .any ((OpenSpec.ofChange Rows.designTurnsSpec).preRow enc Try.prog Try.f14 Rows.designTurnsRow.domain false Rows.designTurnsRow.laid) (((OpenSpec.ofChange Rows.designTurnsSpec).at F).post enc Try.prog Try.f14 false true false false) := by
  obtain ⟨places, hx⟩ := reads os enc
  refine returnsInHanded_of_row (C := Try.checked) (s := OpenSpec.ofChange Rows.designTurnsSpec) ownK started (by kernel_rfl) Try.func14
    (witness_row_at (enc := enc) (C := Try.checked) false (laidWorld os) #[.slice none 0 0] rfl (by kernel_rfl) (by kernel_rfl) (by kernel_rfl)
      (OpenSpec.preRow_of_cond 8 hx (by kernel_rfl) (fun k hk => by cases hk) (by kernel_rfl) (laid_met os))) ?_
  intro W base args ds gs before hval hW _ _ hsz hL _ _
  exact contract H enc W base args ds gs before hval hW hsz hL

set_option maxRecDepth 100000 in
theorem facts : joinedFacts Try.pinned.checked.prog 14 Try.f14 (OpenSpec.ofChange Rows.designTurnsSpec).bare Rows.designTurnsRow = true := by
  unfold joinedFacts
  rw [factEnter, show (Rows.designTurnsRow.lifted == Try.pinned.checked.prog.liftsFinal) = true from factLifts, show (Try.pinned.checked.prog.make == some Rows.designTurnsRow.make) = true from factMake]
  kernel_rfl

set_option maxRecDepth 100000 in
theorem said : Rows.DesignTurnsSaid :=
  OpenClaim.holds_of_cond 14 Try.f14 rfl rfl rfl rfl rfl rfl rfl ⟨rfl, rfl, rfl, rfl, rfl⟩ rfl rfl rfl rfl rfl (by kernel_rfl) Try.func14 facts
    (of_decide_eq_true (by kernel_rfl)) (by unfold Func.isWrapper; first | (rw [if_pos (by decide +kernel)]; kernel_rfl) | (rw [if_neg (by decide +kernel)]; exact ⟨rfl, rfl⟩))
    (fun os started H enc _ F => by rw [OpenClaim.pre_eq_preRow]; exact lifted os started H enc F)
end Go.Proofs.Ytcmacejpoihhlaa.designTurns
