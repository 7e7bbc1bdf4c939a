/- The statement DesignFair, over the row's contract. -/
import Derived.Test.YtcmacejpoihhlaaRwFair
import Derived.Test.YtcmacejpoihhlaaFactE
import Derived.Test.YtcmacejpoihhlaaFactL
import Derived.Test.YtcmacejpoihhlaaFactM
namespace Go.Proofs.Ytcmacejpoihhlaa.designFair
open Go.ChangeShapes Go.WideShapes Go.ChangeAt Go.RowKit

set_option maxRecDepth 100000 in
theorem lifted (os : Os) (started : os.Started) (H : Type) (enc : TypeId × Value → H) (F : Stop.Interp) :
    ReturnsInHanded {} Try.checked os 12 .any ((OpenSpec.ofChange Rows.designFairSpec).preRow enc Try.prog Try.f12 Rows.designFairRow.domain false Rows.designFairRow.laid) (((OpenSpec.ofChange Rows.designFairSpec).at F).post enc Try.prog Try.f12 false true false false) := by
  obtain ⟨places, hx⟩ := reads os enc
  refine returnsInHanded_of_row (C := Try.checked) (s := OpenSpec.ofChange Rows.designFairSpec) ownK started (by kernel_rfl) Try.func12
    (witness_row_at (enc := enc) (C := Try.checked) false (laidWorld os) #[.int .i64 0] rfl (by kernel_rfl) (by kernel_rfl) (by kernel_rfl)
      (OpenSpec.preRow_of_cond 8 hx (by kernel_rfl) (fun k hk => by cases hk) (by kernel_rfl) (laid_met os))) ?_
  intro W base args ds gs before hval hW _ _ hsz hL _ _
  exact contract H enc W base args ds gs before hval hW hsz hL

set_option maxRecDepth 100000 in
theorem facts : joinedFacts Try.pinned.checked.prog 12 Try.f12 (OpenSpec.ofChange Rows.designFairSpec).bare Rows.designFairRow = true := by
  unfold joinedFacts
  rw [factEnter, show (Rows.designFairRow.lifted == Try.pinned.checked.prog.liftsFinal) = true from factLifts, show (Try.pinned.checked.prog.make == some Rows.designFairRow.make) = true from factMake]
  kernel_rfl

set_option maxRecDepth 100000 in
theorem said : Rows.DesignFairSaid :=
  OpenClaim.holds_of_cond 12 Try.f12 rfl rfl rfl rfl rfl rfl rfl ⟨rfl, rfl, rfl, rfl, rfl⟩ rfl rfl rfl rfl rfl (by kernel_rfl) Try.func12 facts
    (of_decide_eq_true (by kernel_rfl)) (by unfold Func.isWrapper; first | (rw [if_pos (by decide +kernel)]; kernel_rfl) | (rw [if_neg (by decide +kernel)]; exact ⟨rfl, rfl⟩))
    (fun os started H enc _ F => by rw [OpenClaim.pre_eq_preRow]; exact lifted os started H enc F)
end Go.Proofs.Ytcmacejpoihhlaa.designFair
