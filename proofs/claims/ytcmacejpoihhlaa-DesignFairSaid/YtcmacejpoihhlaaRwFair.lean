/- The row of the statement DesignFair. -/
import Derived.Test.YtcmacejpoihhlaaMgJ
import Derived.Test.YtcmacejpoihhlaaLwFair
namespace Go.Proofs.Ytcmacejpoihhlaa.designFair
open Go.ChangeShapes Go.WideShapes Go.ChangeAt Go.RowKit

theorem readable : ∀ t ∈ Try.f12.params.toList, Try.prog.readableRec t = true ∧ t < Try.prog.types.size := by
  rw [Try.params12]
  intro t ht
  have h : t = 3 := by simpa using ht
  subst h
  exact ⟨by kernel_rfl, of_decide_eq_true (by kernel_rfl)⟩

set_option maxRecDepth 100000 in
theorem contract (H : Type) (enc : TypeId × Value → H) (W : World) (base : Nat) (args : Array Value) (ds gs : List (DataW H)) (before : List MemPlace)
    (hval : ∀ (j : Nat) t v, Try.f12.params[j]? = some t → args[j]? = some v → Value.okWide Try.prog W .any base t v)
    (hW : DataW.Whole enc Try.prog Try.f12.params.toList Rows.designFairSpec.vars false W args.toList ds gs before)
    (hsz : (DataW.weightsEach Try.prog (Try.f12.params.toList ++ (OpenSpec.ofChange Rows.designFairSpec).bare.plain.varTypes Try.prog) (ds ++ gs)).all (· ≤ reachBytes) = true)
    (_hL : laidMetH Try.prog Rows.designFairRow.laid W) :
    Calls Try.prog 12 args W fun e W' => ∃ v, e = .returned v ∧ Rows.designFairSpec.post enc Try.prog Try.f12 false true false false W args v W' := by
  have hW' := hW
  obtain ⟨p, q, hA0, hV, rfl, hfz, hnd⟩ := hW
  have hA : DataW.TrodAll enc Try.prog W 0 (fun _ => true) true Try.f12.params.toList args.toList ds p := hA0
  rw [Try.params12] at hA hval hsz
  obtain ⟨rfl, rfl⟩ := trodVars_none hV
  obtain ⟨v0, vs0, d0, ds0, p0, q0, hargs, rfl, rfl, h0, r0⟩ := trodAll_cons hA
  obtain ⟨rfl, rfl, rfl⟩ := trodAll_nil r0
  obtain rfl : args = #[v0] := by cases args; simp_all
  rw [noVars rfl, List.append_nil, List.append_nil] at hsz
  have hs3 : (DataW.weightsEach Try.prog [3] [d0]).all (· ≤ reachBytes) = true := hsz
  clear hsz
  have k0 := hval 0 3 v0 rfl rfl
  obtain ⟨x0, rfl, rfl, rfl, wf0⟩ := open_int Try.underlying3 k0 h0
  refine (designFair_any x0 W (wf_I64 wf0)).mono ?_
  rintro e W2 ⟨rfl, hb⟩
  exact ⟨_, rfl, post_holds hW' rfl rfl readable rfl hb⟩

theorem laid_met (os : Os) : laidMet Try.prog Rows.designFairRow.laid ((laidWorld os).forCall (fun _ _ => 0) ⟨#[], #[.int .i64 0], []⟩).memory :=
  laidMet_of_run' 8 (by kernel_rfl) (by kernel_rfl)
theorem reads (os : Os) {H : Type} (enc : TypeId × Value → H) : ∃ places, DataW.whole enc Try.prog ((laidWorld os).forCall (fun _ _ => 0) ⟨#[], #[.int .i64 0], []⟩).memory Try.f12.params.toList Rows.designFairSpec.vars false #[Value.int .i64 0].toList 8 = some ([.lit (.int .i64 0)], [], places) :=
  ⟨[], by kernel_rfl⟩
end Go.Proofs.Ytcmacejpoihhlaa.designFair
