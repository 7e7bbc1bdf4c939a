/- The row of the statement DesignSeats. -/
import Derived.Test.YtcmacejpoihhlaaMgO
import Derived.Test.YtcmacejpoihhlaaLwSeats
namespace Go.Proofs.Ytcmacejpoihhlaa.designSeats
open Go.ChangeShapes Go.WideShapes Go.ChangeAt Go.RowKit

theorem readable : ∀ t ∈ Try.f13.params.toList, Try.prog.readableRec t = true ∧ t < Try.prog.types.size := by
  rw [Try.params13]
  intro t ht
  have h : t = 3 ∨ t = 38 ∨ t = 22 := by simpa using ht
  rcases h with rfl | rfl | rfl <;> exact ⟨by kernel_rfl, of_decide_eq_true (by kernel_rfl)⟩

set_option maxRecDepth 100000 in
theorem contract (H : Type) (enc : TypeId × Value → H) (W : World) (base : Nat) (args : Array Value) (ds gs : List (DataW H)) (before : List MemPlace)
    (hval : ∀ (j : Nat) t v, Try.f13.params[j]? = some t → args[j]? = some v → Value.okWide Try.prog W .any base t v)
    (hW : DataW.Whole enc Try.prog Try.f13.params.toList Rows.designSeatsSpec.vars false W args.toList ds gs before)
    (hsz : (DataW.weightsEach Try.prog (Try.f13.params.toList ++ (OpenSpec.ofChange Rows.designSeatsSpec).bare.plain.varTypes Try.prog) (ds ++ gs)).all (· ≤ reachBytes) = true)
    (_hL : laidMetH Try.prog Rows.designSeatsRow.laid W) :
    Calls Try.prog 13 args W fun e W' => ∃ v, e = .returned v ∧ Rows.designSeatsSpec.post enc Try.prog Try.f13 false true false false W args v W' := by
  have hW' := hW
  obtain ⟨p, q, hA0, hV, rfl, hfz, hnd⟩ := hW
  have hA : DataW.TrodAll enc Try.prog W 0 (fun _ => true) true Try.f13.params.toList args.toList ds p := hA0
  rw [Try.params13] at hA hval hsz
  obtain ⟨rfl, rfl⟩ := trodVars_none hV
  obtain ⟨v0, vs0, d0, ds0, p0, q0, hargs, rfl, rfl, h0, r0⟩ := trodAll_cons hA
  obtain ⟨v1, vs1, d1, ds1, p1, q1, rfl, rfl, rfl, h1, r1⟩ := trodAll_cons r0
  obtain ⟨v2, vs2, d2, ds2, p2, q2, rfl, rfl, rfl, h2, r2⟩ := trodAll_cons r1
  obtain ⟨rfl, rfl, rfl⟩ := trodAll_nil r2
  obtain rfl : args = #[v0, v1, v2] := by cases args; simp_all
  rw [noVars rfl, List.append_nil, List.append_nil] at hsz
  have hs3 : (DataW.weightsEach Try.prog [3, 38, 22] [d0, d1, d2]).all (· ≤ reachBytes) = true := hsz
  clear hsz
  have k0 := hval 0 3 v0 rfl rfl
  have k1 := hval 1 38 v1 rfl rfl
  have k2 := hval 2 22 v2 rfl rfl
  obtain ⟨x0, rfl, rfl, rfl, wf0⟩ := open_int Try.underlying3 k0 h0
  obtain ⟨A1, n1, c1, l1, rfl, t1⟩ := arg_lists (j := 1) k1 h1 hs3 rfl rfl
  obtain ⟨A2, n2, c2, l2, rfl, t2, _⟩ := arg_ints (j := 2) k2 h2 hs3 rfl rfl
  refine (designSeats_any x0 A1 n1 c1 A2 n2 c2 l1 l2 W t1 t2 (wf_I64 wf0)).mono ?_
  rintro e W2 ⟨rfl, hb⟩
  exact ⟨_, rfl, post_holds hW' rfl rfl readable rfl hb⟩

theorem laid_met (os : Os) : laidMet Try.prog Rows.designSeatsRow.laid ((laidWorld os).forCall (fun _ _ => 0) ⟨#[], #[.int .i64 0, .slice none 0 0, .slice none 0 0], []⟩).memory :=
  laidMet_of_run' 8 (by kernel_rfl) (by kernel_rfl)
theorem reads (os : Os) {H : Type} (enc : TypeId × Value → H) : ∃ places, DataW.whole enc Try.prog ((laidWorld os).forCall (fun _ _ => 0) ⟨#[], #[.int .i64 0, .slice none 0 0, .slice none 0 0], []⟩).memory Try.f13.params.toList Rows.designSeatsSpec.vars false #[Value.int .i64 0, .slice none 0 0, .slice none 0 0].toList 8 = some ([.lit (.int .i64 0), .nil, .nil], [], places) :=
  ⟨[], by kernel_rfl⟩
end Go.Proofs.Ytcmacejpoihhlaa.designSeats
