/- The row of the statement DesignRests. -/
import Derived.Test.YtgnfkgmppeohoaaMgL
import Derived.Test.YtgnfkgmppeohoaaLwRests
namespace Go.Proofs.Ytgnfkgmppeohoaa.designRests
open Go.ChangeShapes Go.WideShapes Go.ChangeAt Go.RowKit

theorem readable : ∀ t ∈ Try.f12.params.toList, Try.prog.readableRec t = true ∧ t < Try.prog.types.size := by
  rw [Try.params12]
  intro t ht
  have h : t = 24 ∨ t = 22 ∨ t = 22 := by simpa using ht
  rcases h with rfl | rfl | rfl <;> exact ⟨by kernel_rfl, of_decide_eq_true (by kernel_rfl)⟩

set_option maxRecDepth 100000 in
theorem contract (H : Type) (enc : TypeId × Value → H) (W : World) (base : Nat) (args : Array Value) (ds gs : List (DataW H)) (before : List MemPlace)
    (hval : ∀ (j : Nat) t v, Try.f12.params[j]? = some t → args[j]? = some v → Value.okWide Try.prog W .any base t v)
    (hW : DataW.Whole enc Try.prog Try.f12.params.toList Rows.designRestsSpec.vars false W args.toList ds gs before)
    (hsz : (DataW.weightsEach Try.prog (Try.f12.params.toList ++ (OpenSpec.ofChange Rows.designRestsSpec).bare.plain.varTypes Try.prog) (ds ++ gs)).all (· ≤ reachBytes) = true)
    (hL : laidMetH Try.prog Rows.designRestsRow.laid W) :
    Calls Try.prog 12 args W fun e W' => ∃ v, e = .returned v ∧ Rows.designRestsSpec.post enc Try.prog Try.f12 false true false false W args v W' := by
  have hW' := hW
  obtain ⟨p, q, hA0, hV, rfl, hfz, hnd⟩ := hW
  have hA : DataW.TrodAll enc Try.prog W 0 (fun _ => true) true Try.f12.params.toList args.toList ds p := hA0
  rw [Try.params12] at hA hval hsz
  obtain ⟨rfl, rfl⟩ := trodVars_none hV
  obtain ⟨v0, vs0, d0, ds0, p0, q0, hargs, rfl, rfl, h0, r0⟩ := trodAll_cons hA
  obtain ⟨v1, vs1, d1, ds1, p1, q1, rfl, rfl, rfl, h1, r1⟩ := trodAll_cons r0
  obtain ⟨v2, vs2, d2, ds2, p2, q2, rfl, rfl, rfl, h2, r2⟩ := trodAll_cons r1
  obtain ⟨rfl, rfl, rfl⟩ := trodAll_nil r2
  obtain rfl : args = #[v0, v1, v2] := by cases args; simp_all
  rw [noVars rfl, List.append_nil, List.append_nil] at hsz
  have hs3 : (DataW.weightsEach Try.prog [24, 22, 22] [d0, d1, d2]).all (· ≤ reachBytes) = true := hsz
  clear hsz
  have k0 := hval 0 24 v0 rfl rfl
  have k1 := hval 1 22 v1 rfl rfl
  have k2 := hval 2 22 v2 rfl rfl
  obtain ⟨A0, n0, c0, l0, x0, rfl, t0, _, y0⟩ := arg_stock (j := 0) k0 h0 hs3 rfl rfl
  obtain ⟨A1, n1, c1, l1, rfl, t1, _⟩ := arg_ints (j := 1) k1 h1 hs3 rfl rfl
  obtain ⟨A2, n2, c2, l2, rfl, t2, _⟩ := arg_ints (j := 2) k2 h2 hs3 rfl rfl
  refine (designRests_any A0 n0 c0 A1 n1 c1 A2 n2 c2 l0 x0 l1 l2 W t0 y0 t1 t2).mono ?_
  rintro e W2 ⟨rfl, hb⟩
  exact ⟨_, rfl, post_holds hW' rfl rfl readable rfl hb⟩

theorem laid_met (os : Os) : laidMet Try.prog Rows.designRestsRow.laid ((laidWorld os).forCall (fun _ _ => 0) ⟨#[], #[.agg #[.slice none 0 0, .int .i64 0], .slice none 0 0, .slice none 0 0], []⟩).memory :=
  laidMet_of_run' 8 (by kernel_rfl) (by kernel_rfl)
theorem reads (os : Os) {H : Type} (enc : TypeId × Value → H) : ∃ places, DataW.whole enc Try.prog ((laidWorld os).forCall (fun _ _ => 0) ⟨#[], #[.agg #[.slice none 0 0, .int .i64 0], .slice none 0 0, .slice none 0 0], []⟩).memory Try.f12.params.toList Rows.designRestsSpec.vars false #[Value.agg #[.slice none 0 0, .int .i64 0], .slice none 0 0, .slice none 0 0].toList 8 = some ([.agg [.nil, .lit (.int .i64 0)], .nil, .nil], [], places) :=
  ⟨[], by kernel_rfl⟩
end Go.Proofs.Ytgnfkgmppeohoaa.designRests
