/- The row of the statement ChartDraws. -/
import Derived.Test.YtooepkpgffpcjaaDoorMgN
import Derived.Test.YtooepkpgffpcjaaDoorLwDraws
namespace Go.Proofs.YtooepkpgffpcjaaDoor.chartDraws
open Go.ChangeShapes Go.WideShapes Go.ChangeAt Go.RowKit

theorem readable : ∀ t ∈ Tryd.f13.params.toList, Tryd.prog.readableRec t = true ∧ t < Tryd.prog.types.size := by
  rw [Tryd.params13]
  intro t ht
  have h : t = 22 ∨ t = 9 ∨ t = 22 ∨ t = 3 ∨ t = 3 ∨ t = 5 := by simpa using ht
  rcases h with rfl | rfl | rfl | rfl | rfl | rfl <;> exact ⟨by kernel_rfl, of_decide_eq_true (by kernel_rfl)⟩

set_option maxRecDepth 100000 in
theorem contract (H : Type) (enc : TypeId × Value → H) (W : World) (base : Nat) (args : Array Value) (ds gs : List (DataW H)) (before : List MemPlace)
    (hval : ∀ (j : Nat) t v, Tryd.f13.params[j]? = some t → args[j]? = some v → Value.okWide Tryd.prog W .any base t v)
    (hW : DataW.Whole enc Tryd.prog Tryd.f13.params.toList Rows.chartDrawsSpec.vars false W args.toList ds gs before)
    (hsz : (DataW.weightsEach Tryd.prog (Tryd.f13.params.toList ++ (OpenSpec.ofChange Rows.chartDrawsSpec).bare.plain.varTypes Tryd.prog) (ds ++ gs)).all (· ≤ reachBytes) = true)
    (hL : laidMetH Tryd.prog Rows.chartDrawsRow.laid W) :
    Calls Tryd.prog 13 args W fun e W' => ∃ v, e = .returned v ∧ Rows.chartDrawsSpec.post enc Tryd.prog Tryd.f13 false true false false W args v W' := by
  have hW' := hW
  obtain ⟨p, q, hA0, hV, rfl, hfz, hnd⟩ := hW
  have hA : DataW.TrodAll enc Tryd.prog W 0 (fun _ => true) true Tryd.f13.params.toList args.toList ds p := hA0
  rw [Tryd.params13] at hA hval hsz
  obtain ⟨rfl, rfl⟩ := trodVars_none hV
  obtain ⟨v0, vs0, d0, ds0, p0, q0, hargs, rfl, rfl, h0, r0⟩ := trodAll_cons hA
  obtain ⟨v1, vs1, d1, ds1, p1, q1, rfl, rfl, rfl, h1, r1⟩ := trodAll_cons r0
  obtain ⟨v2, vs2, d2, ds2, p2, q2, rfl, rfl, rfl, h2, r2⟩ := trodAll_cons r1
  obtain ⟨v3, vs3, d3, ds3, p3, q3, rfl, rfl, rfl, h3, r3⟩ := trodAll_cons r2
  obtain ⟨v4, vs4, d4, ds4, p4, q4, rfl, rfl, rfl, h4, r4⟩ := trodAll_cons r3
  obtain ⟨v5, vs5, d5, ds5, p5, q5, rfl, rfl, rfl, h5, r5⟩ := trodAll_cons r4
  obtain ⟨rfl, rfl, rfl⟩ := trodAll_nil r5
  obtain rfl : args = #[v0, v1, v2, v3, v4, v5] := by cases args; simp_all
  rw [noVars rfl, List.append_nil, List.append_nil] at hsz
  have hs3 : (DataW.weightsEach Tryd.prog [22, 9, 22, 3, 3, 5] [d0, d1, d2, d3, d4, d5]).all (· ≤ reachBytes) = true := hsz
  clear hsz
  have k0 := hval 0 22 v0 rfl rfl
  have k1 := hval 1 9 v1 rfl rfl
  have k2 := hval 2 22 v2 rfl rfl
  have k3 := hval 3 3 v3 rfl rfl
  have k4 := hval 4 3 v4 rfl rfl
  have k5 := hval 5 5 v5 rfl rfl
  obtain ⟨A0, n0, c0, l0, rfl, t0, z0⟩ := arg_ints (j := 0) k0 h0 hs3 rfl rfl
  obtain ⟨x1, rfl, rfl, rfl, wf1⟩ := ChangeMaps.open_string Tryd.underlying9 k1 h1
  obtain ⟨A2, n2, c2, l2, rfl, t2, _⟩ := arg_ints (j := 2) k2 h2 hs3 rfl rfl
  obtain ⟨x3, rfl, rfl, rfl, wf3⟩ := open_int Tryd.underlying3 k3 h3
  obtain ⟨x4, rfl, rfl, rfl, wf4⟩ := open_int Tryd.underlying3 k4 h4
  obtain ⟨x5, rfl, rfl, rfl, wf5⟩ := open_int Tryd.underlying5 k5 h5
  refine (chartDraws_any A0 n0 c0 x1 A2 n2 c2 x3 x4 x5 l0 l2 W t0 z0 t2 wf1 (wf_I64 wf3) (wf_I64 wf4) wf5 (signs_at hL)).mono ?_
  rintro e W2 ⟨rfl, hb⟩
  exact ⟨_, rfl, post_holds hW' rfl rfl readable rfl hb⟩

theorem laid_met (os : Os) : laidMet Tryd.prog Rows.chartDrawsRow.laid ((laidWorld3 os).forCall (fun _ _ => 0) ⟨#[], #[.slice none 0 0, .string ⟨#[]⟩, .slice none 0 0, .int .i64 0, .int .i64 0, .int .u8 0], []⟩).memory :=
  laidMet_of_run' 8 (by kernel_rfl) (by kernel_rfl)
theorem reads (os : Os) {H : Type} (enc : TypeId × Value → H) : ∃ places, DataW.whole enc Tryd.prog ((laidWorld3 os).forCall (fun _ _ => 0) ⟨#[], #[.slice none 0 0, .string ⟨#[]⟩, .slice none 0 0, .int .i64 0, .int .i64 0, .int .u8 0], []⟩).memory Tryd.f13.params.toList Rows.chartDrawsSpec.vars false #[Value.slice none 0 0, .string ⟨#[]⟩, .slice none 0 0, .int .i64 0, .int .i64 0, .int .u8 0].toList 8 = some ([.nil, .lit (.string []), .nil, .lit (.int .i64 0), .lit (.int .i64 0), .lit (.int .u8 0)], [], places) :=
  ⟨[], by kernel_rfl⟩
end Go.Proofs.YtooepkpgffpcjaaDoor.chartDraws
