/- The card of the statement ChartMoves. -/
import Derived.Test.YtooepkpgffpcjaaDoorRowKit
import Derived.Test.YtooepkpgffpcjaaDoorLawMoves
namespace Go.Proofs.YtooepkpgffpcjaaDoor.chartMoves
open Go.ChangeShapes Go.WideShapes Go.ChangeAt Go.RowKit

theorem readable : ∀ t ∈ Tryd.f3.params.toList, Tryd.prog.readableRec t = true ∧ t < Tryd.prog.types.size := by
  rw [Tryd.params3]
  intro t ht
  obtain rfl : t = 22 := by simpa using ht
  exact ⟨by kernel_rfl, of_decide_eq_true (by kernel_rfl)⟩

set_option maxRecDepth 100000 in
theorem contract (H : Type) (enc : TypeId × Value → H) (W : World) (base : Nat) (args : Array Value) (ds gs : List (DataW H)) (before : List MemPlace)
    (hval : ∀ (j : Nat) t v, Tryd.f3.params[j]? = some t → args[j]? = some v → Value.okWide Tryd.prog W .any base t v)
    (hW : DataW.Whole enc Tryd.prog Tryd.f3.params.toList Rows.chartMovesSpec.vars false W args.toList ds gs before)
    (hsz : (DataW.weightsEach Tryd.prog (Tryd.f3.params.toList ++ (OpenSpec.ofChange Rows.chartMovesSpec).bare.plain.varTypes Tryd.prog) (ds ++ gs)).all (· ≤ reachBytes) = true)
    (hL : laidMetH Tryd.prog Rows.chartMovesRow.laid W) :
    Calls Tryd.prog 3 args W fun e W' => ∃ v, e = .returned v ∧ Rows.chartMovesSpec.post enc Tryd.prog Tryd.f3 false true false false W args v W' := by
  have hW' := hW
  obtain ⟨p, q, hA0, hV, rfl, hfz, hnd⟩ := hW
  have hA : DataW.TrodAll enc Tryd.prog W 0 (fun _ => true) true Tryd.f3.params.toList args.toList ds p := hA0
  rw [Tryd.params3] at hA hval hsz
  obtain ⟨rfl, rfl⟩ := trodVars_none hV
  obtain ⟨v0, v1, v2, d0, d1, d2, p0, p1, p2, rfl, rfl, rfl, h0, h1, h2⟩ := trodAll_three hA
  rw [noVars rfl, List.append_nil, List.append_nil] at hsz
  have hs3 : (DataW.weightsEach Tryd.prog [22, 22, 22] [d0, d1, d2]).all (· ≤ reachBytes) = true := hsz
  clear hsz
  have k0 := hval 0 22 v0 rfl rfl
  have k1 := hval 1 22 v1 rfl rfl
  have k2 := hval 2 22 v2 rfl rfl
  obtain ⟨A, n, c, l, rfl, r0, _⟩ := arg_ints (j := 0) k0 h0 hs3 rfl rfl
  obtain ⟨B, m, d, r, rfl, r1, _⟩ := arg_ints (j := 1) k1 h1 hs3 rfl rfl
  obtain ⟨C, k, f, o, rfl, r2, _⟩ := arg_ints (j := 2) k2 h2 hs3 rfl rfl
  refine (chartMoves_any A B C n m k c d f l r o W r0 r1 r2 (signs_of (rest := []) hL)).mono ?_
  rintro e W2 ⟨rfl, hb⟩
  exact ⟨_, rfl, post_holds hW' rfl rfl readable rfl hb⟩

end Go.Proofs.YtooepkpgffpcjaaDoor.chartMoves
