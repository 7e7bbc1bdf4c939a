/- What the rows of the design seat need besides: an argument that is a stock. -/
import Derived.Test.YtgnfkgmppeohoaaMgJ
import Derived.Lib.SmallJoins
namespace Go.Proofs.Ytgnfkgmppeohoaa
open Go.ChangeShapes Go.WideShapes Go.ChangeAt Go.RowKit

theorem cellsStock : Try.prog.cellsOf 24 = 2 := by kernel_rfl
set_option maxRecDepth 100000 in
/-- an argument that is a stock -/
theorem arg_stock {H : Type} {enc : TypeId × Value → H} {W : World} {base : Nat} {v : Value} {d : DataW H} {p : List MemPlace} {ts : List TypeId} {ds : List (DataW H)} {j : Nat}
    (hval : Value.okWide Try.prog W .any base 24 v) (h : DataW.Trod enc Try.prog W 0 (fun _ => true) true 24 v d p)
    (hsz : (DataW.weightsEach Try.prog ts ds).all (· ≤ reachBytes) = true) (ht : ts[j]? = some 24) (hd : ds[j]? = some d) :
    ∃ A n c l x, v = .agg #[.slice A n c, .int .i64 x] ∧ RdI W A n l ∧ n ≤ c ∧ I64 x := by
  obtain ⟨v0, v1, y0, y1, m, rfl, rfl, rfl, f0, f1⟩ := Joins.open_agg2 Try.underlying24 (by kernel_rfl) cellsStock hval h
  obtain ⟨x, hx1, hx2, hwf⟩ := DataW.trod_int (k := .i64) Try.underlying3 f1
  injection hx1 with hx1
  subst hx1
  have hI : I64 x := wf_I64 hwf
  rcases open_ints (t := 22) Try.underlying22 Try.underlying3 cellsInt f0 with ⟨hcs, hx⟩ | ⟨a, len', cap', zs, hcs, _, hl, hm, hz, hx, hcell, hwz⟩
  · injection hcs with hcs
    subst hcs
    exact ⟨none, 0, 0, [], x, rfl, RdI.nil_, Nat.le_refl _, hI⟩
  · injection hcs with hcs
    subst hcs
    simp only [if_true] at hz
    have hy : y0.1 = .slice (lits .i64 (zs.take len')) (lits .i64 (zs.drop len')) := by rw [hx]
    have hmem := DataW.weights_mem_each (P := Try.prog) ht hd (((lits (H := H) .i64 (zs.take len')).length + (lits (H := H) .i64 (zs.drop len')).length) * Try.prog.bytesOf 3) (by
      rw [hy]
      simp [DataW.weights, DataW.weightsEach, Try.underlying24, Try.underlying22])
    have hb := List.all_eq_true.1 hsz _ hmem
    simp only [decide_eq_true_eq] at hb
    rw [bytesInt] at hb
    simp only [lits, List.length_map, List.length_take, List.length_drop, hz] at hb
    have hb2 : cap' * 8 ≤ 140737488351232 := by
      refine Nat.le_trans ?_ (Nat.le_trans hb (by decide))
      rw [Nat.min_eq_left hl]
      omega
    refine ⟨some a, len', cap', zs.take len', x, rfl, ⟨⟨by simp; omega, by omega, fun hn => ?_⟩, fun v hv => wf_I64 (hwz v (List.mem_of_mem_take hv))⟩, hl, hI⟩
    have h0 := hcell 0 (by omega)
    refine ⟨a, rfl, ?_, fun i u hu => ?_⟩
    · have := World.block_lt_of_cell? W _ h0
      rwa [block_of_add] at this
    · rw [ints_get] at hu
      obtain ⟨x, hx, rfl⟩ := Option.map_eq_some_iff.1 hu
      have hi : i < len' := by have := (List.getElem?_eq_some_iff.1 hx).1; simp at this; omega
      rw [List.getElem?_take, if_pos hi] at hx
      rw [hcell i (by omega), getD_of_get hx]
end Go.Proofs.Ytgnfkgmppeohoaa
