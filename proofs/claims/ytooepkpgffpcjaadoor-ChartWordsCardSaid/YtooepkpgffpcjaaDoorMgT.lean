/- What the rows need with an argument that is a slice of strings. -/
import Derived.Test.YtooepkpgffpcjaaDoorMgN
import Derived.Test.YtooepkpgffpcjaaDoorMgQ
import Derived.SliceStrings
namespace Go.Proofs.YtooepkpgffpcjaaDoor
open Go.ChangeShapes Go.WideShapes Go.ChangeAt Go.RowKit

theorem cellsStr : Tryd.prog.cellsOf 9 = 1 := by kernel_rfl
theorem bytesStr : Tryd.prog.bytesOf 9 = 16 := by kernel_rfl
set_option maxRecDepth 100000 in
/-- an argument that is a slice of strings -/
theorem arg_strs {H : Type} {enc : TypeId × Value → H} {W : World} {base : Nat} {v : Value} {d : DataW H} {p : List MemPlace} {ts : List TypeId} {ds : List (DataW H)} {j : Nat}
    (hval : Value.okWide Tryd.prog W .any base 39 v) (h : DataW.Trod enc Tryd.prog W 0 (fun _ => true) true 39 v d p)
    (hsz : (DataW.weightsEach Tryd.prog ts ds).all (· ≤ reachBytes) = true) (ht : ts[j]? = some 39) (hd : ds[j]? = some d) :
    ∃ A n c L, v = .slice A n c ∧ RdS W A n L := by
  obtain ⟨a0, len, cap, rfl⟩ := okWide_slice Tryd.underlying39 hval
  obtain ⟨fuel, hf⟩ := h
  rcases open_strings Tryd.underlying39 Tryd.underlying9 cellsStr hf with ⟨hcs, hx⟩ | ⟨a, len', cap', ss, hcs, _, hl, hm, hz, hx, hcell, hwz⟩
  · simp only [Value.cells] at hcs
    injection hcs with hcs
    injection hcs with e1 e2 e3
    subst e1 e2 e3
    exact ⟨none, 0, 0, [], rfl, Rd.none_, rfl⟩
  · simp only [Value.cells] at hcs
    injection hcs with hcs
    injection hcs with e1 e2 e3
    subst e1 e2 e3
    simp only [if_true] at hz
    have hd' : ds[j]? = some (.slice (ChangeShapes.strs (ss.take len)) (ChangeShapes.strs (ss.drop len))) := by rw [hd]; congr 1; injection hx
    have hb := sized_slice hsz ht hd' Tryd.underlying39
    rw [bytesStr] at hb
    simp only [ChangeShapes.strs, List.length_map, List.length_take, List.length_drop, hz] at hb
    have hb2 : cap * 16 ≤ 140737488351232 := by
      refine Nat.le_trans ?_ hb
      rw [Nat.min_eq_left hl]
      omega
    have hlt : ((ss.take len).map (·.data.toList)).length = len := by rw [List.length_map, List.length_take]; omega
    refine ⟨some a, len, cap, (ss.take len).map (·.data.toList), rfl, ⟨by rw [strs_length]; exact hlt, by omega, fun hn => ?_⟩, hlt⟩
    have h0 := hcell 0 (by omega)
    refine ⟨a, rfl, ?_, fun i u hu => ?_⟩
    · have := World.block_lt_of_cell? W _ h0
      rwa [block_of_add] at this
    · unfold Go.Proofs.YtooepkpgffpcjaaDoor.strs at hu
      rw [List.getElem?_map, List.getElem?_map] at hu
      have hi : i < len := by
        rcases Nat.lt_or_ge i len with h1 | h1
        · exact h1
        · rw [List.getElem?_eq_none (by rw [List.length_take]; omega)] at hu; cases hu
      have hs : (ss.take len)[i]? = some (ss.getD i ByteArray.empty) := by
        rw [List.getElem?_take, if_pos hi, List.getD_eq_getElem?_getD, List.getElem?_eq_getElem (by omega)]; rfl
      rw [hs] at hu
      simp only [Option.map_some, Option.some.injEq] at hu
      rw [hcell i (by omega), ← hu]
end Go.Proofs.YtooepkpgffpcjaaDoor
