/- What the rows of the design seat need besides: an argument that is a slice of slices of numbers. -/
import Derived.Test.YtcmacejpoihhlaaMgK
import Derived.Test.YtcmacejpoihhlaaMgB
import Derived.Deep.Slices
namespace Go.Proofs.Ytcmacejpoihhlaa
open Go.ChangeShapes Go.WideShapes Go.ChangeAt Go.RowKit

theorem cellsRow : Try.prog.cellsOf 22 = 1 := by kernel_rfl
theorem bytesRow : Try.prog.bytesOf 22 = 24 := by kernel_rfl
theorem weightsAll_mem {H : Type} {P : Program} {e : TypeId} {n : Nat} : ∀ {l : List (DataW H)} {x : DataW H}, x ∈ l → n ∈ x.weights P e → n ∈ DataW.weightsAll P e l
  | [], _, h, _ => by cases h
  | y :: r, x, h, hn => by
    unfold DataW.weightsAll
    rcases List.mem_cons.1 h with rfl | h
    · exact List.mem_append_left _ hn
    · exact List.mem_append_right _ (weightsAll_mem h hn)

set_option maxRecDepth 100000 in
/-- an argument that is a slice of slices of numbers -/
theorem arg_lists {H : Type} {enc : TypeId × Value → H} {W : World} {base : Nat} {v : Value} {d : DataW H} {p : List MemPlace} {ts : List TypeId} {ds : List (DataW H)} {j : Nat}
    (hval : Value.okWide Try.prog W .any base 38 v) (h : DataW.Trod enc Try.prog W 0 (fun _ => true) true 38 v d p)
    (hsz : (DataW.weightsEach Try.prog ts ds).all (· ≤ reachBytes) = true) (ht : ts[j]? = some 38) (hd : ds[j]? = some d) :
    ∃ A n c ll, v = .slice A n c ∧ RdL W A n ll := by
  obtain ⟨a0, len, cap, rfl⟩ := okWide_slice Try.underlying38 hval
  obtain ⟨fuel, hf⟩ := h
  rcases Deep.open_slice1 Try.underlying38 cellsRow hf with ⟨hcs, hx⟩ | ⟨a, len', cap', m, k, V, D, Pl, hcs, _, hl, hm, hmm, hx, he⟩
  · simp only [Value.cells] at hcs
    injection hcs with hcs
    injection hcs with e1 e2 e3
    subst e1 e2 e3
    exact ⟨none, 0, 0, [], rfl, [], Rd.none_, rfl, fun j v hv => by simp at hv⟩
  · simp only [Value.cells] at hcs
    injection hcs with hcs
    injection hcs with e1 e2 e3
    subst e1 e2 e3
    simp only [if_true] at hmm
    subst hmm
    have hdd : d = .slice ((List.range len).map D) ((List.range (m - len)).map fun j => D (len + j)) := by injection hx
    have hb := sized_slice hsz ht (by rw [hd, hdd]) Try.underlying38
    rw [bytesRow] at hb
    simp only [List.length_map, List.length_range] at hb
    have hb2 : m * 24 ≤ 140737488351232 := by
      refine Nat.le_trans ?_ hb
      omega
    have row : ∀ i, i < len → ∃ l : List Int, ∃ B q c, V i = .slice B q c ∧ RdI W B q l := by
      intro i hi
      have hin := (he i (by omega)).2
      rcases open_ints Try.underlying22 Try.underlying3 cellsInt hin with ⟨hcs, hx⟩ | ⟨b, ln, cp, zs, hcs, _, hl2, hm2, hz, hx2, hcell, hwz⟩
      · injection hcs with hcs
        exact ⟨[], none, 0, 0, hcs, RdI.nil_⟩
      · injection hcs with hcs
        simp only [if_true] at hz
        have hDi : D i = .slice (lits .i64 (zs.take ln)) (lits .i64 (zs.drop ln)) := by injection hx2
        have hmem := DataW.weights_mem_each (P := Try.prog) ht hd (((lits (H := H) .i64 (zs.take ln)).length + (lits (H := H) .i64 (zs.drop ln)).length) * Try.prog.bytesOf 3) (by
          rw [hdd]
          simp only [DataW.weights, Try.underlying38]
          refine List.mem_cons_of_mem _ (List.mem_append_left _ (weightsAll_mem (x := D i) (List.mem_map.2 ⟨i, List.mem_range.2 hi, rfl⟩) ?_))
          rw [hDi]
          simp [DataW.weights, Try.underlying22])
        have hb3 := List.all_eq_true.1 hsz _ hmem
        simp only [decide_eq_true_eq] at hb3
        rw [bytesInt] at hb3
        simp only [lits, List.length_map, List.length_take, List.length_drop, hz] at hb3
        have hb4 : cp * 8 ≤ 140737488351232 := by
          refine Nat.le_trans ?_ (Nat.le_trans hb3 (by decide))
          rw [Nat.min_eq_left hl2]
          omega
        refine ⟨zs.take ln, some b, ln, cp, hcs, ⟨by simp; omega, by omega, fun hn => ?_⟩, fun v hv => wf_I64 (hwz v (List.mem_of_mem_take hv))⟩
        have h0 := hcell 0 (by omega)
        refine ⟨b, rfl, ?_, fun i u hu => ?_⟩
        · have := World.block_lt_of_cell? W _ h0
          rwa [block_of_add] at this
        · rw [ints_get] at hu
          obtain ⟨x, hx, rfl⟩ := Option.map_eq_some_iff.1 hu
          have hi : i < ln := by have := (List.getElem?_eq_some_iff.1 hx).1; simp at this; omega
          rw [List.getElem?_take, if_pos hi] at hx
          rw [hcell i (by omega), getD_of_get hx]
    obtain ⟨F, hF⟩ := Deep.choose_lt row
    refine ⟨some a, len, m, (List.range len).map F, rfl, (List.range len).map V, ⟨by simp, by omega, fun hn => ?_⟩, by simp, fun i u hu => ?_⟩
    · have h0 := (he 0 (by omega)).1
      refine ⟨a, rfl, ?_, fun i u hu => ?_⟩
      · have := World.block_lt_of_cell? W _ h0
        rwa [block_of_add] at this
      · rw [List.getElem?_map] at hu
        obtain ⟨x, hx, rfl⟩ := Option.map_eq_some_iff.1 hu
        have hxl := (List.getElem?_eq_some_iff.1 hx).1
        rw [List.length_range] at hxl
        rw [List.getElem?_range hxl] at hx
        injection hx with hx
        subst hx
        exact (he i (by omega)).1
    · rw [List.getElem?_map] at hu
      obtain ⟨x, hx, rfl⟩ := Option.map_eq_some_iff.1 hu
      have hxl := (List.getElem?_eq_some_iff.1 hx).1
      rw [List.length_range] at hxl
      rw [List.getElem?_range hxl] at hx
      injection hx with hx
      subst hx
      obtain ⟨B, q, c, e, hr⟩ := hF i hxl
      exact ⟨B, q, c, F i, e, by rw [List.getElem?_map, List.getElem?_range hxl]; rfl, hr⟩
end Go.Proofs.Ytcmacejpoihhlaa
