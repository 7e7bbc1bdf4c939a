/- Walks: what is common to two partitions, and being finer: the program's. -/
import Derived.Test.YtgnfkgmppeohoaaNum2
import Derived.Test.YtgnfkgmppeohoaaJoin
namespace Go.Proofs.Ytgnfkgmppeohoaa
open Go.RowKit

theorem pairInfo : (Try.prog.info? 120).map (fun i => (i.zero, i.size, i.bytes)) = some (some (.agg #[.int .i64 0, .int .i64 0]), 2, 16) := by kernel_rfl
theorem prCells_append (L : List Pr) (b : Pr) : prCells (L ++ [b]) = prCells L ++ prCells [b] := by simp [prCells]
theorem prCells_one (L : List Pr) : ∀ u ∈ prCells L, u.oneCell' = true := by
  intro u hu
  simp only [prCells, List.mem_flatMap] at hu
  obtain ⟨b, _, hb⟩ := hu
  simp only [List.mem_cons, List.not_mem_nil, or_false] at hb
  rcases hb with rfl | rfl <;> rfl
theorem RdP.of_own {w : World} {base n c : Nat} {A : Option Addr} {L : List Pr} (h : Own w base 120 2 A n c (prCells L)) (hn : n ≤ 1000000) : RdP w A n L := by
  have hl := h.len
  rw [prCells_length] at hl
  refine ⟨by omega, hn, fun h0 => ?_⟩
  obtain ⟨g, rfl, _, hg⟩ := h.form h0
  exact ⟨g, rfl, hg, fun j u hu => by
    have hj : j < n * 2 := by have := (List.getElem?_eq_some_iff.1 hu).1; rw [prCells_length] at this; omega
    rw [h.cellAt j hj]; exact hu⟩

theorem zip_en (l r : List Int) : (l.zip r).map en = pairL 1000 l r := by
  unfold pairL List.zip
  rw [List.map_zipWith]; rfl
theorem zip_get {l r : List Int} {k : Nat} {u v : Int} (hu : l[k]? = some u) (hv : r[k]? = some v) : (l.zip r)[k]? = some (u, v) := by
  unfold List.zip
  rw [List.getElem?_zipWith, hu, hv]
theorem zip_ok {l r : List Int} (hl : ∀ v ∈ l, 0 ≤ v ∧ v < 9) (hr : ∀ v ∈ r, 0 ≤ v ∧ v < 9) : ∀ p ∈ l.zip r, Okp p := by
  rintro ⟨a, b⟩ hp
  have h1 := hl a (List.of_mem_zip hp).1
  have h2 := hr b (List.of_mem_zip hp).2
  unfold Okp
  simp only
  omega

/-- The answer of a function that gives a bool and an error. -/
def BoolErr (x : Bool × Int) (w : World) (e : Ending) (w' : World) : Prop := e = .returned (.tuple #[.bool x.1, .int .i64 x.2]) ∧ Below w.heap.size w w'

end Go.Proofs.Ytgnfkgmppeohoaa
