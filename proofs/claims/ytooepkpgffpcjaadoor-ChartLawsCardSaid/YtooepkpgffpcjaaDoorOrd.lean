/- Plain laws: being finer is an order; what is common is the coarsest finer one, what is joined the finest coarser one. -/
import Derived.Test.YtooepkpgffpcjaaDoorJoin
namespace Go.Proofs.YtooepkpgffpcjaaDoor
open Go.RowKit

theorem fin_refl (a : List Int) : Fin_ a a := fun _ _ _ _ e => e
theorem fin_trans {a b c : List Int} (h : a.length = b.length) (h1 : Fin_ a b) (h2 : Fin_ b c) : Fin_ a c := fun i j hi hj e => h2 i j (by omega) (by omega) (h1 i j hi hj e)
theorem fin_both {a b : List Int} (h : a.length = b.length) (ha : chk a = 0) (hb : chk b = 0) : (finB a b && finB b a) = (a == b) := by
  refine bool_eq_of_iff ?_
  rw [Bool.and_eq_true, finB_iff, finB_iff, beq_iff_eq, part_eq_iff ha hb]
  constructor
  · rintro ⟨h1, h2⟩
    exact ⟨h, fun i j hi hj => ⟨h1 i j hi hj, h2 i j (by omega) (by omega)⟩⟩
  · intro hp
    exact ⟨fun i j hi hj => (hp.2 i j hi hj).1, fun i j hi hj => (hp.2 i j (by omega) (by omega)).2⟩
theorem met_before {p : List Int} (h : chkGo 0 p = 0) {x : Int} (h0 : 0 ≤ x) (hx : x < blk p) : ∃ j, j < p.length ∧ p.getD j 0 = x := by
  have hm : x ∈ seenOf p := by rw [(seen_self p h).1]; exact mem_rangeI.2 ⟨h0, by omega⟩
  obtain ⟨j, hj, e⟩ := List.getElem_of_mem (seenOf_sub p x hm)
  exact ⟨j, hj, getD_of_get (by rw [List.getElem?_eq_getElem hj, e])⟩
theorem take_getD {l : List Int} {j k : Nat} (h : j < k) : (l.take k).getD j 0 = l.getD j 0 := by
  simp only [List.getD_eq_getElem?_getD, List.getElem?_take, if_pos h]
theorem fin_blk {a b : List Int} (h : a.length = b.length) (ha : chk a = 0) (hb : chk b = 0) (hf : Fin_ a b) : blk b ≤ blk a := by
  have key : ∀ k, k ≤ a.length → blk (b.take k) ≤ blk (a.take k) := by
    intro k
    induction k with
    | zero => intro _; simp [blk]
    | succ k ih =>
      intro hk
      have h1 := ih (by omega)
      have ga := get_getD (l := a) (i := k) (by omega)
      have gb := get_getD (l := b) (i := k) (by omega)
      have ca := chk_take ha (k + 1)
      have cb := chk_take hb (k + 1)
      rw [take_of_get ga] at ca
      rw [take_of_get gb] at cb
      obtain ⟨ca1, ca2, ca3⟩ := chkGo_unsnoc _ _ _ ca
      obtain ⟨cb1, cb2, cb3⟩ := chkGo_unsnoc _ _ _ cb
      have ca4 : a.getD k 0 ≤ blk (a.take k) := ca3
      have cb4 : b.getD k 0 ≤ blk (b.take k) := cb3
      rw [blk_take ga, blk_take gb]
      by_cases hy : b.getD k 0 < blk (b.take k)
      · omega
      · by_cases hx : a.getD k 0 < blk (a.take k)
        · obtain ⟨j, hj, ej⟩ := met_before ca1 ca2 hx
          have hjk : j < k := by simp at hj; omega
          rw [take_getD hjk] at ej
          have e2 := hf j k (by omega) (by omega) ej
          have e3 := lt_blk (a := b.take k) (v := b.getD j 0) (by rw [← take_getD (l := b) hjk]; exact getD_mem (by simp; omega))
          omega
        · omega
  have := key a.length (Nat.le_refl _)
  rwa [List.take_of_length_le (Nat.le_refl _), List.take_of_length_le (by omega)] at this

theorem fin_meet_left {a b : List Int} (h : a.length = b.length) (hb : chk b = 0) : Fin_ (meetL a b) a := fun i j hi hj e => by
  rw [meetL_length h] at hi hj; exact ((meetL_eq h hb hi hj).1 e).1
theorem fin_meet_right {a b : List Int} (h : a.length = b.length) (hb : chk b = 0) : Fin_ (meetL a b) b := fun i j hi hj e => by
  rw [meetL_length h] at hi hj; exact ((meetL_eq h hb hi hj).1 e).2
theorem fin_meet {a b c : List Int} (h : a.length = b.length) (hb : chk b = 0) (hc : c.length = a.length) (h1 : Fin_ c a) (h2 : Fin_ c b) : Fin_ c (meetL a b) := fun i j hi hj e =>
  (meetL_eq h hb (by omega) (by omega)).2 ⟨h1 i j hi hj e, h2 i j hi hj e⟩
theorem fin_join_left (a b : List Int) : Fin_ a (joinL a b) := fun i j hi hj e => (joinL_eq a b hi hj).2 (Hang.one hi hj (.inl e))
theorem fin_join_right {a b : List Int} (h : a.length = b.length) : Fin_ b (joinL a b) := fun i j hi hj e => by
  rw [← h] at hi hj; exact (joinL_eq a b hi hj).2 (Hang.one hi hj (.inr e))
theorem fin_join {a b c : List Int} (h : a.length = b.length) (h1 : Fin_ a c) (h2 : Fin_ b c) : Fin_ (joinL a b) c := fun i j hi hj e => by
  rw [joinL_length] at hi hj
  exact hang_eq (fun x y hx hy e => h1 x y hx hy e) (fun x y hx hy e => h2 x y (by omega) (by omega) e) ((joinL_eq a b hi hj).1 e)
theorem meet_join {a b : List Int} (ha : chk a = 0) : meetL a (joinL a b) = a := by
  have hc := chk_join (b := b) ha
  have hl : a.length = (joinL a b).length := (joinL_length a b).symm
  refine (part_eq_iff (chk_meet hl ha) ha).2 ⟨meetL_length hl, fun i j hi hj => ?_⟩
  rw [meetL_length hl] at hi hj
  rw [meetL_eq hl hc hi hj]
  exact ⟨fun e => e.1, fun e => ⟨e, fin_join_left a b i j hi hj e⟩⟩
theorem join_meet {a b : List Int} (h : a.length = b.length) (ha : chk a = 0) (hb : chk b = 0) : joinL a (meetL a b) = a := by
  refine (part_eq_iff (chk_join ha) ha).2 ⟨joinL_length _ _, fun i j hi hj => ?_⟩
  rw [joinL_length] at hi hj
  rw [joinL_eq _ _ hi hj]
  refine ⟨fun hh => hang_eq (fun _ _ _ _ e => e) (fun x y hx hy e => fin_meet_left h hb x y (by rw [meetL_length h]; exact hx) (by rw [meetL_length h]; exact hy) e) hh, fun e => Hang.one hi hj (.inl e)⟩
end Go.Proofs.YtooepkpgffpcjaaDoor
