/- Plain laws of partitions: which numbers are equal; finer ones, what is common, what is joined. -/
import Derived.Test.YtooepkpgffpcjaaDoorLabels
import Derived.Test.YtooepkpgffpcjaaDoorChkL
namespace Go.Proofs.YtooepkpgffpcjaaDoor
open Go.RowKit

/-- two lists of as many numbers, equal at the same places -/
def Pat (l r : List Int) : Prop := l.length = r.length ∧ ∀ i j, i < l.length → j < l.length → (l.getD i 0 = l.getD j 0 ↔ r.getD i 0 = r.getD j 0)
theorem Pat.refl (l : List Int) : Pat l l := ⟨rfl, fun _ _ _ _ => Iff.rfl⟩
theorem Pat.symm {l r : List Int} (h : Pat l r) : Pat r l := ⟨h.1.symm, fun i j hi hj => (h.2 i j (by rw [h.1]; exact hi) (by rw [h.1]; exact hj)).symm⟩
theorem Pat.trans {a b c : List Int} (h : Pat a b) (k : Pat b c) : Pat a c := ⟨h.1.trans k.1, fun i j hi hj => (h.2 i j hi hj).trans (k.2 i j (by rw [← h.1]; exact hi) (by rw [← h.1]; exact hj))⟩
theorem get_getD {l : List Int} {i : Nat} (h : i < l.length) : l[i]? = some (l.getD i 0) := by
  rw [List.getD_eq_getElem?_getD, List.getElem?_eq_getElem h]; rfl
theorem getD_mem {l : List Int} {i : Nat} (h : i < l.length) : l.getD i 0 ∈ l := List.mem_of_getElem? (get_getD h)
theorem pat_ofL (l : List Int) : Pat l (ofL l) := by
  refine ⟨(ofL_length l).symm, fun i j hi hj => ?_⟩
  have h := ofL_same (get_getD hi) (get_getD hj) (get_getD (l := ofL l) (by rw [ofL_length]; exact hi)) (get_getD (l := ofL l) (by rw [ofL_length]; exact hj))
  constructor
  · intro e; rw [beq_iff_eq.2 e] at h; exact beq_iff_eq.1 h.symm
  · intro e; rw [beq_iff_eq.2 e] at h; exact beq_iff_eq.1 h
theorem ext_getD {l r : List Int} (hl : l.length = r.length) (h : ∀ i, i < l.length → l.getD i 0 = r.getD i 0) : l = r := by
  apply List.ext_getElem?
  intro i
  by_cases hi : i < l.length
  · rw [get_getD hi, get_getD (l := r) (by omega), h i hi]
  · rw [List.getElem?_eq_none (by omega), List.getElem?_eq_none (by omega)]
theorem idxOf_lt {l : List Int} {i : Nat} (hi : i < l.length) : l.idxOf (l.getD i 0) < l.length ∧ l.getD (l.idxOf (l.getD i 0)) 0 = l.getD i 0 := by
  have h1 := List.idxOf_lt_length_of_mem (getD_mem hi)
  refine ⟨h1, ?_⟩
  have e := List.getElem_idxOf h1
  have := get_getD h1
  rw [List.getElem?_eq_getElem h1] at this
  injection this with this
  rw [← this, e]
theorem ofL_pat {l r : List Int} (h : Pat l r) : ofL l = ofL r := by
  have e : r = l.map fun x => r.getD (l.idxOf x) 0 := by
    refine ext_getD (by rw [List.length_map, h.1]) fun i hi => ?_
    have hi' : i < l.length := by rw [h.1]; exact hi
    have hm : (l.map fun x => r.getD (l.idxOf x) 0)[i]? = some (r.getD (l.idxOf (l.getD i 0)) 0) := by rw [List.getElem?_map, get_getD hi']; rfl
    rw [getD_of_get hm]
    obtain ⟨h1, h2⟩ := idxOf_lt hi'
    exact ((h.2 _ i h1 hi').1 h2).symm
  rw [e]
  refine (ofL_map l fun x hx y hy hxy => ?_).symm
  have hx1 := List.idxOf_lt_length_of_mem hx
  have hy1 := List.idxOf_lt_length_of_mem hy
  have := (h.2 _ _ hx1 hy1).2 hxy
  have ex : l.getD (l.idxOf x) 0 = x := getD_of_get (by rw [List.getElem?_eq_getElem hx1, List.getElem_idxOf hx1])
  have ey : l.getD (l.idxOf y) 0 = y := getD_of_get (by rw [List.getElem?_eq_getElem hy1, List.getElem_idxOf hy1])
  rw [ex, ey] at this
  exact this
theorem ofL_eq_iff {l r : List Int} : ofL l = ofL r ↔ Pat l r :=
  ⟨fun h => (pat_ofL l).trans (h ▸ (pat_ofL r).symm), ofL_pat⟩

/-! ### A partition is the one of itself -/
theorem chkGo_unsnoc (p : List Int) (x nx : Int) (h : chkGo nx (p ++ [x]) = 0) : chkGo nx p = 0 ∧ 0 ≤ x ∧ x ≤ p.foldl (fun n v => max n (v + 1)) nx := by
  induction p generalizing nx with
  | nil =>
    simp only [List.nil_append, chkGo] at h
    split at h
    · cases h
    · split at h
      · cases h
      · exact ⟨rfl, by omega, by show x ≤ nx; omega⟩
  | cons a p ih =>
    simp only [List.cons_append, chkGo] at h ⊢
    split at h
    · cases h
    · rename_i h1
      rw [if_neg h1]
      split at h
      · cases h
      · rename_i h2
        rw [if_neg h2]
        have e : (if a = nx then nx + 1 else nx) = max nx (a + 1) := by split <;> omega
        rw [e] at h ⊢
        exact ih _ h
theorem idx_range {n : Nat} {x : Int} (h0 : 0 ≤ x) (hx : x < n) : ((List.range n).map Int.ofNat).idxOf x = x.toNat := by
  refine idx_eq ?_ ?_
  · rw [List.getElem?_map, List.getElem?_range (by omega)]
    show some (Int.ofNat x.toNat) = some x
    congr 1
    show ((x.toNat : Nat) : Int) = x
    omega
  · intro j hj
    rw [List.getElem?_map, List.getElem?_range (by omega)]
    intro e
    have : (Int.ofNat j) = x := by simpa using e
    have e2 : ((j : Nat) : Int) = x := this
    omega
theorem mem_rangeI {n : Nat} {x : Int} : x ∈ (List.range n).map Int.ofNat ↔ 0 ≤ x ∧ x < n := by
  rw [List.mem_map]
  constructor
  · rintro ⟨j, hj, rfl⟩
    have := List.mem_range.1 hj
    exact ⟨by show (0 : Int) ≤ (j : Nat); omega, by show ((j : Nat) : Int) < n; omega⟩
  · rintro ⟨h1, h2⟩
    exact ⟨x.toNat, List.mem_range.2 (by omega), by show ((x.toNat : Nat) : Int) = x; omega⟩
theorem seen_self (p : List Int) (h : chkGo 0 p = 0) : seenOf p = (List.range (blk p).toNat).map Int.ofNat ∧ ofL p = p := by
  induction p using snoc_ind with
  | h0 => exact ⟨rfl, rfl⟩
  | hs p x ih =>
    obtain ⟨h1, h2, h3⟩ := chkGo_unsnoc p x 0 h
    obtain ⟨ih1, ih2⟩ := ih h1
    have h3' : x ≤ blk p := h3
    have hb : blk (p ++ [x]) = max (blk p) (x + 1) := by simp [blk]
    have hb0 : 0 ≤ blk p := le_foldl_max p 0
    rw [ofL_snoc, ih2, seenOf_snoc, ih1, hb]
    by_cases hx : x < blk p
    · have hm : x ∈ (List.range (blk p).toNat).map Int.ofNat := mem_rangeI.2 ⟨h2, by omega⟩
      rw [if_pos hm, idx_range h2 (by omega)]
      refine ⟨by rw [Int.max_eq_left (by omega)], ?_⟩
      congr 2
      omega
    · have hm : x ∉ (List.range (blk p).toNat).map Int.ofNat := fun hm => by have := mem_rangeI.1 hm; omega
      have hxe : x = blk p := by omega
      rw [if_neg hm, List.idxOf_eq_length hm, List.length_map, List.length_range]
      refine ⟨?_, by congr 2; omega⟩
      rw [Int.max_eq_right (by omega), show (x + 1).toNat = (blk p).toNat + 1 by omega, List.range_succ, List.map_append]
      congr 1
      show [x] = [((blk p).toNat : Int)]
      congr 1; omega
theorem ofL_self {p : List Int} (h : chk p = 0) : ofL p = p := (seen_self p (chk_ok h).2.2.2).2
theorem part_eq_iff {p q : List Int} (hp : chk p = 0) (hq : chk q = 0) : p = q ↔ Pat p q := by
  rw [← ofL_eq_iff, ofL_self hp, ofL_self hq]

theorem chkGo_pre (p q : List Int) (nx : Int) (h : chkGo nx (p ++ q) = 0) : chkGo nx p = 0 := by
  induction p generalizing nx with
  | nil => rfl
  | cons a p ih =>
    simp only [List.cons_append, chkGo] at h ⊢
    split at h
    · cases h
    · rename_i h1
      rw [if_neg h1]
      split at h
      · cases h
      · rename_i h2
        rw [if_neg h2]
        exact ih _ h
theorem chk_take {l : List Int} (h : chk l = 0) (k : Nat) : chkGo 0 (l.take k) = 0 := chkGo_pre (l.take k) (l.drop k) 0 (by rw [List.take_append_drop]; exact (chk_ok h).2.2.2)
theorem lt_blk {a : List Int} {v : Int} (h : v ∈ a) : v < blk a := by
  have key : ∀ (l : List Int) (x : Int), v ∈ l → v < l.foldl (fun n v => max n (v + 1)) x := by
    intro l
    induction l with
    | nil => intro x h; cases h
    | cons y l ih =>
      intro x h
      rcases List.mem_cons.1 h with rfl | h
      · have := le_foldl_max l (max x (v + 1))
        show v < l.foldl (fun n v => max n (v + 1)) (max x (v + 1))
        omega
      · exact ih _ h
  exact key a 0 h
/-! ### Finer ones -/
def Fin_ (a b : List Int) : Prop := ∀ i j, i < a.length → j < a.length → a.getD i 0 = a.getD j 0 → b.getD i 0 = b.getD j 0
def finB (a b : List Int) : Bool := (List.range a.length).all fun i => (List.range a.length).all fun j => !(a.getD i 0 == a.getD j 0) || b.getD i 0 == b.getD j 0
theorem finB_iff {a b : List Int} : finB a b = true ↔ Fin_ a b := by
  unfold finB Fin_
  simp only [List.all_eq_true, List.mem_range, Bool.or_eq_true, Bool.not_eq_true', beq_eq_false_iff_ne, beq_iff_eq]
  constructor
  · intro h i j hi hj e
    rcases h i hi j hj with h1 | h1
    · exact absurd e h1
    · exact h1
  · intro h i hi j hj
    by_cases e : a.getD i 0 = a.getD j 0
    · exact .inr (h i j hi hj e)
    · exact .inl e
def pairL (m : Int) (a b : List Int) : List Int := List.zipWith (fun x y => x * m + y) a b
theorem pairL_length {m : Int} {a b : List Int} (h : a.length = b.length) : (pairL m a b).length = a.length := by simp [pairL, h]
theorem pairL_get {m : Int} {a b : List Int} (h : a.length = b.length) {i : Nat} (hi : i < a.length) : (pairL m a b).getD i 0 = a.getD i 0 * m + b.getD i 0 := by
  refine getD_of_get ?_
  unfold pairL
  rw [List.getElem?_zipWith, get_getD hi, get_getD (l := b) (by omega)]
theorem pairL_eq {m : Int} {a b : List Int} (h : a.length = b.length) (hb : ∀ v ∈ b, 0 ≤ v ∧ v < m) {i j : Nat} (hi : i < a.length) (hj : j < a.length) :
    (pairL m a b).getD i 0 = (pairL m a b).getD j 0 ↔ a.getD i 0 = a.getD j 0 ∧ b.getD i 0 = b.getD j 0 := by
  rw [pairL_get h hi, pairL_get h hj]
  have h1 := hb _ (getD_mem (l := b) (i := i) (by omega))
  have h2 := hb _ (getD_mem (l := b) (i := j) (by omega))
  generalize a.getD i 0 = x
  generalize a.getD j 0 = y
  generalize b.getD i 0 = u at h1
  generalize b.getD j 0 = v at h2
  constructor
  · intro e
    have hxy : x = y := by
      rcases Int.lt_trichotomy x y with hlt | he | hgt
      · have : x * m + m ≤ y * m := by
          have := Int.mul_le_mul_of_nonneg_right (show x + 1 ≤ y by omega) (show 0 ≤ m by omega)
          rw [Int.add_mul, Int.one_mul] at this; exact this
        omega
      · exact he
      · have : y * m + m ≤ x * m := by
          have := Int.mul_le_mul_of_nonneg_right (show y + 1 ≤ x by omega) (show 0 ≤ m by omega)
          rw [Int.add_mul, Int.one_mul] at this; exact this
        omega
    subst hxy
    exact ⟨rfl, by omega⟩
  · rintro ⟨rfl, rfl⟩; rfl
/-- what is common to both -/
def meetL (a b : List Int) : List Int := ofL (pairL 1000 a b)
theorem meet_any_base {m : Int} {a b : List Int} (h : a.length = b.length) (hm : ∀ v ∈ b, 0 ≤ v ∧ v < m) (hb : ∀ v ∈ b, 0 ≤ v ∧ v < 1000) : ofL (pairL m a b) = meetL a b := by
  refine ofL_pat ⟨by rw [pairL_length h, pairL_length h], fun i j hi hj => ?_⟩
  rw [pairL_length h] at hi hj
  rw [pairL_eq h hm hi hj, pairL_eq h hb hi hj]
theorem lt1000 {b : List Int} (hb : chk b = 0) : ∀ v ∈ b, 0 ≤ v ∧ v < 1000 := fun v hv => by have := (chk_ok hb).2.2.1 v hv; omega
theorem meet_ref {a b : List Int} (h : a.length = b.length) (hb : chk b = 0) : ofL (pairL 9 a b) = meetL a b := meet_any_base h (chk_ok hb).2.2.1 (lt1000 hb)
theorem meetL_length {a b : List Int} (h : a.length = b.length) : (meetL a b).length = a.length := by unfold meetL; rw [ofL_length, pairL_length h]
theorem meetL_eq {a b : List Int} (h : a.length = b.length) (hb : chk b = 0) {i j : Nat} (hi : i < a.length) (hj : j < a.length) :
    (meetL a b).getD i 0 = (meetL a b).getD j 0 ↔ a.getD i 0 = a.getD j 0 ∧ b.getD i 0 = b.getD j 0 := by
  rw [← pairL_eq h (lt1000 hb) hi hj]
  exact ((pat_ofL (pairL 1000 a b)).2 i j (by rw [pairL_length h]; exact hi) (by rw [pairL_length h]; exact hj)).symm
theorem chk_meet {a b : List Int} (h : a.length = b.length) (ha : chk a = 0) : chk (meetL a b) = 0 := by
  have := chk_ok ha
  exact chk_ofL (by rw [pairL_length h]; omega) (by rw [pairL_length h]; omega)
theorem bool_eq_of_iff {x y : Bool} (h : x = true ↔ y = true) : x = y := by cases x <;> cases y <;> simp_all
theorem finer_prog {a b : List Int} (h : a.length = b.length) (ha : chk a = 0) (hb : chk b = 0) : (meetL a b == a) = finB a b := by
  refine bool_eq_of_iff ?_
  rw [beq_iff_eq, finB_iff, part_eq_iff (chk_meet h ha) ha]
  constructor
  · intro hp i j hi hj e
    exact ((meetL_eq h hb hi hj).1 ((hp.2 i j (by rw [meetL_length h]; exact hi) (by rw [meetL_length h]; exact hj)).2 e)).2
  · intro hf
    refine ⟨meetL_length h, fun i j hi hj => ?_⟩
    rw [meetL_length h] at hi hj
    rw [meetL_eq h hb hi hj]
    exact ⟨fun e => e.1, fun e => ⟨e, hf i j hi hj e⟩⟩

/-! ### What is joined -/
inductive Hang (a b : List Int) : Nat → Nat → Prop
  | refl (i : Nat) : Hang a b i i
  | step {i j k : Nat} : Hang a b i j → j < a.length → k < a.length → (a.getD j 0 = a.getD k 0 ∨ b.getD j 0 = b.getD k 0) → Hang a b i k
theorem Hang.trans {a b : List Int} {i j k : Nat} (h : Hang a b i j) (g : Hang a b j k) : Hang a b i k := by
  induction g with
  | refl => exact h
  | step _ hj hk e ih => exact .step ih hj hk e
theorem Hang.one {a b : List Int} {i j : Nat} (hi : i < a.length) (hj : j < a.length) (e : a.getD i 0 = a.getD j 0 ∨ b.getD i 0 = b.getD j 0) : Hang a b i j := .step (.refl i) hi hj e
theorem Hang.symm {a b : List Int} {i j : Nat} (h : Hang a b i j) : Hang a b j i := by
  induction h with
  | refl => exact .refl _
  | step _ hj hk e ih => exact (Hang.one hk hj (by rcases e with e | e; exact .inl e.symm; exact .inr e.symm)).trans ih
/-- labels that are equal just where packets hang together -/
def Joined (a b l : List Int) : Prop := l.length = a.length ∧ ∀ i j, i < a.length → j < a.length → (l.getD i 0 = l.getD j 0 ↔ Hang a b i j)
theorem Joined.pat {a b l r : List Int} (h : Joined a b l) (g : Joined a b r) : Pat l r :=
  ⟨h.1.trans g.1.symm, fun i j hi hj => by rw [h.1] at hi hj; exact (h.2 i j hi hj).trans (g.2 i j hi hj).symm⟩
open Classical in
noncomputable def joinedL (a b : List Int) : List Int := if h : ∃ l, Joined a b l then Classical.choose h else []
/-- what is joined -/
noncomputable def joinL (a b : List Int) : List Int := ofL (joinedL a b)
theorem joinedL_of {a b l : List Int} (h : Joined a b l) : Joined a b (joinedL a b) := by
  unfold joinedL
  rw [dif_pos ⟨l, h⟩]
  exact Classical.choose_spec (⟨l, h⟩ : ∃ l, Joined a b l)
theorem joinL_of {a b l : List Int} (h : Joined a b l) : ofL l = joinL a b := ofL_pat (h.pat (joinedL_of h))
/-- labels that go along with what hangs together -/
theorem hang_eq {a b l : List Int} (ha : ∀ i j, i < a.length → j < a.length → a.getD i 0 = a.getD j 0 → l.getD i 0 = l.getD j 0)
    (hb : ∀ i j, i < a.length → j < a.length → b.getD i 0 = b.getD j 0 → l.getD i 0 = l.getD j 0) {i j : Nat} (h : Hang a b i j) : l.getD i 0 = l.getD j 0 := by
  induction h with
  | refl => rfl
  | step _ hj hk e ih =>
    rcases e with e | e
    · exact ih.trans (ha _ _ hj hk e)
    · exact ih.trans (hb _ _ hj hk e)
end Go.Proofs.YtooepkpgffpcjaaDoor
