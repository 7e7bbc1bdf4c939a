/- Plain law: the rows of a chart. -/
import Derived.Test.YtooepkpgffpcjaaDoorLevels
import Derived.Test.YtooepkpgffpcjaaDoorLat
namespace Go.Proofs.YtooepkpgffpcjaaDoor
open Go.RowKit

/-! ### Where a block begins and ends -/
theorem barsTo_ends {l : List Int} (h : chk l = 0) (k : Nat) (hk : k ≤ l.length) : ∀ (j : Nat) b, (barsTo l k)[j]? = some b →
    ∃ f t : Nat, b.1 = f ∧ b.2.1 = t ∧ f ≤ t ∧ t < k ∧ l.getD f 0 = j ∧ l.getD t 0 = j ∧ ∀ i, i < k → l.getD i 0 = j → f ≤ i ∧ i ≤ t := by
  induction k with
  | zero => intro j b hb; simp [barsTo] at hb
  | succ k ih =>
    have ih' := ih (by omega)
    obtain ⟨h1, h2⟩ := barsTo_inv h k (by omega)
    have hv := get_getD (l := l) (i := k) (by omega)
    have hv0 := (chk_ok h).2.2.1 _ (getD_mem (l := l) (i := k) (by omega))
    have hg := chk_grow h hv
    intro j b hb
    rw [barsTo_succ] at hb
    unfold barStep at hb
    obtain ⟨v, hve⟩ : ∃ v : Nat, l.getD k 0 = v := ⟨(l.getD k 0).toNat, by omega⟩
    rw [hve] at hb hg hv0
    rw [Int.toNat_natCast] at hb
    by_cases hn : (v : Int) = (barsTo l k).length
    · rw [if_pos hn] at hb
      have hvl : v = (barsTo l k).length := by omega
      have hno : ∀ i, i < k → l.getD i 0 ≠ v := fun i hi e => by
        have h3 := lt_blk (a := l.take k) (v := l.getD i 0) (List.mem_of_getElem? (show (l.take k)[i]? = some (l.getD i 0) by rw [List.getElem?_take, if_pos hi]; exact get_getD (by omega)))
        omega
      rw [getLast_get (by simp; omega)] at hb
      split at hb
      · rename_i e
        obtain ⟨b', hb', rfl⟩ := Option.map_eq_some_iff.1 hb
        rw [← e, hvl, List.getElem?_append_right (Nat.le_refl _), Nat.sub_self] at hb'
        simp at hb'
        subst hb'
        refine ⟨k, k, rfl, rfl, Nat.le_refl _, by omega, by omega, by omega, fun i hi he => ?_⟩
        by_cases hik : i = k
        · omega
        · exact absurd (by rw [he]; omega) (hno i (by omega))
      · rename_i e
        have hj : j < (barsTo l k).length := by
          have := (List.getElem?_eq_some_iff.1 hb).1
          simp at this; omega
        rw [List.getElem?_append_left hj] at hb
        obtain ⟨f, t, e1, e2, e3, e4, e5, e6, e7⟩ := ih' j b hb
        refine ⟨f, t, e1, e2, e3, by omega, e5, e6, fun i hi he => ?_⟩
        by_cases hik : i = k
        · subst hik; omega
        · exact e7 i (by omega) he
    · rw [if_neg hn] at hb
      have hvl : v < (barsTo l k).length := by omega
      rw [getLast_get hvl] at hb
      split at hb
      · rename_i e
        obtain ⟨b', hb', rfl⟩ := Option.map_eq_some_iff.1 hb
        obtain ⟨f, t, e1, e2, e3, e4, e5, e6, e7⟩ := ih' j b' hb'
        refine ⟨f, k, e1, rfl, by omega, by omega, e5, by rw [hve, e], fun i hi he => ?_⟩
        by_cases hik : i = k
        · subst hik; exact ⟨by omega, Nat.le_refl _⟩
        · have := e7 i (by omega) he; omega
      · rename_i e
        obtain ⟨f, t, e1, e2, e3, e4, e5, e6, e7⟩ := ih' j b hb
        refine ⟨f, t, e1, e2, e3, by omega, e5, e6, fun i hi he => ?_⟩
        by_cases hik : i = k
        · subst hik; rw [hve] at he; omega
        · exact e7 i (by omega) he

/-- another packet is like it -/
def likeTo (l : List Int) (i k : Nat) : Bool := (List.range k).any fun j => j != i && l.getD j 0 == l.getD i 0
theorem likeTo_succ (l : List Int) (i k : Nat) : likeTo l i (k + 1) = (likeTo l i k || (k != i && l.getD k 0 == l.getD i 0)) := by
  unfold likeTo; rw [List.range_succ, List.any_append]; simp
theorem like_iff {l : List Int} (h : chk l = 0) {i : Nat} (hi : i < l.length) {b : Bar} (hb : (barsTo l l.length)[(l.getD i 0).toNat]? = some b) : likeTo l i l.length = decide (b.1 < b.2.1) := by
  have hv0 := (chk_ok h).2.2.1 _ (getD_mem hi)
  obtain ⟨v, hve⟩ : ∃ v : Nat, l.getD i 0 = v := ⟨(l.getD i 0).toNat, by omega⟩
  rw [hve, Int.toNat_natCast] at hb
  obtain ⟨f, t, e1, e2, e3, e4, e5, e6, e7⟩ := barsTo_ends h l.length (Nat.le_refl _) v b hb
  refine bool_eq_of_iff ?_
  unfold likeTo
  simp only [List.any_eq_true, List.mem_range, Bool.and_eq_true, bne_iff_ne, beq_iff_eq, decide_eq_true_eq]
  rw [e1, e2, hve]
  constructor
  · rintro ⟨j, hj, hne, he⟩
    have h1 := e7 j hj he
    have h2 := e7 i hi hve
    omega
  · intro hlt
    by_cases hfi : f = i
    · exact ⟨t, e4, by omega, e6⟩
    · exact ⟨f, by omega, hfi, e5⟩

/-! ### The signs of a row -/
theorem sgn0_ne (p : Bool) : sgn 0 p ≠ 111 ∧ sgn 0 p ≠ 10 := by cases p <;> decide
theorem sgn1_eq (p : Bool) : (sgn 1 p == 111) = p ∧ sgn 1 p ≠ 10 := by cases p <;> decide
theorem sgn2_ne (p : Bool) : sgn 2 p ≠ 111 ∧ sgn 2 p ≠ 10 := by cases p <;> decide
theorem signT_ne10 (l : List Int) (L : List Bar) (row : Int) (i : Nat) : signT l L row i ≠ 10 := by
  unfold signT
  simp only
  split
  · exact (sgn0_ne _).2
  · split
    · exact (sgn1_eq _).2
    · exact (sgn2_ne _).2
theorem signT_o {l : List Int} (h : chk l = 0) {i : Nat} (hi : i < l.length) (row : Int) : (signT l (barsTo l l.length) row i == 111) = (likeTo l i l.length && (levL l).getD (l.getD i 0).toNat 0 == row) := by
  have hv0 := (chk_ok h).2.2.1 _ (getD_mem hi)
  obtain ⟨h1, h2⟩ := barsTo_inv h l.length (Nat.le_refl _)
  rw [List.take_of_length_le (Nat.le_refl _)] at h2
  have h3 := lt_blk (getD_mem hi)
  obtain ⟨b, hb⟩ := getB (l := barsTo l l.length) rfl (show (l.getD i 0).toNat < (barsTo l l.length).length by omega)
  rw [like_iff h hi hb]
  have hlv : (levL l).getD (l.getD i 0).toNat 0 = b.2.2 := by
    refine getD_of_get ?_
    unfold levL; rw [List.getElem?_map, hb]; rfl
  rw [hlv]
  unfold signT
  simp only
  rw [getD_of_get hb]
  by_cases c1 : row < b.2.2
  · rw [if_pos c1]
    have : (b.2.2 == row) = false := by simp; omega
    rw [this, Bool.and_false]
    simpa using (sgn0_ne _).1
  · rw [if_neg c1]
    by_cases c2 : row = b.2.2
    · rw [if_pos c2, (sgn1_eq _).1, c2]; simp
    · rw [if_neg c2]
      have : (b.2.2 == row) = false := by simp; omega
      rw [this, Bool.and_false]
      simpa using (sgn2_ne _).1
theorem pgTo_none {L : List Bar} {n row i : Int} (h : ∀ (j : Nat) (b : Bar), L[j]? = some b → b.2.2 < row) (m : Nat) (hm : m ≤ L.length) : pgTo L n row i m = (false, false) := by
  induction m with
  | zero => rfl
  | succ m ih =>
    obtain ⟨b, hb⟩ := getB (l := L) rfl (show m < L.length by omega)
    rw [pgTo_succ hb, ih (by omega)]
    have := h m b hb
    unfold pgBar
    rw [if_neg (by omega)]
theorem mostOf_ge {L : List Bar} {j : Nat} {b : Bar} (hb : L[j]? = some b) : b.2.2 ≤ mostOf L := by
  have key : ∀ k, k ≤ L.length → ∀ j, j < k → ∀ b, L[j]? = some b → b.2.2 ≤ mostOf (L.take k) := by
    intro k
    induction k with
    | zero => intro _ j hj; omega
    | succ k ih =>
      intro hk j hj b hb
      obtain ⟨c, hc⟩ := getB (l := L) rfl (show k < L.length by omega)
      rw [mostOf_take hc]
      by_cases e : j = k
      · subst e; rw [hb] at hc; injection hc with hc; rw [hc]; omega
      · have := ih (by omega) j (by omega) b hb; omega
  have := key L.length (Nat.le_refl _) j (List.getElem?_eq_some_iff.1 hb).1 b hb
  rwa [List.take_of_length_le (Nat.le_refl _)] at this
theorem signT_last {l : List Int} (h : chk l = 0) {i : Nat} (hi : i < l.length) : signT l (barsTo l l.length) (mostOf (barsTo l l.length) + 1) i = 124 := by
  have hv0 := (chk_ok h).2.2.1 _ (getD_mem hi)
  obtain ⟨h1, h2⟩ := barsTo_inv h l.length (Nat.le_refl _)
  rw [List.take_of_length_le (Nat.le_refl _)] at h2
  have h3 := lt_blk (getD_mem hi)
  obtain ⟨b, hb⟩ := getB (l := barsTo l l.length) rfl (show (l.getD i 0).toNat < (barsTo l l.length).length by omega)
  have hm := mostOf_ge hb
  unfold signT
  simp only
  rw [getD_of_get hb, if_neg (by omega), if_neg (by omega), pgTo_none (fun j c hc => by have := mostOf_ge hc; omega) _ (Nat.le_refl _)]
  decide

/-! ### The rows -/
theorem rowTo_get {l : List Int} (L : List Bar) (row : Int) (k : Nat) (hk : k ≤ l.length) (h0 : 1 ≤ k) :
    (rowTo l L row k).length = (if k < l.length then 2 * k else 2 * k - 1) ∧ (∀ i, i < k → (rowTo l L row k)[2 * i]? = some (signT l L row i)) ∧ ∀ c ∈ rowTo l L row k, c ≠ 10 := by
  induction k with
  | zero => omega
  | succ k ih =>
    have hprev : (rowTo l L row k).length = 2 * k ∧ (∀ i, i < k → (rowTo l L row k)[2 * i]? = some (signT l L row i)) ∧ ∀ c ∈ rowTo l L row k, c ≠ 10 := by
      by_cases hk0 : 1 ≤ k
      · obtain ⟨i1, i2, i3⟩ := ih (by omega) hk0
        rw [if_pos (by omega)] at i1
        exact ⟨i1, i2, i3⟩
      · obtain rfl : k = 0 := by omega
        refine ⟨rfl, fun i hi => by omega, fun c hc => by simp [rowTo] at hc⟩
    obtain ⟨i1, i2, i3⟩ := hprev
    rw [rowTo_succ]
    have hs := signT_ne10 l L row k
    have hs0 := (sgn0_ne (pgTo L (l.getD k 0) row k L.length).2).2
    unfold cellT
    by_cases hl : k + 1 < l.length
    · rw [if_pos hl, if_pos hl]
      refine ⟨by simp [i1]; omega, fun i hi => ?_, fun c hc => ?_⟩
      · by_cases e : i = k
        · subst e
          rw [List.getElem?_append_right (by omega), i1, Nat.sub_self]; rfl
        · rw [List.getElem?_append_left (by omega)]; exact i2 i (by omega)
      · rcases List.mem_append.1 hc with hc | hc
        · exact i3 c hc
        · simp at hc
          rcases hc with rfl | rfl
          · exact hs
          · exact hs0
    · rw [if_neg hl, if_neg hl]
      refine ⟨by simp [i1]; omega, fun i hi => ?_, fun c hc => ?_⟩
      · by_cases e : i = k
        · subst e
          rw [List.getElem?_append_right (by omega), i1, Nat.sub_self]; rfl
        · rw [List.getElem?_append_left (by omega)]; exact i2 i (by omega)
      · rcases List.mem_append.1 hc with hc | hc
        · exact i3 c hc
        · simp at hc
          subst hc
          exact hs

/-- the rows of a text, and what has come since the last line feed -/
def rowStep (s : List (List UInt8) × List UInt8) (c : UInt8) : List (List UInt8) × List UInt8 := if c = 10 then (s.1 ++ [s.2], []) else (s.1, s.2 ++ [c])
def rowsF (t : List UInt8) : List (List UInt8) × List UInt8 := t.foldl rowStep ([], [])
theorem rowsF_run (r : List UInt8) (h : ∀ c ∈ r, c ≠ 10) (s : List (List UInt8) × List UInt8) : r.foldl rowStep s = (s.1, s.2 ++ r) := by
  induction r generalizing s with
  | nil => simp
  | cons a r ih =>
    have ha := h a (by simp)
    rw [List.foldl_cons, ih (fun c hc => h c (by simp [hc]))]
    unfold rowStep
    rw [if_neg ha]
    simp
theorem rowsF_text {l : List Int} (L : List Bar) (h0 : 1 ≤ l.length) (k : Nat) : rowsF (textTo l L k) = ((List.range k).map (fun (r : Nat) => rowTo l L ((r : Int) + 1) l.length), []) := by
  induction k with
  | zero => rfl
  | succ k ih =>
    have hr := (rowTo_get L ((k : Int) + 1) l.length (Nat.le_refl _) h0).2.2
    have e : rowsF (textTo l L (k + 1)) = (rowTo l L ((k : Int) + 1) l.length ++ [10]).foldl rowStep (rowsF (textTo l L k)) := by
      rw [textTo_succ]; unfold rowsF; rw [List.foldl_append]
    rw [e, ih, List.foldl_append, rowsF_run _ hr, List.range_succ, List.map_append]
    rfl
end Go.Proofs.YtooepkpgffpcjaaDoor
