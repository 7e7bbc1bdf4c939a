/- Plain law: all partitions of up to 7 packets, one by one. -/
import Derived.Test.YtooepkpgffpcjaaDoorUnrank
namespace Go.Proofs.YtooepkpgffpcjaaDoor
open Go.RowKit

/-- the partition of a rank -/
def pr (n r : Nat) : List Int := (unr n r n).2
def lessB : List Int → List Int → Bool
  | a :: l, b :: r => if a == b then lessB l r else decide (a < b)
  | _, _ => false
def allOk (n : Nat) (m : Int) (r : Nat) : Bool :=
  rankRTo (pr n r) (n - 1) == (r : Int) && (match nextL (pr n r) with
    | some q => decide ((r : Int) + 1 < m) && q == pr n (r + 1) && lessB (pr n r) q
    | none => decide (m ≤ (r : Int) + 1))
def seenStepP (n : Nat) (P : List Int) (i : Nat) : List Int := P.set (blk (pr n i)).toNat (P.getD (blk (pr n i)).toNat 0 + 1)
/-- how many partitions with each number of blocks came before a rank -/
def partsSeen (n r : Nat) : List Int := (List.range r).foldl (seenStepP n) (List.replicate (n + 1) 0)
def allOf (n : Nat) : Bool := (List.range (countR n).toNat).all (allOk n (countR n)) && (List.range n).all fun k => (partsSeen n (countR n).toNat).getD (k + 1) 0 == partedR n ((k : Int) + 1)
theorem allOf_1 : allOf 1 = true := by decide +kernel
theorem allOf_2 : allOf 2 = true := by decide +kernel
theorem allOf_3 : allOf 3 = true := by decide +kernel
theorem allOf_4 : allOf 4 = true := by decide +kernel
theorem allOf_5 : allOf 5 = true := by decide +kernel
theorem allOf_6 : allOf 6 = true := by decide +kernel
theorem allOf_7 : allOf 7 = true := by decide +kernel
theorem allOf_all {n : Nat} (h1 : 1 ≤ n) (h7 : n ≤ 7) : allOf n = true := by
  have h : n = 1 ∨ n = 2 ∨ n = 3 ∨ n = 4 ∨ n = 5 ∨ n = 6 ∨ n = 7 := by omega
  rcases h with rfl | rfl | rfl | rfl | rfl | rfl | rfl
  · exact allOf_1
  · exact allOf_2
  · exact allOf_3
  · exact allOf_4
  · exact allOf_5
  · exact allOf_6
  · exact allOf_7
theorem pr_chk {n : Nat} (h1 : 1 ≤ n) (h7 : n ≤ 7) (r : Nat) : chk (pr n r) = 0 := unr_chk (by omega) h1 (by omega)
theorem pr_len (n r : Nat) : (pr n r).length = n := (unr_ok n (by omega) n).len
theorem allOk_at {n : Nat} (h1 : 1 ≤ n) (h7 : n ≤ 7) {r : Nat} (hr : (r : Int) < countR n) : allOk n (countR n) r = true := by
  have h := allOf_all h1 h7
  unfold allOf at h
  rw [Bool.and_eq_true, List.all_eq_true] at h
  exact h.1 r (List.mem_range.2 (by omega))
theorem rank_pr {n : Nat} (h1 : 1 ≤ n) (h7 : n ≤ 7) {r : Nat} (hr : (r : Int) < countR n) : rnk (pr n r) = r := by
  have h := allOk_at h1 h7 hr
  unfold allOk at h
  rw [Bool.and_eq_true, beq_iff_eq] at h
  rw [rank_eq (pr_chk h1 h7 r), pr_len]
  exact h.1
theorem next_pr {n : Nat} (h1 : 1 ≤ n) (h7 : n ≤ 7) {r : Nat} (hr : (r : Int) + 1 < countR n) : nextL (pr n r) = some (pr n (r + 1)) ∧ lessB (pr n r) (pr n (r + 1)) = true := by
  have h := allOk_at h1 h7 (show (r : Int) < countR n by omega)
  unfold allOk at h
  rw [Bool.and_eq_true] at h
  have h2 := h.2
  cases e : nextL (pr n r) with
  | none => rw [e] at h2; simp at h2; omega
  | some q =>
    rw [e] at h2
    simp only [Bool.and_eq_true, beq_iff_eq, decide_eq_true_eq] at h2
    rw [← h2.1.2]
    exact ⟨rfl, h2.2⟩
theorem last_pr {n : Nat} (h1 : 1 ≤ n) (h7 : n ≤ 7) {r : Nat} (hr : (r : Int) + 1 = countR n) : nextL (pr n r) = none := by
  have h := allOk_at h1 h7 (show (r : Int) < countR n by omega)
  unfold allOk at h
  rw [Bool.and_eq_true] at h
  have h2 := h.2
  cases e : nextL (pr n r) with
  | none => rfl
  | some q =>
    rw [e] at h2
    simp only [Bool.and_eq_true, beq_iff_eq, decide_eq_true_eq] at h2
    omega
theorem seen_parted {n : Nat} (h1 : 1 ≤ n) (h7 : n ≤ 7) {k : Nat} (hk1 : 1 ≤ k) (hk : k ≤ n) : (partsSeen n (countR n).toNat).getD k 0 = partedR n k := by
  have h := allOf_all h1 h7
  unfold allOf at h
  rw [Bool.and_eq_true, List.all_eq_true, List.all_eq_true] at h
  have := h.2 (k - 1) (List.mem_range.2 (by omega))
  rw [beq_iff_eq, show k - 1 + 1 = k by omega, show ((k - 1 : Nat) : Int) + 1 = k by omega] at this
  exact this
theorem partsSeen_succ (n r : Nat) : partsSeen n (r + 1) = seenStepP n (partsSeen n r) r := foldl_range_succ _ _ _
theorem partsSeen_ok (n r : Nat) : (partsSeen n r).length = n + 1 ∧ ∀ v ∈ partsSeen n r, 0 ≤ v ∧ v ≤ r := by
  induction r with
  | zero =>
    refine ⟨by simp [partsSeen], fun v hv => ?_⟩
    have : v = 0 := List.eq_of_mem_replicate hv
    omega
  | succ r ih =>
    obtain ⟨i1, i2⟩ := ih
    rw [partsSeen_succ]
    unfold seenStepP
    refine ⟨by rw [List.length_set, i1], fun v hv => ?_⟩
    rcases List.mem_or_eq_of_mem_set hv with h | rfl
    · have := i2 v h; omega
    · by_cases hb : (blk (pr n r)).toNat < (partsSeen n r).length
      · have := i2 _ (List.mem_of_getElem? (show (partsSeen n r)[(blk (pr n r)).toNat]? = some ((partsSeen n r).getD (blk (pr n r)).toNat 0) by rw [List.getD_eq_getElem?_getD, List.getElem?_eq_getElem hb]; rfl))
        omega
      · rw [List.getD_eq_getElem?_getD, List.getElem?_eq_none (by omega)]; simp; omega
theorem countR_small : ∀ n, 1 ≤ n → n ≤ 7 → 1 ≤ countR n ∧ countR n ≤ 1000 := by
  have h : ∀ n : Fin 8, 1 ≤ n.1 → 1 ≤ countR n.1 ∧ countR n.1 ≤ 1000 := by decide +kernel
  intro n h1 h7
  exact h ⟨n, by omega⟩ h1
theorem pr_blk {n : Nat} (h1 : 1 ≤ n) (h7 : n ≤ 7) (r : Nat) : 1 ≤ blk (pr n r) ∧ blk (pr n r) ≤ n := by
  have h := pr_chk h1 h7 r
  refine ⟨(blk_le9 h).1, ?_⟩
  have := blk_le_len _ (chk_ok h).2.2.2
  rwa [pr_len] at this
end Go.Proofs.YtooepkpgffpcjaaDoor
