/- Plain law: ranks: the program's table of endings is the reference's behind; so ranks and partitions of ranks are alike. Plain law: all partitions of up to 7 packets, one by one. Plain law: stocks, and in how many ways a partition comes. Plain law: the ways of a partition: with kinds that are taken, with kinds in another order, and one packet more. Plain law: one packet more: all partitions together have all ways. Plain law: what counting tells. Plain law: the fairest counts: going through all of them, one by one, and as a list. Plain law: the ordered choices of packets of a stock, one by one: how many there are, and how many have a partition. -/
import Derived.Test.YtcmacejpoihhlaaMgC
import Derived.Test.YtcmacejpoihhlaaMgD
namespace Go.Proofs.Ytcmacejpoihhlaa
open Go.RowKit

/-- the reference's behind -/
def behindR : Nat → Int → Int
  | 0, _ => 1
  | n + 1, b => b * behindR n b + behindR n (b + 1)
theorem behind_eq : ∀ m, m < 9 → ∀ b : Nat, m + b < 11 → endL.getD (m * 11 + b) 0 = behindR m b := by
  have h : ∀ m : Fin 9, ∀ b : Fin 11, m.1 + b.1 < 11 → endL.getD (m.1 * 11 + b.1) 0 = behindR m.1 (b.1 : Int) := by decide +kernel
  intro m hm b hb
  exact h ⟨m, hm⟩ ⟨b, by omega⟩ hb
theorem behind_pos (m : Nat) : ∀ b : Int, 0 ≤ b → 1 ≤ behindR m b := by
  induction m with
  | zero => intro b _; exact Int.le_refl _
  | succ m ih =>
    intro b hb
    have h1 := ih b hb
    have h2 := ih (b + 1) (by omega)
    have h3 : 0 ≤ b * behindR m b := Int.mul_nonneg hb (by omega)
    show 1 ≤ b * behindR m b + behindR m (b + 1)
    omega

/-- the reference's rank, behind the first k packets (but the first) -/
def rankRTo (l : List Int) (k : Nat) : Int := (List.range k).foldl (fun n i => n + l.getD (i + 1) 0 * behindR (l.length - 1 - (i + 1)) (blk (l.take (i + 1)))) 0
theorem head_zero {l : List Int} (h : chk l = 0) : l.getD 0 0 = 0 := by
  have h1 := chk_ok h
  cases l with
  | nil => rfl
  | cons a r =>
    have := h1.2.2.2
    simp only [chkGo] at this
    split at this
    · cases this
    · split at this
      · cases this
      · show a = 0; omega
theorem blk_le_len (p : List Int) (h : chkGo 0 p = 0) : blk p ≤ p.length := by
  induction p using snoc_ind with
  | h0 => simp [blk]
  | hs p x ih =>
    obtain ⟨h1, _, h3⟩ := chkGo_unsnoc p x 0 h
    have h2 := ih h1
    have h3' : x ≤ blk p := h3
    have hb : blk (p ++ [x]) = max (blk p) (x + 1) := by simp [blk]
    rw [hb]; simp; omega
theorem blk_take_le {l : List Int} (h : chk l = 0) (k : Nat) : 0 ≤ blk (l.take k) ∧ blk (l.take k) ≤ k :=
  ⟨le_foldl_max _ _, Int.le_trans (blk_le_len _ (chk_take h k)) (by have := List.length_take_le k l; omega)⟩

theorem rank_eq_to {l : List Int} (h : chk l = 0) (k : Nat) (hk : k + 1 ≤ l.length) : rankTo l (k + 1) = rankRTo l k := by
  have h9 := (chk_ok h).2.1
  induction k with
  | zero =>
    have e : rankTo l 1 = rankTo l 0 + l.getD 0 0 * endL.getD ((l.length - 0 - 1) * 11 + (blk (l.take 0)).toNat) 0 := foldl_range_succ _ _ _
    rw [e, head_zero h]
    simp [rankTo, rankRTo]
  | succ k ih =>
    have e1 : rankTo l (k + 1 + 1) = rankTo l (k + 1) + l.getD (k + 1) 0 * endL.getD ((l.length - (k + 1) - 1) * 11 + (blk (l.take (k + 1))).toNat) 0 := foldl_range_succ _ _ _
    have e2 : rankRTo l (k + 1) = rankRTo l k + l.getD (k + 1) 0 * behindR (l.length - 1 - (k + 1)) (blk (l.take (k + 1))) := foldl_range_succ _ _ _
    have hb := blk_take_le h (k + 1)
    rw [e1, e2, ih (by omega), behind_eq _ (by omega) _ (by omega), show l.length - (k + 1) - 1 = l.length - 1 - (k + 1) by omega]
    congr 3
    omega
theorem rank_eq {l : List Int} (h : chk l = 0) : rnk l = rankRTo l (l.length - 1) := by
  have h1 := (chk_ok h).1
  unfold rnk
  rw [← rank_eq_to h (l.length - 1) (by omega), show l.length - 1 + 1 = l.length by omega]

/-! ### Partitions of ranks -/
def unrStep (n : Nat) (s : Int × List Int) (i : Nat) : Int × List Int :=
  (s.1 - min (blk s.2) (s.1 / behindR (n - 1 - i) (blk s.2)) * behindR (n - 1 - i) (blk s.2), s.2 ++ [min (blk s.2) (s.1 / behindR (n - 1 - i) (blk s.2))])
def unr (n : Nat) (rank : Int) (k : Nat) : Int × List Int := (List.range k).foldl (unrStep n) (rank, [])
theorem unr_succ (n : Nat) (rank : Int) (k : Nat) : unr n rank (k + 1) = unrStep n (unr n rank k) k := foldl_range_succ _ _ _
/-- what is known of the state behind k rounds -/
structure UnrOk (rank : Int) (k : Nat) (s : Int × List Int) : Prop where
  len : s.2.length = k
  low : 0 ≤ s.1
  high : s.1 ≤ rank
  good : ∀ v ∈ s.2, 0 ≤ v ∧ v < k
  chk : k ≤ 9 → chkGo 0 s.2 = 0
theorem unr_ok (n : Nat) {rank : Int} (hr : 0 ≤ rank) (k : Nat) : UnrOk rank k (unr n rank k) := by
  induction k with
  | zero => exact ⟨rfl, hr, Int.le_refl _, by simp [unr], fun _ => rfl⟩
  | succ k ih =>
    rw [unr_succ]
    generalize unr n rank k = s at ih
    obtain ⟨r, p⟩ := s
    obtain ⟨i1, i2, i3, i4, i5⟩ := ih
    simp only at i1 i2 i3 i4 i5
    have hb0 : 0 ≤ blk p := le_foldl_max _ _
    have hbk : blk p ≤ k := foldl_max_lt p k 0 (fun v hv => (i4 v hv).2) (by omega)
    have hp := behind_pos (n - 1 - k) (blk p) hb0
    unfold unrStep
    simp only
    generalize behindR (n - 1 - k) (blk p) = e at hp
    have hd : 0 ≤ r / e := Int.ediv_nonneg i2 (by omega)
    have hm : r / e * e ≤ r := Int.ediv_mul_le r (by omega)
    generalize hx : min (blk p) (r / e) = x
    have hx0 : 0 ≤ x := by omega
    have hx1 : x ≤ r / e := by omega
    have hx2 : x ≤ blk p := by omega
    have hxe : x * e ≤ r / e * e := Int.mul_le_mul_of_nonneg_right hx1 (by omega)
    have hxe0 : 0 ≤ x * e := Int.mul_nonneg hx0 (by omega)
    refine ⟨by simp [i1], by simp only; omega, by simp only; omega, fun v hv => ?_, fun h9 => ?_⟩
    · rcases List.mem_append.1 hv with hv | hv
      · have := i4 v hv; omega
      · simp at hv; subst hv; omega
    · exact chkGo_snoc _ 0 _ (i5 (by omega)) hx0 (by omega) hx2
theorem unr_chk {n : Nat} {rank : Int} (hr : 0 ≤ rank) (h1 : 1 ≤ n) (h9 : n ≤ 9) : chk (unr n rank n).2 = 0 := by
  have := unr_ok n hr n
  rw [chk_go (by rw [this.len]; omega) (by rw [this.len]; omega)]
  exact this.chk h9
theorem unr_one (n : Nat) {rank : Int} (hr : 0 ≤ rank) : unr n rank 1 = (rank, [0]) := by
  rw [unr_succ]
  show unrStep n (rank, []) 0 = _
  unfold unrStep
  simp only [show blk [] = 0 from rfl]
  have hp := behind_pos (n - 1 - 0) 0 (by omega)
  have hd : 0 ≤ rank / behindR (n - 1 - 0) 0 := Int.ediv_nonneg hr (by omega)
  rw [Int.min_eq_left hd]; simp
/-- Unrank's answer -/
def unrankE (n rank : Int) : List Int × Int := if n < 1 ∨ 9 < n then ([], 2) else if rank < 0 ∨ countR n.toNat ≤ rank then ([], 7) else ((unr n.toNat rank n.toNat).2, 0)

/-! ### The next one -/
def nextAt (l : List Int) (i : Nat) : List Int := l.take i ++ [l.getD i 0 + 1] ++ List.replicate (l.length - i - 1) 0
def nextFrom (l : List Int) : Nat → Option (List Int)
  | 0 => none
  | i + 1 => if l.getD (i + 1) 0 < blk (l.take (i + 1)) then some (nextAt l (i + 1)) else nextFrom l i
def nextL (l : List Int) : Option (List Int) := nextFrom l (l.length - 1)
/-- Next's answer -/
def nextE (l : List Int) : List Int × Int := if chk l ≠ 0 then ([], chk l) else match nextL l with | some q => (q, 0) | none => ([], 7)
end Go.Proofs.Ytcmacejpoihhlaa

namespace Go.Proofs.Ytcmacejpoihhlaa
open Go.RowKit

/-- the partition of a rank -/
def pr (n r : Nat) : List Int := (unr n r n).2
def lessB : List Int → List Int → Bool
  | a :: l, b :: r => if a == b then lessB l r else decide (a < b)
  | _, _ => false
def allOk (n : Nat) (m : Int) (r : Nat) : Bool :=
  rankRTo (pr n r) (n - 1) == (r : Int) && (match nextL (pr n r) with
    | some q => decide ((r : Int) + 1 < m) && q == pr n (r + 1) && lessB (pr n r) q
    | none => decide (m ≤ (r : Int) + 1))
def seenStepP (n : Nat) (P : List Int) (i : Nat) : List Int := P.set (blk (pr n i)).toNat (P.getD (blk (pr n i)).toNat 0 + 1)
/-- how many partitions with each number of blocks came before a rank -/
def partsSeen (n r : Nat) : List Int := (List.range r).foldl (seenStepP n) (List.replicate (n + 1) 0)
def allOf (n : Nat) : Bool := (List.range (countR n).toNat).all (allOk n (countR n)) && (List.range n).all fun k => (partsSeen n (countR n).toNat).getD (k + 1) 0 == partedR n ((k : Int) + 1)
theorem allOf_1 : allOf 1 = true := by decide +kernel
theorem allOf_2 : allOf 2 = true := by decide +kernel
theorem allOf_3 : allOf 3 = true := by decide +kernel
theorem allOf_4 : allOf 4 = true := by decide +kernel
theorem allOf_5 : allOf 5 = true := by decide +kernel
theorem allOf_6 : allOf 6 = true := by decide +kernel
theorem allOf_7 : allOf 7 = true := by decide +kernel
theorem allOf_all {n : Nat} (h1 : 1 ≤ n) (h7 : n ≤ 7) : allOf n = true := by
  have h : n = 1 ∨ n = 2 ∨ n = 3 ∨ n = 4 ∨ n = 5 ∨ n = 6 ∨ n = 7 := by omega
  rcases h with rfl | rfl | rfl | rfl | rfl | rfl | rfl
  · exact allOf_1
  · exact allOf_2
  · exact allOf_3
  · exact allOf_4
  · exact allOf_5
  · exact allOf_6
  · exact allOf_7
theorem pr_chk {n : Nat} (h1 : 1 ≤ n) (h7 : n ≤ 7) (r : Nat) : chk (pr n r) = 0 := unr_chk (by omega) h1 (by omega)
theorem pr_len (n r : Nat) : (pr n r).length = n := (unr_ok n (by omega) n).len
theorem allOk_at {n : Nat} (h1 : 1 ≤ n) (h7 : n ≤ 7) {r : Nat} (hr : (r : Int) < countR n) : allOk n (countR n) r = true := by
  have h := allOf_all h1 h7
  unfold allOf at h
  rw [Bool.and_eq_true, List.all_eq_true] at h
  exact h.1 r (List.mem_range.2 (by omega))
theorem rank_pr {n : Nat} (h1 : 1 ≤ n) (h7 : n ≤ 7) {r : Nat} (hr : (r : Int) < countR n) : rnk (pr n r) = r := by
  have h := allOk_at h1 h7 hr
  unfold allOk at h
  rw [Bool.and_eq_true, beq_iff_eq] at h
  rw [rank_eq (pr_chk h1 h7 r), pr_len]
  exact h.1
theorem next_pr {n : Nat} (h1 : 1 ≤ n) (h7 : n ≤ 7) {r : Nat} (hr : (r : Int) + 1 < countR n) : nextL (pr n r) = some (pr n (r + 1)) ∧ lessB (pr n r) (pr n (r + 1)) = true := by
  have h := allOk_at h1 h7 (show (r : Int) < countR n by omega)
  unfold allOk at h
  rw [Bool.and_eq_true] at h
  have h2 := h.2
  cases e : nextL (pr n r) with
  | none => rw [e] at h2; simp at h2; omega
  | some q =>
    rw [e] at h2
    simp only [Bool.and_eq_true, beq_iff_eq, decide_eq_true_eq] at h2
    rw [← h2.1.2]
    exact ⟨rfl, h2.2⟩
theorem last_pr {n : Nat} (h1 : 1 ≤ n) (h7 : n ≤ 7) {r : Nat} (hr : (r : Int) + 1 = countR n) : nextL (pr n r) = none := by
  have h := allOk_at h1 h7 (show (r : Int) < countR n by omega)
  unfold allOk at h
  rw [Bool.and_eq_true] at h
  have h2 := h.2
  cases e : nextL (pr n r) with
  | none => rfl
  | some q =>
    rw [e] at h2
    simp only [Bool.and_eq_true, beq_iff_eq, decide_eq_true_eq] at h2
    omega
theorem seen_parted {n : Nat} (h1 : 1 ≤ n) (h7 : n ≤ 7) {k : Nat} (hk1 : 1 ≤ k) (hk : k ≤ n) : (partsSeen n (countR n).toNat).getD k 0 = partedR n k := by
  have h := allOf_all h1 h7
  unfold allOf at h
  rw [Bool.and_eq_true, List.all_eq_true, List.all_eq_true] at h
  have := h.2 (k - 1) (List.mem_range.2 (by omega))
  rw [beq_iff_eq, show k - 1 + 1 = k by omega, show ((k - 1 : Nat) : Int) + 1 = k by omega] at this
  exact this
theorem partsSeen_succ (n r : Nat) : partsSeen n (r + 1) = seenStepP n (partsSeen n r) r := foldl_range_succ _ _ _
theorem partsSeen_ok (n r : Nat) : (partsSeen n r).length = n + 1 ∧ ∀ v ∈ partsSeen n r, 0 ≤ v ∧ v ≤ r := by
  induction r with
  | zero =>
    refine ⟨by simp [partsSeen], fun v hv => ?_⟩
    have : v = 0 := List.eq_of_mem_replicate hv
    omega
  | succ r ih =>
    obtain ⟨i1, i2⟩ := ih
    rw [partsSeen_succ]
    unfold seenStepP
    refine ⟨by rw [List.length_set, i1], fun v hv => ?_⟩
    rcases List.mem_or_eq_of_mem_set hv with h | rfl
    · have := i2 v h; omega
    · by_cases hb : (blk (pr n r)).toNat < (partsSeen n r).length
      · have := i2 _ (List.mem_of_getElem? (show (partsSeen n r)[(blk (pr n r)).toNat]? = some ((partsSeen n r).getD (blk (pr n r)).toNat 0) by rw [List.getD_eq_getElem?_getD, List.getElem?_eq_getElem hb]; rfl))
        omega
      · rw [List.getD_eq_getElem?_getD, List.getElem?_eq_none (by omega)]; simp; omega
theorem countR_small : ∀ n, 1 ≤ n → n ≤ 7 → 1 ≤ countR n ∧ countR n ≤ 1000 := by
  have h : ∀ n : Fin 8, 1 ≤ n.1 → 1 ≤ countR n.1 ∧ countR n.1 ≤ 1000 := by decide +kernel
  intro n h1 h7
  exact h ⟨n, by omega⟩ h1
theorem pr_blk {n : Nat} (h1 : 1 ≤ n) (h7 : n ≤ 7) (r : Nat) : 1 ≤ blk (pr n r) ∧ blk (pr n r) ≤ n := by
  have h := pr_chk h1 h7 r
  refine ⟨(blk_le9 h).1, ?_⟩
  have := blk_le_len _ (chk_ok h).2.2.2
  rwa [pr_len] at this
end Go.Proofs.Ytcmacejpoihhlaa

namespace Go.Proofs.Ytcmacejpoihhlaa
open Go.RowKit

def sumI (l : List Int) : Int := l.foldl (· + ·) 0
@[simp] theorem sumI_nil : sumI [] = 0 := rfl
theorem sumI_snoc (l : List Int) (v : Int) : sumI (l ++ [v]) = sumI l + v := by unfold sumI; rw [List.foldl_append]; rfl
theorem sumI_bd {B : Int} (l : List Int) (h : ∀ x ∈ l, 0 ≤ x ∧ x ≤ B) : 0 ≤ sumI l ∧ sumI l ≤ l.length * B := by
  have key : ∀ (l : List Int) (a : Int), (∀ x ∈ l, 0 ≤ x ∧ x ≤ B) → a ≤ l.foldl (· + ·) a ∧ l.foldl (· + ·) a ≤ a + l.length * B := by
    intro l
    induction l with
    | nil => intro a _; simp
    | cons x l ih =>
      intro a h
      have hx := h x (by simp)
      have := ih (a + x) (fun y hy => h y (by simp [hy]))
      simp only [List.foldl_cons, List.length_cons]
      have e : ((l.length + 1 : Nat) : Int) * B = l.length * B + B := by rw [Int.natCast_add, Int.add_mul]; simp
      omega
  have := key l 0 h
  unfold sumI; omega
theorem sumI_take_bd {B : Int} {l : List Int} (h : ∀ x ∈ l, 0 ≤ x ∧ x ≤ B) (k : Nat) : 0 ≤ sumI (l.take k) ∧ sumI (l.take k) ≤ (l.take k).length * B := sumI_bd _ fun x hx => h x (List.mem_of_mem_take hx)

/-- the error of a stock -/
def okCounts (c : List Int) : Bool := c.all fun x => decide (1 ≤ x) && decide (x ≤ 9)
def chkS (c : List Int) (d : Int) : Int :=
  if c.length = 0 then 6 else if 6 < c.length then 8 else if okCounts c = false then 2 else if 1 ≤ d ∧ d ≤ min 9 (sumI c) then 0 else 2
theorem okCounts_mem {c : List Int} (h : okCounts c = true) : ∀ x ∈ c, 1 ≤ x ∧ x ≤ 9 := by
  unfold okCounts at h
  rw [List.all_eq_true] at h
  intro x hx
  simpa using h x hx
theorem okCounts_sum {c : List Int} (h : okCounts c = true) (h6 : c.length ≤ 6) : 0 ≤ sumI c ∧ sumI c ≤ 54 := by
  have := sumI_bd (B := 9) c (fun x hx => by have := okCounts_mem h x hx; omega)
  omega
theorem chkS_ok {c : List Int} {d : Int} (h : chkS c d = 0) : 1 ≤ c.length ∧ c.length ≤ 6 ∧ okCounts c = true ∧ 1 ≤ d ∧ d ≤ 9 ∧ d ≤ sumI c ∧ sumI c ≤ 54 := by
  unfold chkS at h
  by_cases h1 : c.length = 0
  · rw [if_pos h1] at h; omega
  · rw [if_neg h1] at h
    by_cases h2 : 6 < c.length
    · rw [if_pos h2] at h; omega
    · rw [if_neg h2] at h
      cases h3 : okCounts c with
      | false => rw [if_pos h3] at h; omega
      | true =>
        rw [if_neg (by rw [h3]; simp)] at h
        have := okCounts_sum h3 (by omega)
        by_cases h4 : 1 ≤ d ∧ d ≤ min 9 (sumI c)
        · exact ⟨by omega, by omega, rfl, by omega, by omega, by omega, by omega⟩
        · rw [if_neg h4] at h; omega

/-! ### Choices, one after the other -/
def fallN (f : Int) : Nat → Int
  | 0 => 1
  | k + 1 => fallN f k * (f - k)
theorem fallN_bd {f B : Int} (hf : f ≤ B) (k : Nat) (hk : (k : Int) ≤ f) : 1 ≤ fallN f k ∧ fallN f k ≤ B ^ k := by
  induction k with
  | zero => simp [fallN]
  | succ k ih =>
    have h := ih (by omega)
    have h1 : (1 : Int) ≤ f - k := by omega
    have h2 : f - k ≤ B := by omega
    constructor
    · calc (1 : Int) = 1 * 1 := rfl
        _ ≤ fallN f k * (f - k) := Int.mul_le_mul h.1 h1 (by omega) (by omega)
    · show fallN f k * (f - k) ≤ B ^ (k + 1)
      rw [Int.pow_succ]
      exact Int.mul_le_mul h.2 h2 (by omega) (by omega)
theorem fallN_54 {f : Int} (hf : f ≤ 54) (k : Nat) (hk : (k : Int) ≤ f) (h9 : k ≤ 9) : 1 ≤ fallN f k ∧ fallN f k ≤ 3904305912313344 := by
  have h := fallN_bd hf k hk
  refine ⟨h.1, Int.le_trans h.2 ?_⟩
  have : (54 : Int) ^ k ≤ 54 ^ 9 := by
    have e : ((54 ^ k : Nat) : Int) ≤ ((54 ^ 9 : Nat) : Int) := Int.ofNat_le.2 (Nat.pow_le_pow_right (by omega) h9)
    simpa using e
  refine Int.le_trans this ?_
  decide

def sumN (l : List Int) : Nat := (l.map Int.toNat).foldr (· + ·) 0
theorem sumN_cons (a : Int) (l : List Int) : sumN (a :: l) = a.toNat + sumN l := rfl
theorem sumN_nil : sumN [] = 0 := rfl

/-- in how many ways blocks of these sizes come, each of a kind of its own: what there is of each kind -/
def chanceP : List Int → List Int → Int
  | [], _ => 1
  | s :: ss, l => (List.range l.length).foldl (fun n k => if s ≤ l.getD k 0 then n + fallN (l.getD k 0) s.toNat * chanceP ss (l.set k 0) else n) 0
def chStep (s : Int) (ss l : List Int) (n : Int) (k : Nat) : Int := if s ≤ l.getD k 0 then n + fallN (l.getD k 0) s.toNat * chanceP ss (l.set k 0) else n
def chanceTo (s : Int) (ss l : List Int) (k : Nat) : Int := (List.range k).foldl (chStep s ss l) 0
theorem chanceTo_succ (s : Int) (ss l : List Int) (k : Nat) : chanceTo s ss l (k + 1) = chStep s ss l (chanceTo s ss l k) k := foldl_range_succ _ _ _
theorem chanceP_cons (s : Int) (ss l : List Int) : chanceP (s :: ss) l = chanceTo s ss l l.length := rfl

def chBd (ss : List Int) : Nat := 6 ^ ss.length * 9 ^ sumN ss
theorem chBd_cons (s : Int) (ss : List Int) : chBd (s :: ss) = 6 * (9 ^ s.toNat * chBd ss) := by
  unfold chBd
  rw [sumN_cons, List.length_cons, Nat.pow_succ, Nat.pow_add]
  rw [Nat.mul_comm (6 ^ ss.length) 6, Nat.mul_assoc, Nat.mul_left_comm (6 ^ ss.length)]
theorem chBd_9 {ss : List Int} (h1 : ss.length ≤ 9) (h2 : sumN ss ≤ 9) : chBd ss ≤ 3904305912313344 := by
  unfold chBd
  calc 6 ^ ss.length * 9 ^ sumN ss ≤ 6 ^ 9 * 9 ^ 9 := Nat.mul_le_mul (Nat.pow_le_pow_right (by omega) h1) (Nat.pow_le_pow_right (by omega) h2)
    _ ≤ _ := by decide
/-- what there is of each kind: 0 to 9 -/
def Kinds (l : List Int) : Prop := l.length ≤ 6 ∧ ∀ x ∈ l, 0 ≤ x ∧ x ≤ 9
theorem Kinds.set {l : List Int} (h : Kinds l) (k : Nat) : Kinds (l.set k 0) := by
  refine ⟨by rw [List.length_set]; exact h.1, fun x hx => ?_⟩
  rcases List.mem_or_eq_of_mem_set hx with hx | rfl
  · exact h.2 x hx
  · omega
theorem Kinds.at_ {l : List Int} (h : Kinds l) (k : Nat) : 0 ≤ l.getD k 0 ∧ l.getD k 0 ≤ 9 := by
  rw [List.getD_eq_getElem?_getD]
  cases e : l[k]? with
  | none => simp
  | some v => exact h.2 v (List.mem_of_getElem? e)
theorem chance_term {s v : Int} (hs : 0 ≤ s) (hv : s ≤ v) (h9 : v ≤ 9) {x : Int} {B : Nat} (hx : 0 ≤ x ∧ x ≤ B) : 0 ≤ fallN v s.toNat * x ∧ fallN v s.toNat * x ≤ ((9 ^ s.toNat * B : Nat) : Int) := by
  have h := fallN_bd h9 s.toNat (by omega)
  refine ⟨Int.mul_nonneg (by omega) hx.1, ?_⟩
  rw [Int.natCast_mul]
  refine Int.mul_le_mul ?_ hx.2 hx.1 (Int.natCast_nonneg _)
  have e : ((9 ^ s.toNat : Nat) : Int) = (9 : Int) ^ s.toNat := by simp
  rw [e]; exact h.2
theorem chanceP_bd : ∀ (ss l : List Int), (∀ s ∈ ss, 0 ≤ s) → Kinds l → 0 ≤ chanceP ss l ∧ chanceP ss l ≤ (chBd ss : Int) := by
  intro ss
  induction ss with
  | nil => intro l _ _; exact (show (0 : Int) ≤ 1 ∧ (1 : Int) ≤ ((chBd [] : Nat) : Int) from ⟨by decide, by decide⟩)
  | cons s ss ih =>
    intro l hs hl
    rw [chanceP_cons]
    have key : ∀ k : Nat, 0 ≤ chanceTo s ss l k ∧ chanceTo s ss l k ≤ ((k * (9 ^ s.toNat * chBd ss) : Nat) : Int) := by
      intro k
      induction k with
      | zero => exact ⟨Int.le_refl _, by simp [chanceTo]⟩
      | succ k ihk =>
        rw [chanceTo_succ]
        have e : (k + 1) * (9 ^ s.toNat * chBd ss) = k * (9 ^ s.toNat * chBd ss) + 9 ^ s.toNat * chBd ss := Nat.succ_mul _ _
        unfold chStep
        by_cases h : s ≤ l.getD k 0
        · rw [if_pos h]
          have h1 := chance_term (hs s (by simp)) h (hl.at_ k).2 (ih (l.set k 0) (fun x hx => hs x (by simp [hx])) (hl.set k))
          omega
        · rw [if_neg h]
          omega
    have h := key l.length
    refine ⟨h.1, Int.le_trans h.2 ?_⟩
    rw [chBd_cons]
    exact Int.ofNat_le.2 (Nat.mul_le_mul_right _ hl.1)
theorem chanceTo_bd {s : Int} {ss l : List Int} (hs : ∀ x ∈ s :: ss, 0 ≤ x) (hl : Kinds l) (k : Nat) (hk : k ≤ l.length) : 0 ≤ chanceTo s ss l k ∧ chanceTo s ss l k ≤ (chBd (s :: ss) : Int) := by
  have key : ∀ k : Nat, 0 ≤ chanceTo s ss l k ∧ chanceTo s ss l k ≤ ((k * (9 ^ s.toNat * chBd ss) : Nat) : Int) := by
    intro k
    induction k with
    | zero => exact ⟨Int.le_refl _, by simp [chanceTo]⟩
    | succ k ihk =>
      rw [chanceTo_succ]
      have e : (k + 1) * (9 ^ s.toNat * chBd ss) = k * (9 ^ s.toNat * chBd ss) + 9 ^ s.toNat * chBd ss := Nat.succ_mul _ _
      unfold chStep
      by_cases h : s ≤ l.getD k 0
      · rw [if_pos h]
        have h1 := chance_term (hs s (by simp)) h (hl.at_ k).2 (chanceP_bd ss (l.set k 0) (fun x hx => hs x (by simp [hx])) (hl.set k))
        omega
      · rw [if_neg h]
        omega
  have h := key k
  refine ⟨h.1, Int.le_trans h.2 ?_⟩
  rw [chBd_cons]
  exact Int.ofNat_le.2 (Nat.mul_le_mul_right _ (by have := hl.1; omega))

/-! ### The sizes of the blocks -/
def sizeStep (l : List Int) (b : Int) : List Int := l.set b.toNat (l.getD b.toNat 0 + 1)
def sizesTo (p : List Int) (m k : Nat) : List Int := (p.take k).foldl sizeStep (List.replicate m 0)
def sizesOf (p : List Int) : List Int := sizesTo p (blk p).toNat p.length
theorem sizesTo_succ {p : List Int} {m k : Nat} {v : Int} (h : p[k]? = some v) : sizesTo p m (k + 1) = sizeStep (sizesTo p m k) v := by
  unfold sizesTo; rw [take_of_get h, List.foldl_append]; rfl
theorem sumN_set {l : List Int} {k : Nat} {v : Int} (h : l[k]? = some v) (h0 : 0 ≤ v) : sumN (l.set k (v + 1)) = sumN l + 1 := by
  induction l generalizing k with
  | nil => simp at h
  | cons a l ih =>
    cases k with
    | zero => simp at h; subst h; simp only [List.set_cons_zero, sumN_cons]; omega
    | succ k => simp at h; simp only [List.set_cons_succ, sumN_cons, ih h]; omega
theorem sumN_zero (m : Nat) : sumN (List.replicate m 0) = 0 := by
  induction m with
  | zero => rfl
  | succ m ih => rw [List.replicate_succ, sumN_cons, ih]; rfl
/-- what the counting of the sizes keeps -/
structure SizesOk (m k : Nat) (l : List Int) : Prop where
  len : l.length = m
  sum : sumN l = k
  pos : ∀ x ∈ l, 0 ≤ x ∧ x ≤ k
theorem sizes_ok {p : List Int} {m : Nat} (hp : ∀ v ∈ p, 0 ≤ v ∧ v < m) (k : Nat) (hk : k ≤ p.length) : SizesOk m k (sizesTo p m k) := by
  induction k with
  | zero => exact ⟨by simp [sizesTo], by simp [sizesTo, sumN_zero], fun x hx => by simp [sizesTo] at hx; omega⟩
  | succ k ih =>
    have ih := ih (by omega)
    have hv := get_getD (l := p) (i := k) (by omega)
    have hb := hp _ (getD_mem (l := p) (i := k) (by omega))
    obtain ⟨u, hu⟩ : ∃ u, (sizesTo p m k)[(p.getD k 0).toNat]? = some u := ⟨_, get_getD (by rw [ih.len]; omega)⟩
    have hu0 := ih.pos u (List.mem_of_getElem? hu)
    rw [sizesTo_succ hv]
    unfold sizeStep
    rw [getD_of_get hu]
    refine ⟨by rw [List.length_set]; exact ih.len, by rw [sumN_set hu hu0.1, ih.sum], fun x hx => ?_⟩
    rcases List.mem_or_eq_of_mem_set hx with hx | rfl
    · have := ih.pos x hx; omega
    · omega
theorem sizesOf_ok {p : List Int} (h : chk p = 0) : SizesOk (blk p).toNat p.length (sizesOf p) := by
  have h9 := blk_le9 h
  exact sizes_ok (fun v hv => by have h1 := (chk_ok h).2.2.1 v hv; have h2 := lt_blk hv; omega) p.length (Nat.le_refl _)

/-- what there is of each kind, for six kinds -/
def pad6 (c : List Int) : List Int := c ++ List.replicate (6 - c.length) 0
theorem pad6_len {c : List Int} (h : c.length ≤ 6) : (pad6 c).length = 6 := by unfold pad6; simp; omega
theorem pad6_kinds {c : List Int} (h : c.length ≤ 6) (hc : okCounts c = true) : Kinds (pad6 c) := by
  refine ⟨by rw [pad6_len h]; exact Nat.le_refl _, fun x hx => ?_⟩
  unfold pad6 at hx
  rcases List.mem_append.1 hx with hx | hx
  · have := okCounts_mem hc x hx; omega
  · rw [(List.mem_replicate.1 hx).2]; omega

/-- in how many ways a partition comes -/
def waysOf (c p : List Int) : Int := chanceP (sizesOf p) (pad6 c)
theorem waysOf_bd {c p : List Int} (h6 : c.length ≤ 6) (hc : okCounts c = true) (h : chk p = 0) : 0 ≤ waysOf c p ∧ waysOf c p ≤ 3904305912313344 := by
  have hs := sizesOf_ok h
  have h9 := blk_le9 h
  have hp := chk_ok h
  have h1 := chanceP_bd (sizesOf p) (pad6 c) (fun s hs' => (hs.pos s hs').1) (pad6_kinds h6 hc)
  have h2 := chBd_9 (ss := sizesOf p) (by rw [hs.len]; omega) (by rw [hs.sum]; exact hp.2.1)
  unfold waysOf
  omega

/-! ### The answers of the program -/
def waysE (c : List Int) (d : Int) : Int × Int := if chkS c d ≠ 0 then (0, chkS c d) else (fallN (sumI c) d.toNat, 0)
def chanceE (c : List Int) (d : Int) (p : List Int) : Int × Int :=
  if chkS c d ≠ 0 then (0, chkS c d) else if chk p ≠ 0 then (0, chk p) else if (p.length : Int) ≠ d then (0, 3) else (waysOf c p, 0)
def shapedC (c : List Int) (d : Int) : Int := if chkS c d ≠ 0 then chkS c d else if 6 < d then 8 else 0
def shapesTo (c : List Int) (n k : Nat) : List Int := (List.range k).map fun r => waysOf c (pr n r)
def shapesE (c : List Int) (d : Int) : List Int × Int := if shapedC c d ≠ 0 then ([], shapedC c d) else (shapesTo c d.toNat (countR d.toNat).toNat, 0)
/-- the best of the first k partitions, and in how many ways it comes -/
def bestStep (c : List Int) (n : Nat) (s : List Int × Int) (r : Nat) : List Int × Int := if s.2 < waysOf c (pr n r) then (pr n r, waysOf c (pr n r)) else s
def bestTo (c : List Int) (n k : Nat) : List Int × Int := (List.range k).foldl (bestStep c n) ([], 0)
theorem bestTo_succ (c : List Int) (n k : Nat) : bestTo c n (k + 1) = bestStep c n (bestTo c n k) k := foldl_range_succ _ _ _
theorem shapesTo_succ (c : List Int) (n k : Nat) : shapesTo c n (k + 1) = shapesTo c n k ++ [waysOf c (pr n k)] := by
  unfold shapesTo; rw [List.range_succ, List.map_append]; rfl
end Go.Proofs.Ytcmacejpoihhlaa

namespace Go.Proofs.Ytcmacejpoihhlaa
open Go.RowKit

/-! ### Kinds that are taken -/
def chanceR (c : List Int) : List Int → List Bool → Int
  | [], _ => 1
  | s :: ss, t => (List.range c.length).foldl (fun n k => if (t.getD k false || decide (c.getD k 0 < s)) = true then n else n + fallN (c.getD k 0) s.toNat * chanceR c ss (t.set k true)) 0
def chStepR (c : List Int) (s : Int) (ss : List Int) (t : List Bool) (n : Int) (k : Nat) : Int := if (t.getD k false || decide (c.getD k 0 < s)) = true then n else n + fallN (c.getD k 0) s.toNat * chanceR c ss (t.set k true)
def chanceRTo (c : List Int) (s : Int) (ss : List Int) (t : List Bool) (k : Nat) : Int := (List.range k).foldl (chStepR c s ss t) 0
theorem chanceRTo_succ (c : List Int) (s : Int) (ss : List Int) (t : List Bool) (k : Nat) : chanceRTo c s ss t (k + 1) = chStepR c s ss t (chanceRTo c s ss t k) k := foldl_range_succ _ _ _
theorem chanceR_cons (c : List Int) (s : Int) (ss : List Int) (t : List Bool) : chanceR c (s :: ss) t = chanceRTo c s ss t c.length := rfl
def maskL (c : List Int) (t : List Bool) : List Int := (List.range c.length).map fun k => if t.getD k false = true then 0 else c.getD k 0
theorem maskL_get (c : List Int) (t : List Bool) {k : Nat} (h : k < c.length) : (maskL c t).getD k 0 = if t.getD k false = true then 0 else c.getD k 0 := by
  refine getD_of_get ?_
  unfold maskL
  rw [List.getElem?_map, List.getElem?_range h]; rfl
theorem maskL_len (c : List Int) (t : List Bool) : (maskL c t).length = c.length := by simp [maskL]
theorem getDB_set {t : List Bool} {k j : Nat} (h : k < t.length) : (t.set k true).getD j false = if j = k then true else t.getD j false := by
  simp only [List.getD_eq_getElem?_getD, List.getElem?_set]
  by_cases e : k = j
  · subst e; simp [h]
  · rw [if_neg e, if_neg (by omega)]
theorem maskL_set {c : List Int} {t : List Bool} {k : Nat} (h : k < c.length) (ht : t.length = c.length) : (maskL c t).set k 0 = maskL c (t.set k true) := by
  apply List.ext_getElem?
  intro j
  rw [List.getElem?_set, maskL_len]
  unfold maskL
  rw [List.getElem?_map, List.getElem?_map]
  by_cases hj : j < c.length
  · rw [List.getElem?_range hj]
    simp only [Option.map_some]
    rw [getDB_set (by omega)]
    by_cases e : k = j
    · subst e; simp [h]
    · rw [if_neg e, if_neg (show ¬j = k from fun h => e h.symm)]
  · rw [List.getElem?_eq_none (by simp; omega)]
    by_cases e : k = j
    · omega
    · rw [if_neg e]; rfl
theorem chance_taken (c : List Int) (z : Nat) : ∀ (ss : List Int) (t : List Bool), (∀ s ∈ ss, 1 ≤ s) → t.length = c.length → chanceR c ss t = chanceP ss (maskL c t ++ List.replicate z 0) := by
  intro ss
  induction ss with
  | nil => intro t _ _; rfl
  | cons s ss ih =>
    intro t hs ht
    have hs1 := hs s (by simp)
    rw [chanceR_cons, chanceP_cons]
    have h1 : ∀ k, k ≤ c.length → chanceRTo c s ss t k = chanceTo s ss (maskL c t ++ List.replicate z 0) k := by
      intro k
      induction k with
      | zero => intro _; rfl
      | succ k ihk =>
        intro hk
        rw [chanceRTo_succ, chanceTo_succ, ihk (by omega)]
        have hg : (maskL c t ++ List.replicate z 0).getD k 0 = if t.getD k false = true then 0 else c.getD k 0 := by
          rw [← maskL_get c t (by omega)]
          simp only [List.getD_eq_getElem?_getD]
          rw [List.getElem?_append_left (by rw [maskL_len]; omega)]
        have hst : (maskL c t ++ List.replicate z 0).set k 0 = maskL c (t.set k true) ++ List.replicate z 0 := by
          rw [← maskL_set (by omega) ht, List.set_append_left _ _ (by rw [maskL_len]; omega)]
        unfold chStepR chStep
        rw [hg, hst, ← ih (t.set k true) (fun x hx => hs x (by simp [hx])) (by rw [List.length_set]; exact ht)]
        cases t.getD k false
        · by_cases hc : c.getD k 0 < s
          · rw [if_pos (show (false || decide (c.getD k 0 < s)) = true by rw [Bool.false_or]; exact decide_eq_true hc), if_neg (show ¬s ≤ (if false = true then 0 else c.getD k 0) by rw [if_neg (by decide)]; omega)]
          · rw [if_neg (show ¬(false || decide (c.getD k 0 < s)) = true by rw [Bool.false_or, decide_eq_true_eq]; exact hc), if_pos (show s ≤ (if false = true then 0 else c.getD k 0) by rw [if_neg (by decide)]; omega), if_neg (by decide)]
        · rw [if_pos (by simp), if_neg (show ¬s ≤ (if true = true then 0 else c.getD k 0) by rw [if_pos rfl]; omega)]
    have h2 : ∀ m, m ≤ z → chanceTo s ss (maskL c t ++ List.replicate z 0) (c.length + m) = chanceTo s ss (maskL c t ++ List.replicate z 0) c.length := by
      intro m
      induction m with
      | zero => intro _; rfl
      | succ m ihm =>
        intro hm
        rw [show c.length + (m + 1) = c.length + m + 1 by omega, chanceTo_succ, ihm (by omega)]
        have hg : (maskL c t ++ List.replicate z 0).getD (c.length + m) 0 = 0 := by
          refine getD_of_get ?_
          rw [List.getElem?_append_right (by rw [maskL_len]; omega), maskL_len, List.getElem?_replicate, if_pos (by omega)]
        unfold chStep
        rw [hg, if_neg (by omega)]
    rw [h1 _ (Nat.le_refl _), List.length_append, maskL_len, List.length_replicate, h2 z (Nat.le_refl _)]
theorem maskL_none (c : List Int) : maskL c (List.replicate c.length false) = c := by
  apply List.ext_getElem?
  intro j
  unfold maskL
  rw [List.getElem?_map]
  by_cases hj : j < c.length
  · rw [List.getElem?_range hj]
    simp only [Option.map_some]
    have : (List.replicate c.length false).getD j false = false := by rw [List.getD_eq_getElem?_getD, List.getElem?_replicate, if_pos hj]; rfl
    rw [this, if_neg (by simp), get_getD hj]
  · rw [List.getElem?_eq_none (by simp; omega), List.getElem?_eq_none (by omega)]; rfl
theorem chance_ref {c ss : List Int} (hs : ∀ s ∈ ss, 1 ≤ s) : chanceR c ss (List.replicate c.length false) = chanceP ss (pad6 c) := by
  rw [chance_taken c (6 - c.length) ss _ hs (by simp), maskL_none]; rfl

/-! ### Kinds in another order -/
def sumAt (h : Int → List Int → Int) : List Int → Int
  | [] => 0
  | a :: l => h a (0 :: l) + sumAt (fun x m => h x (a :: m)) l
theorem sumAt_range (l : List Int) : ∀ h : Int → List Int → Int, (List.range l.length).foldl (fun n k => n + h (l.getD k 0) (l.set k 0)) 0 = sumAt h l := by
  have shift : ∀ (f : Nat → Int) (m : Nat) (a : Int), (List.range m).foldl (fun n k => n + f k) a = a + (List.range m).foldl (fun n k => n + f k) 0 := by
    intro f m
    induction m with
    | zero => intro a; simp
    | succ m ih => intro a; rw [List.range_succ, List.foldl_append, List.foldl_append, ih a]; simp; omega
  have split : ∀ (f : Nat → Int) (m : Nat), (List.range (m + 1)).foldl (fun n k => n + f k) 0 = f 0 + (List.range m).foldl (fun n k => n + f (k + 1)) 0 := by
    intro f m
    induction m with
    | zero => simp
    | succ m ih => rw [List.range_succ, List.foldl_append, ih, List.range_succ (n := m), List.foldl_append]; simp; omega
  induction l with
  | nil => intro h; rfl
  | cons a l ih =>
    intro h
    rw [List.length_cons, split (fun k => h ((a :: l).getD k 0) ((a :: l).set k 0)) l.length]
    simp only [sumAt]
    rw [← ih (fun x m => h x (a :: m))]
    rfl
def PermInv (h : Int → List Int → Int) : Prop := ∀ x m m', m.Perm m' → h x m = h x m'
theorem sumAt_perm {l l' : List Int} (hp : l.Perm l') : ∀ h, PermInv h → sumAt h l = sumAt h l' := by
  induction hp with
  | nil => intro h _; rfl
  | cons a _ ih =>
    rename_i l1 l2 hp
    intro h hh
    simp only [sumAt]
    rw [hh a (0 :: l1) (0 :: l2) (hp.cons 0), ih _ (fun x m m' hm => hh x _ _ (hm.cons a))]
  | swap a b l =>
    intro h hh
    simp only [sumAt]
    have e1 : h b (0 :: a :: l) = h b (a :: 0 :: l) := hh b _ _ (List.Perm.swap a 0 l)
    have e2 : h a (b :: 0 :: l) = h a (0 :: b :: l) := hh a _ _ (List.Perm.swap 0 b l)
    have e3 : (fun x m => h x (b :: a :: m)) = (fun x m => h x (a :: b :: m)) := by
      funext x m; exact hh x _ _ (List.Perm.swap a b m)
    rw [e1, e2, e3]; omega
  | trans _ _ ih1 ih2 => intro h hh; rw [ih1 h hh, ih2 h hh]
theorem chanceP_sumAt (s : Int) (ss l : List Int) : chanceP (s :: ss) l = sumAt (fun x m => if s ≤ x then fallN x s.toNat * chanceP ss m else 0) l := by
  rw [← sumAt_range, chanceP_cons]
  unfold chanceTo
  congr 1
  funext n k
  unfold chStep
  split <;> omega
theorem chanceP_perm : ∀ (ss : List Int) {l l' : List Int}, l.Perm l' → chanceP ss l = chanceP ss l' := by
  intro ss
  induction ss with
  | nil => intro l l' _; rfl
  | cons s ss ih =>
    intro l l' h
    rw [chanceP_sumAt, chanceP_sumAt]
    refine sumAt_perm h _ fun x m m' hm => ?_
    show (if s ≤ x then fallN x s.toNat * chanceP ss m else 0) = if s ≤ x then fallN x s.toNat * chanceP ss m' else 0
    rw [ih hm]
theorem waysOf_perm {c c' : List Int} (h : c.Perm c') (p : List Int) : waysOf c p = waysOf c' p := by
  unfold waysOf pad6
  rw [h.length_eq]
  exact chanceP_perm _ (h.append_right _)
theorem sumI_perm {c c' : List Int} (h : c.Perm c') : sumI c = sumI c' := by
  have key : ∀ (a : Int), c.foldl (· + ·) a = c'.foldl (· + ·) a := by
    induction h with
    | nil => intro a; rfl
    | cons x _ ih => intro a; exact ih _
    | swap x y l => intro a; simp only [List.foldl_cons]; rw [show a + y + x = a + x + y by omega]
    | trans _ _ ih1 ih2 => intro a; rw [ih1, ih2]
  exact key 0
theorem okCounts_perm {c c' : List Int} (h : c.Perm c') : okCounts c = okCounts c' := by
  unfold okCounts
  exact h.all_eq
theorem chkS_perm {c c' : List Int} (h : c.Perm c') (d : Int) : chkS c d = chkS c' d := by
  unfold chkS; rw [h.length_eq, okCounts_perm h, sumI_perm h]
theorem shapesE_perm {c c' : List Int} (h : c.Perm c') (d : Int) : shapesE c d = shapesE c' d := by
  unfold shapesE shapedC shapesTo
  rw [chkS_perm h]
  simp only [fun p => waysOf_perm h p]
theorem bestTo_perm {c c' : List Int} (h : c.Perm c') (n k : Nat) : bestTo c n k = bestTo c' n k := by
  unfold bestTo
  congr 1
  funext s r
  unfold bestStep
  rw [waysOf_perm h]

/-! ### The best -/
structure BestOk (c : List Int) (n k : Nat) (s : List Int × Int) : Prop where
  most : ∀ r, r < k → waysOf c (pr n r) ≤ s.2
  pos : 0 ≤ s.2
  at_ : s.2 = 0 ∧ s.1 = [] ∨ 0 < s.2 ∧ ∃ r, r < k ∧ s = (pr n r, waysOf c (pr n r)) ∧ ∀ j, j < r → waysOf c (pr n j) < s.2
theorem best_ok (c : List Int) (n k : Nat) : BestOk c n k (bestTo c n k) := by
  induction k with
  | zero => exact ⟨fun r hr => by omega, Int.le_refl _, .inl ⟨rfl, rfl⟩⟩
  | succ k ih =>
    rw [bestTo_succ]
    unfold bestStep
    by_cases h : (bestTo c n k).2 < waysOf c (pr n k)
    · rw [if_pos h]
      have hp := ih.pos
      refine ⟨fun r hr => ?_, by simp only; omega, .inr ⟨by simp only; omega, k, by omega, rfl, fun j hj => ?_⟩⟩
      · simp only
        by_cases e : r = k
        · subst e; omega
        · have := ih.most r (by omega); omega
      · have := ih.most j hj; simp only; omega
    · rw [if_neg h]
      refine ⟨fun r hr => ?_, ih.pos, ?_⟩
      · by_cases e : r = k
        · subst e; omega
        · exact ih.most r (by omega)
      · rcases ih.at_ with h1 | ⟨h1, r, h2, h3, h4⟩
        · exact .inl h1
        · exact .inr ⟨h1, r, by omega, h3, h4⟩

/-! ### One packet more -/
theorem fall_zero {f : Int} (h0 : 0 ≤ f) (k : Nat) (hk : f < k) : fallN f k = 0 := by
  induction k with
  | zero => omega
  | succ k ih =>
    show fallN f k * (f - k) = 0
    by_cases e : f = k
    · rw [e, Int.sub_self, Int.mul_zero]
    · rw [ih (by omega), Int.zero_mul]
end Go.Proofs.Ytcmacejpoihhlaa

namespace Go.Proofs.Ytcmacejpoihhlaa
open Go.RowKit

/-! ### Sums -/
def sumR (f : Nat → Int) (k : Nat) : Int := (List.range k).foldl (fun n i => n + f i) 0
theorem sumR_zero (f : Nat → Int) : sumR f 0 = 0 := rfl
theorem sumR_succ (f : Nat → Int) (k : Nat) : sumR f (k + 1) = sumR f k + f k := foldl_range_succ _ _ _
theorem sumR_congr {f g : Nat → Int} {k : Nat} (h : ∀ i, i < k → f i = g i) : sumR f k = sumR g k := by
  induction k with
  | zero => rfl
  | succ k ih => rw [sumR_succ, sumR_succ, ih (fun i hi => h i (by omega)), h k (by omega)]
theorem sumR_add (f g : Nat → Int) (k : Nat) : sumR (fun i => f i + g i) k = sumR f k + sumR g k := by
  induction k with
  | zero => rfl
  | succ k ih => simp only [sumR_succ, ih]; omega
theorem sumR_mul (a : Int) (f : Nat → Int) (k : Nat) : sumR (fun i => a * f i) k = a * sumR f k := by
  induction k with
  | zero => simp [sumR]
  | succ k ih => simp only [sumR_succ, ih, Int.mul_add]
theorem sumR_mul' (a : Int) (f : Nat → Int) (k : Nat) : sumR (fun i => f i * a) k = sumR f k * a := by
  rw [Int.mul_comm, ← sumR_mul]; exact sumR_congr fun i _ => Int.mul_comm _ _
theorem sumR_cons (f : Nat → Int) (k : Nat) : sumR f (k + 1) = f 0 + sumR (fun i => f (i + 1)) k := by
  induction k with
  | zero => simp [sumR_succ, sumR_zero]
  | succ k ih => rw [sumR_succ, ih, sumR_succ]; omega
theorem sumR_const0 (k : Nat) : sumR (fun _ => 0) k = 0 := by
  induction k with
  | zero => rfl
  | succ k ih => rw [sumR_succ, ih]; rfl
theorem sumR_swap (f : Nat → Nat → Int) (n m : Nat) : sumR (fun i => sumR (fun j => f i j) m) n = sumR (fun j => sumR (fun i => f i j) n) m := by
  induction n with
  | zero => simp only [sumR_zero]; exact (sumR_const0 m).symm
  | succ n ih => simp only [sumR_succ]; rw [sumR_add, ih]
theorem sumI_cons (x : Int) (l : List Int) : sumI (x :: l) = x + sumI l := by
  have key : ∀ (l : List Int) (a : Int), l.foldl (· + ·) a = a + sumI l := by
    intro l
    induction l with
    | nil => intro a; simp
    | cons y l ih => intro a; rw [List.foldl_cons, ih, show sumI (y :: l) = l.foldl (· + ·) (0 + y) from rfl, ih]; omega
  show l.foldl (· + ·) (0 + x) = _
  rw [key]; omega
theorem sumI_append (a b : List Int) : sumI (a ++ b) = sumI a + sumI b := by
  induction a with
  | nil => simp
  | cons x a ih => rw [List.cons_append, sumI_cons, sumI_cons, ih]; omega
theorem sumI_zeros (m : Nat) : sumI (List.replicate m 0) = 0 := by
  induction m with
  | zero => rfl
  | succ m ih => rw [List.replicate_succ, sumI_cons, ih]; rfl
theorem sumI_sumR (l : List Int) : sumI l = sumR (fun k => l.getD k 0) l.length := by
  induction l with
  | nil => rfl
  | cons x l ih => rw [sumI_cons, List.length_cons, sumR_cons, ih]; rfl
theorem sumI_set {l : List Int} {k : Nat} (h : k < l.length) (v : Int) : sumI (l.set k v) = sumI l - l.getD k 0 + v := by
  induction l generalizing k with
  | nil => simp at h
  | cons x l ih =>
    cases k with
    | zero => rw [List.set_cons_zero, sumI_cons, sumI_cons]; simp; omega
    | succ k =>
      rw [List.set_cons_succ, sumI_cons, sumI_cons, ih (by simpa using h)]
      simp; omega
theorem sumI_pad (c : List Int) : sumI (pad6 c) = sumI c := by unfold pad6; rw [sumI_append, sumI_zeros]; omega

/-! ### One packet more -/
theorem chanceP_sumR (s : Int) (ss l : List Int) : chanceP (s :: ss) l = sumR (fun k => if s ≤ l.getD k 0 then fallN (l.getD k 0) s.toNat * chanceP ss (l.set k 0) else 0) l.length := by
  rw [chanceP_cons]
  unfold chanceTo sumR
  congr 1
  funext n k
  show chStep s ss l n k = n + if s ≤ l.getD k 0 then fallN (l.getD k 0) s.toNat * chanceP ss (l.set k 0) else 0
  unfold chStep
  by_cases h : s ≤ l.getD k 0
  · rw [if_pos h, if_pos h]
  · rw [if_neg h, if_neg h]; omega
def incAt (ss : List Int) (i : Nat) : List Int := ss.set i (ss.getD i 0 + 1)
theorem chance_more : ∀ (ss l : List Int), (∀ s ∈ ss, 0 ≤ s) → (∀ x ∈ l, 0 ≤ x) → sumR (fun i => chanceP (incAt ss i) l) ss.length + chanceP (ss ++ [1]) l = chanceP ss l * (sumI l - sumI ss) := by
  intro ss
  induction ss with
  | nil =>
    intro l _ hl
    rw [List.length_nil, sumR_zero, List.nil_append, chanceP_sumR, sumI_nil]
    rw [show chanceP [] l = 1 from rfl, sumI_sumR l]
    rw [sumR_congr (g := fun k => l.getD k 0)]
    · omega
    · intro k hk
      have h0 := hl _ (getD_mem hk)
      by_cases h : 1 ≤ l.getD k 0
      · rw [if_pos h]; show 1 * (l.getD k 0 - 0) * 1 = _; omega
      · rw [if_neg h]; omega
  | cons s ss ih =>
    intro l hs hl
    have hs0 := hs s (by simp)
    have hss : ∀ x ∈ ss, 0 ≤ x := fun x hx => hs x (by simp [hx])
    rw [List.length_cons, sumR_cons]
    have e0 : chanceP (incAt (s :: ss) 0) l = chanceP ((s + 1) :: ss) l := rfl
    have e1 : sumR (fun i => chanceP (incAt (s :: ss) (i + 1)) l) ss.length = sumR (fun i => chanceP (s :: incAt ss i) l) ss.length := rfl
    have e2 : sumR (fun i => chanceP (s :: incAt ss i) l) ss.length = sumR (fun k => sumR (fun i => if s ≤ l.getD k 0 then fallN (l.getD k 0) s.toNat * chanceP (incAt ss i) (l.set k 0) else 0) ss.length) l.length := by
      rw [← sumR_swap]
      exact sumR_congr fun i _ => chanceP_sumR _ _ _
    rw [e0, e1, e2, List.cons_append, chanceP_sumR (s + 1), chanceP_sumR s (ss ++ [1]), chanceP_sumR s ss, ← sumR_mul', Int.add_assoc, ← sumR_add, ← sumR_add]
    refine sumR_congr fun k hk => ?_
    have ih := ih (l.set k 0) hss (fun x hx => by
      rcases List.mem_or_eq_of_mem_set hx with hx | rfl
      · exact hl x hx
      · omega)
    rw [sumI_set hk] at ih
    rw [sumI_cons]
    by_cases h : s ≤ l.getD k 0
    · simp only [if_pos h]
      rw [sumR_mul]
      generalize sumR (fun i => chanceP (incAt ss i) (l.set k 0)) ss.length = X at ih ⊢
      generalize chanceP (ss ++ [1]) (l.set k 0) = Y at ih ⊢
      generalize chanceP ss (l.set k 0) = Z at ih ⊢
      have hf : (if s + 1 ≤ l.getD k 0 then fallN (l.getD k 0) (s + 1).toNat * Z else 0) = fallN (l.getD k 0) s.toNat * (l.getD k 0 - s) * Z := by
        have et : (s + 1).toNat = s.toNat + 1 := by omega
        have e3 : fallN (l.getD k 0) (s.toNat + 1) = fallN (l.getD k 0) s.toNat * (l.getD k 0 - s) := by
          show fallN (l.getD k 0) s.toNat * (l.getD k 0 - (s.toNat : Int)) = _
          rw [show ((s.toNat : Nat) : Int) = s by omega]
        by_cases h2 : s + 1 ≤ l.getD k 0
        · rw [if_pos h2, et, e3]
        · rw [if_neg h2, show l.getD k 0 - s = 0 by omega]; simp
      rw [hf]
      generalize fallN (l.getD k 0) s.toNat = F
      generalize l.getD k 0 = v at ih ⊢
      have : X + Y = Z * (sumI l - v + 0 - sumI ss) := ih
      have hy : Y = Z * (sumI l - v + 0 - sumI ss) - X := by omega
      rw [hy]
      simp only [Int.mul_add, Int.mul_sub, Int.mul_assoc, Int.mul_zero, Int.mul_comm, Int.mul_left_comm]
      omega
    · simp only [if_neg h, if_neg (show ¬ s + 1 ≤ l.getD k 0 by omega)]
      rw [sumR_const0]; simp

/-! ### The sizes of a partition that goes on -/
theorem sizesTo_take (p : List Int) (x : Int) (m k : Nat) (hk : k ≤ p.length) : sizesTo (p ++ [x]) m k = sizesTo p m k := by
  unfold sizesTo; rw [List.take_append_of_le_length hk]
theorem sizesTo_wide {p : List Int} {m : Nat} (hp : ∀ v ∈ p, 0 ≤ v ∧ v < m) (k : Nat) (hk : k ≤ p.length) : sizesTo p (m + 1) k = sizesTo p m k ++ [0] := by
  induction k with
  | zero => simp [sizesTo, List.replicate_succ']
  | succ k ih =>
    have hv := get_getD (l := p) (i := k) (by omega)
    have hb := hp _ (getD_mem (l := p) (i := k) (by omega))
    have hok := sizes_ok hp k (by omega)
    rw [sizesTo_succ hv, sizesTo_succ hv, ih (by omega)]
    unfold sizeStep
    have hl : (p.getD k 0).toNat < (sizesTo p m k).length := by rw [hok.len]; omega
    rw [List.set_append_left _ _ hl]
    congr 2
    simp only [List.getD_eq_getElem?_getD]
    rw [List.getElem?_append_left (by simpa using hl)]
theorem sizes_more {q : List Int} (h : chk q = 0) {b : Nat} (hb : (b : Int) ≤ blk q) : sizesOf (q ++ [(b : Int)]) = if (b : Int) < blk q then incAt (sizesOf q) b else sizesOf q ++ [1] := by
  have h9 := blk_le9 h
  have hm : ∀ v ∈ q, 0 ≤ v ∧ v < ((blk q).toNat : Int) := fun v hv => by have h1 := (chk_ok h).2.2.1 v hv; have h2 := lt_blk hv; omega
  unfold sizesOf
  rw [blk_snoc]
  have hget : (q ++ [(b : Int)])[q.length]? = some (b : Int) := by rw [List.getElem?_append_right (Nat.le_refl _), Nat.sub_self]; rfl
  rw [show (q ++ [(b : Int)]).length = q.length + 1 by simp, sizesTo_succ hget, sizesTo_take _ _ _ _ (Nat.le_refl _)]
  by_cases hlt : (b : Int) < blk q
  · rw [if_pos hlt, show (max (blk q) ((b : Int) + 1)).toNat = (blk q).toNat by omega]
    unfold sizeStep incAt
    rw [Int.toNat_natCast]
  · rw [if_neg hlt, show (max (blk q) ((b : Int) + 1)).toNat = (blk q).toNat + 1 by omega, sizesTo_wide hm _ (Nat.le_refl _)]
    have hl := (sizes_ok hm q.length (Nat.le_refl _)).len
    unfold sizeStep
    rw [Int.toNat_natCast, show b = (blk q).toNat by omega]
    rw [List.set_append_right _ _ (by omega)]
    simp [hl]
theorem ways_more {c q : List Int} (hc : okCounts c = true) (h6 : c.length ≤ 6) (h : chk q = 0) : sumR (fun b => waysOf c (q ++ [(b : Int)])) ((blk q).toNat + 1) = waysOf c q * (sumI c - q.length) := by
  have h9 := blk_le9 h
  have hs := sizesOf_ok h
  have hsum : sumI (sizesOf q) = q.length := by
    have key : ∀ l : List Int, (∀ x ∈ l, 0 ≤ x) → sumI l = (sumN l : Int) := by
      intro l
      induction l with
      | nil => intro _; rfl
      | cons x l ih => intro hl; have := hl x (by simp); rw [sumI_cons, sumN_cons, ih (fun y hy => hl y (by simp [hy]))]; omega
    rw [key _ (fun x hx => (hs.pos x hx).1), hs.sum]
  have hm := chance_more (sizesOf q) (pad6 c) (fun s hs' => (hs.pos s hs').1) (fun x hx => ((pad6_kinds h6 hc).2 x hx).1)
  rw [sumI_pad, hsum, hs.len] at hm
  unfold waysOf
  rw [← hm, sumR_succ]
  congr 1
  · refine sumR_congr fun b hb => ?_
    rw [sizes_more h (by omega), if_pos (by omega)]
  · rw [sizes_more h (by omega), if_neg (by omega)]

/-! ### All partitions -/
def sumOn (L : List (List Int)) (f : List Int → Int) : Int := (L.map f).foldr (· + ·) 0
theorem sumOn_cons (a : List Int) (L : List (List Int)) (f : List Int → Int) : sumOn (a :: L) f = f a + sumOn L f := rfl
theorem sumOn_append (A B : List (List Int)) (f : List Int → Int) : sumOn (A ++ B) f = sumOn A f + sumOn B f := by
  induction A with
  | nil => simp [sumOn]
  | cons a A ih => rw [List.cons_append, sumOn_cons, sumOn_cons, ih]; omega
theorem sumOn_congr {L : List (List Int)} {f g : List Int → Int} (h : ∀ q ∈ L, f q = g q) : sumOn L f = sumOn L g := by
  induction L with
  | nil => rfl
  | cons a L ih => rw [sumOn_cons, sumOn_cons, h a (by simp), ih (fun q hq => h q (by simp [hq]))]
theorem sumOn_mul (L : List (List Int)) (f : List Int → Int) (a : Int) : sumOn L (fun q => f q * a) = sumOn L f * a := by
  induction L with
  | nil => simp [sumOn]
  | cons x L ih => rw [sumOn_cons, sumOn_cons, ih, Int.add_mul]
theorem sumOn_range (g : Nat → List Int) (f : List Int → Int) (k : Nat) : sumOn ((List.range k).map g) f = sumR (fun b => f (g b)) k := by
  induction k with
  | zero => rfl
  | succ k ih => rw [List.range_succ, List.map_append, sumOn_append, ih, sumR_succ]; simp [sumOn]
def goOn (q : List Int) : List (List Int) := (List.range ((blk q).toNat + 1)).map fun (b : Nat) => q ++ [(b : Int)]
theorem sumOn_goOn (L : List (List Int)) (f : List Int → Int) : sumOn (L.flatMap goOn) f = sumOn L fun q => sumR (fun b => f (q ++ [(b : Int)])) ((blk q).toNat + 1) := by
  induction L with
  | nil => rfl
  | cons a L ih => rw [List.flatMap_cons, sumOn_append, sumOn_cons, ih]; unfold goOn; rw [sumOn_range]
def allP (n : Nat) : List (List Int) := (List.range (countR n).toNat).map (pr n)
theorem allP_1 : allP 1 = [[0]] := by decide +kernel
theorem allP_2 : allP 2 = (allP 1).flatMap goOn := by decide +kernel
theorem allP_3 : allP 3 = (allP 2).flatMap goOn := by decide +kernel
theorem allP_4 : allP 4 = (allP 3).flatMap goOn := by decide +kernel
theorem allP_5 : allP 5 = (allP 4).flatMap goOn := by decide +kernel
theorem allP_6 : allP 6 = (allP 5).flatMap goOn := by decide +kernel
theorem allP_next {n : Nat} (h1 : 1 ≤ n) (h5 : n ≤ 5) : allP (n + 1) = (allP n).flatMap goOn := by
  match n, h1, h5 with
  | 1, _, _ => exact allP_2
  | 2, _, _ => exact allP_3
  | 3, _, _ => exact allP_4
  | 4, _, _ => exact allP_5
  | 5, _, _ => exact allP_6
theorem allP_mem {n : Nat} (h1 : 1 ≤ n) (h7 : n ≤ 7) {q : List Int} (h : q ∈ allP n) : chk q = 0 ∧ q.length = n := by
  unfold allP at h
  rw [List.mem_map] at h
  obtain ⟨r, _, rfl⟩ := h
  exact ⟨pr_chk h1 h7 r, pr_len n r⟩
/-- ALL WAYS: those of all partitions together. -/
theorem ways_all {c : List Int} (hc : okCounts c = true) (h6 : c.length ≤ 6) : ∀ n, 1 ≤ n → n ≤ 6 → sumOn (allP n) (waysOf c) = fallN (sumI c) n := by
  intro n
  induction n with
  | zero => intro h; omega
  | succ n ih =>
    intro _ h
    by_cases h0 : n = 0
    · subst h0
      rw [allP_1]
      have h1 : waysOf c [0] = sumI c := by
        have hm := chance_more [] (pad6 c) (by simp) (fun x hx => ((pad6_kinds h6 hc).2 x hx).1)
        rw [sumI_pad] at hm
        have hs : sizesOf [0] = [1] := by decide +kernel
        unfold waysOf
        rw [hs]
        simp only [List.length_nil, sumR_zero, List.nil_append, sumI_nil] at hm
        rw [show chanceP [] (pad6 c) = 1 from rfl] at hm
        omega
      rw [sumOn_cons, h1]
      show sumI c + 0 = 1 * (sumI c - ((0 : Nat) : Int))
      simp
    · rw [allP_next (by omega) (by omega), sumOn_goOn, sumOn_congr (g := fun q => waysOf c q * (sumI c - n))]
      · rw [sumOn_mul, ih (by omega) (by omega)]; rfl
      · intro q hq
        obtain ⟨h1, h2⟩ := allP_mem (by omega) (by omega) hq
        rw [ways_more hc h6 h1, h2]
theorem sumOn_pos {L : List (List Int)} {f : List Int → Int} (h : 0 < sumOn L f) : ∃ q ∈ L, 0 < f q := by
  induction L with
  | nil => simp [sumOn] at h
  | cons a L ih =>
    rw [sumOn_cons] at h
    by_cases h1 : 0 < f a
    · exact ⟨a, by simp, h1⟩
    · obtain ⟨q, hq, h2⟩ := ih (by omega)
      exact ⟨q, by simp [hq], h2⟩
/-- SOME PARTITION HAS A WAY: the best one has. -/
theorem best_pos {c : List Int} {n : Nat} (hc : okCounts c = true) (h6 : c.length ≤ 6) (h54 : sumI c ≤ 54) (h1 : 1 ≤ n) (hn : n ≤ 6) (hle : (n : Int) ≤ sumI c) : 0 < (bestTo c n (countR n).toNat).2 := by
  have hw := ways_all hc h6 n h1 hn
  have hf := (fallN_54 h54 n hle (by omega)).1
  obtain ⟨q, hq, h2⟩ := sumOn_pos (L := allP n) (f := waysOf c) (by omega)
  unfold allP at hq
  rw [List.mem_map] at hq
  obtain ⟨r, hr, rfl⟩ := hq
  have := (best_ok c n (countR n).toNat).most r (by simpa using hr)
  omega
end Go.Proofs.Ytcmacejpoihhlaa

namespace Go.Proofs.Ytcmacejpoihhlaa
open Go.RowKit

/-! ### The most that counting tells -/
def mxC (l : List Int) : Int := l.foldl max 0
theorem mxC_snoc (l : List Int) (v : Int) : mxC (l ++ [v]) = max (mxC l) v := by unfold mxC; rw [List.foldl_append]; rfl
theorem mxC_mx {a : Int} (r : List Int) (h : 0 ≤ a) : mx a r = mxC (a :: r) := by unfold mx mxC; rw [List.foldl_cons, show max 0 a = a by omega]
theorem foldl_max_ge (l : List Int) : ∀ a : Int, a ≤ l.foldl max a ∧ (∀ v ∈ l, v ≤ l.foldl max a) ∧ (l.foldl max a = a ∨ l.foldl max a ∈ l) := by
  induction l with
  | nil => intro a; exact ⟨Int.le_refl _, by simp, .inl rfl⟩
  | cons x l ih =>
    intro a
    obtain ⟨h1, h2, h3⟩ := ih (max a x)
    rw [List.foldl_cons]
    refine ⟨by omega, fun v hv => ?_, ?_⟩
    · rcases List.mem_cons.1 hv with rfl | hv
      · omega
      · exact h2 v hv
    · rcases h3 with h3 | h3
      · by_cases hx : a ≤ x
        · right; rw [h3, show max a x = x by omega]; simp
        · left; rw [h3]; omega
      · right; simp [h3]
theorem mxC_ge {l : List Int} {v : Int} (h : v ∈ l) : v ≤ mxC l := (foldl_max_ge l 0).2.1 v h
theorem mxC_nn (l : List Int) : 0 ≤ mxC l := (foldl_max_ge l 0).1
theorem mxC_mem {l : List Int} (h : 0 < l.length) (hp : ∀ v ∈ l, 0 ≤ v) : mxC l ∈ l := by
  rcases (foldl_max_ge l 0).2.2 with h1 | h1
  · match l, h with
    | a :: l, _ =>
      have := mxC_ge (l := a :: l) (v := a) (by simp)
      have h0 := hp a (by simp)
      unfold mxC at this ⊢
      rw [h1] at this ⊢
      have : a = 0 := by omega
      subst this; simp
  · exact h1
def mostN (c : List Int) (d : Int) : Int := max 0 (d - sumI c + mxC c)
def cntV (m d : Int) : Int := if m = d then 1 else if m = 0 then 2 else 3
/-- what Counted answers: the verdict, the most, the error -/
def countedE (c : List Int) (d : Int) : Int × Int × Int := if chkS c d ≠ 0 then (0, 0, chkS c d) else (cntV (mostN c d) d, mostN c d, 0)
def mostTo (c : List Int) (d : Int) (k : Nat) : Int := (List.range k).foldl (fun m j => max m (d - (sumI c - c.getD j 0))) 0
theorem mostTo_succ (c : List Int) (d : Int) (k : Nat) : mostTo c d (k + 1) = max (mostTo c d k) (d - (sumI c - c.getD k 0)) := foldl_range_succ _ _ _
theorem mostTo_take {c : List Int} {d : Int} (h : d ≤ sumI c) (k : Nat) (hk : k ≤ c.length) : mostTo c d k = max 0 (d - sumI c + mxC (c.take k)) := by
  induction k with
  | zero => simp [mostTo, mxC]; omega
  | succ k ih =>
    rw [mostTo_succ, ih (by omega), take_of_get (get_getD (l := c) (i := k) (by omega)), mxC_snoc]
    omega
theorem mostTo_all {c : List Int} {d : Int} (h : d ≤ sumI c) : mostTo c d c.length = mostN c d := by
  rw [mostTo_take h _ (Nat.le_refl _), List.take_length]; rfl
theorem sumI_nonneg : ∀ c : List Int, (∀ v ∈ c, 0 ≤ v) → 0 ≤ sumI c := by
  intro c
  induction c with
  | nil => intro _; simp
  | cons x c ih => intro h; rw [sumI_cons]; have := h x (by simp); have := ih (fun v hv => h v (by simp [hv])); omega
theorem sum_ge_mem {c : List Int} (hp : ∀ v ∈ c, 0 ≤ v) : ∀ v ∈ c, v ≤ sumI c := by
  induction c with
  | nil => simp
  | cons x c ih =>
    intro v hv
    have hx := hp x (by simp)
    have hs := sumI_nonneg c (fun v hv => hp v (by simp [hv]))
    rw [sumI_cons]
    rcases List.mem_cons.1 hv with rfl | hv
    · omega
    · have := ih (fun v hv => hp v (by simp [hv])) v hv; omega
theorem mostN_bd {c : List Int} {d : Int} (h : chkS c d = 0) : 0 ≤ mostN c d ∧ mostN c d ≤ d := by
  have hk := chkS_ok h
  have hm := mxC_mem (l := c) (by omega) (fun v hv => by have := okCounts_mem hk.2.2.1 v hv; omega)
  have := sum_ge_mem (fun v hv => by have := okCounts_mem hk.2.2.1 v hv; omega) _ hm
  unfold mostN; omega

/-! ### What is left -/
def restStep (l : List Int) (k : Int) : List Int := l.set k.toNat (l.getD k.toNat 0 - 1)
def leftTo (c seen : List Int) (j : Nat) : List Int := (seen.take j).foldl restStep c
def restTo (c seen : List Int) (j : Nat) : List Int := leftTo (pad6 c) seen j
theorem leftTo_succ {c seen : List Int} {j : Nat} {k : Int} (h : seen[j]? = some k) : leftTo c seen (j + 1) = restStep (leftTo c seen j) k := by
  unfold leftTo; rw [take_of_get h, List.foldl_append]; rfl
theorem restStep_len (l : List Int) (k : Int) : (restStep l k).length = l.length := by unfold restStep; simp
theorem leftTo_len (c seen : List Int) (j : Nat) : (leftTo c seen j).length = c.length := by
  unfold leftTo
  generalize seen.take j = s
  induction s generalizing c with
  | nil => rfl
  | cons x s ih => rw [List.foldl_cons, ih, restStep_len]
def inK (c seen : List Int) : Bool := seen.all fun k => decide (0 ≤ k) && decide (k ≤ (c.length : Int) - 1)
theorem inK_mem {c seen : List Int} (h : inK c seen = true) : ∀ k ∈ seen, 0 ≤ k ∧ k < c.length := by
  unfold inK at h
  rw [List.all_eq_true] at h
  intro k hk
  have := h k hk
  simp at this; omega
theorem inK_no {c seen : List Int} {k : Int} (h : k ∈ seen) (hk : k < 0 ∨ (c.length : Int) - 1 < k) : inK c seen = false := by
  cases e : inK c seen with
  | false => rfl
  | true => have := inK_mem e k h; omega
theorem inK_take {c seen : List Int} {j : Nat} {v : Int} (h : seen[j]? = some v) : inK c (seen.take (j + 1)) = (inK c (seen.take j) && (decide (0 ≤ v) && decide (v ≤ (c.length : Int) - 1))) := by
  unfold inK; rw [take_of_get h, List.all_append]; simp
theorem pad_step {c : List Int} {k : Int} (h0 : 0 ≤ k) (hk : k < c.length) : restStep (pad6 c) k = pad6 (restStep c k) := by
  unfold restStep pad6
  have hl : k.toNat < c.length := by omega
  rw [List.set_append_left _ _ hl, List.length_set]
  congr 3
  simp only [List.getD_eq_getElem?_getD]
  rw [List.getElem?_append_left hl]
theorem leftTo_pad {c seen : List Int} (h : inK c seen = true) (j : Nat) : restTo c seen j = pad6 (leftTo c seen j) := by
  unfold restTo leftTo
  have hm : ∀ k ∈ seen.take j, 0 ≤ k ∧ k < c.length := fun k hk => inK_mem h k (List.mem_of_mem_take hk)
  generalize seen.take j = s at hm
  induction s generalizing c with
  | nil => rfl
  | cons x s ih =>
    have hx := hm x (by simp)
    rw [List.foldl_cons, List.foldl_cons, pad_step hx.1 hx.2]
    refine ih ?_ ?_
    · unfold inK at h ⊢; rw [restStep_len]; exact h
    · intro k hk; rw [restStep_len]; exact hm k (by simp [hk])
/-- the numbers of what is left fall -/
theorem restStep_get (l : List Int) (k : Int) (m : Nat) (hm : m < l.length) : (restStep l k).getD m 0 = l.getD m 0 - if k.toNat = m then 1 else 0 := by
  unfold restStep
  simp only [List.getD_eq_getElem?_getD, List.getElem?_set]
  by_cases h : k.toNat = m
  · rw [if_pos h, if_pos (by omega), if_pos h, h]; rfl
  · rw [if_neg h, if_neg h]; omega
theorem left_get {c seen : List Int} (j : Nat) (m : Nat) (hm : m < c.length) : (leftTo c seen j).getD m 0 = c.getD m 0 - ((seen.take j).countP fun k => k.toNat == m) := by
  unfold leftTo
  generalize seen.take j = s
  induction s generalizing c with
  | nil => simp
  | cons x s ih =>
    rw [List.foldl_cons, ih (by rw [restStep_len]; exact hm), restStep_get _ _ _ hm, List.countP_cons]
    by_cases h : x.toNat = m
    · rw [if_pos h, if_pos (by simpa using h)]; omega
    · rw [if_neg h, if_neg (by simpa using h)]; omega
theorem countP_take_le (s : List Int) (m j : Nat) : (s.take j).countP (fun k => k.toNat == m) ≤ s.countP fun k => k.toNat == m :=
  (List.take_sublist j s).countP_le
def negB (l : List Int) : Bool := l.any fun x => decide (x < 0)
theorem negB_no {l : List Int} (h : negB l = false) : ∀ x ∈ l, 0 ≤ x := by
  unfold negB at h
  rw [List.any_eq_false] at h
  intro x hx
  have := h x hx
  simp at this; exact this
theorem negB_at {l : List Int} {m : Nat} (hm : m < l.length) (h : l.getD m 0 < 0) : negB l = true := by
  unfold negB
  rw [List.any_eq_true]
  exact ⟨_, getD_mem hm, by simpa using h⟩
theorem negB_yes {l : List Int} (h : negB l = true) : ∃ m, m < l.length ∧ l.getD m 0 < 0 := by
  unfold negB at h
  rw [List.any_eq_true] at h
  obtain ⟨x, hx, h2⟩ := h
  obtain ⟨m, hm, rfl⟩ := List.getElem_of_mem hx
  refine ⟨m, hm, ?_⟩
  rw [getD_of_get (List.getElem?_eq_getElem hm)]
  simpa using h2
theorem negB_pad {l : List Int} : negB (pad6 l) = negB l := by
  unfold negB pad6
  rw [List.any_append]
  have : (List.replicate (6 - l.length) (0 : Int)).any (fun x => decide (x < 0)) = false := by
    rw [List.any_eq_false]; intro x hx; rw [(List.mem_replicate.1 hx).2]; simp
  rw [this, Bool.or_false]
/-- once below zero, below zero for ever -/
theorem negB_mono {c seen : List Int} {i j : Nat} (hij : i ≤ j) (h : negB (leftTo c seen i) = true) : negB (leftTo c seen j) = true := by
  obtain ⟨m, hm, h1⟩ := negB_yes h
  rw [leftTo_len] at hm
  refine negB_at (m := m) (by rw [leftTo_len]; exact hm) ?_
  rw [left_get _ _ hm] at h1 ⊢
  have : (seen.take i).countP (fun k => k.toNat == m) ≤ (seen.take j).countP fun k => k.toNat == m := by
    have := countP_take_le (seen.take j) m i
    rwa [List.take_take, Nat.min_eq_left hij] at this
  omega

def kindsOf (l : List Int) (j : Nat) : List Int := ((List.range j).filter fun k => decide (0 < l.getD k 0)).map Int.ofNat
theorem kindsOf_succ (l : List Int) (j : Nat) : kindsOf l (j + 1) = if 0 < l.getD j 0 then kindsOf l j ++ [(j : Int)] else kindsOf l j := by
  unfold kindsOf
  rw [List.range_succ, List.filter_append, List.map_append]
  by_cases h : 0 < l.getD j 0
  · rw [if_pos h, List.filter_cons_of_pos (by rw [decide_eq_true_eq]; exact h)]; rfl
  · rw [if_neg h, List.filter_cons_of_neg (by rw [decide_eq_true_eq]; exact h)]; simp
theorem kindsOf_len (l : List Int) (j : Nat) : (kindsOf l j).length ≤ j := by
  unfold kindsOf
  rw [List.length_map]
  exact Nat.le_trans (List.length_filter_le _ _) (by simp)
theorem kindsOf_mem {l : List Int} {j : Nat} {v : Int} : v ∈ kindsOf l j ↔ ∃ k : Nat, k < j ∧ v = k ∧ 0 < l.getD k 0 := by
  unfold kindsOf
  rw [List.mem_map]
  constructor
  · rintro ⟨k, hk, rfl⟩
    rw [List.mem_filter] at hk
    exact ⟨k, by simpa using hk.1, rfl, by simpa using hk.2⟩
  · rintro ⟨k, hk, rfl, h⟩
    exact ⟨k, by rw [List.mem_filter]; exact ⟨by simpa using hk, by simpa using h⟩, rfl⟩
theorem kindsOf_pad {l : List Int} (h : l.length ≤ 6) : kindsOf (pad6 l) 6 = kindsOf l l.length := by
  have h1 : ∀ j, j ≤ l.length → kindsOf (pad6 l) j = kindsOf l j := by
    intro j
    induction j with
    | zero => intro _; rfl
    | succ j ih =>
      intro hj
      have e : (pad6 l).getD j 0 = l.getD j 0 := by unfold pad6; simp only [List.getD_eq_getElem?_getD]; rw [List.getElem?_append_left (by omega)]
      rw [kindsOf_succ, kindsOf_succ, ih (by omega), e]
  have h2 : ∀ m, l.length + m ≤ 6 → kindsOf (pad6 l) (l.length + m) = kindsOf l l.length := by
    intro m
    induction m with
    | zero => intro _; exact h1 _ (Nat.le_refl _)
    | succ m ih =>
      intro hm
      have e : (pad6 l).getD (l.length + m) 0 = 0 := by
        unfold pad6; simp only [List.getD_eq_getElem?_getD]; rw [List.getElem?_append_right (by omega), List.getElem?_replicate]; split <;> rfl
      rw [show l.length + (m + 1) = l.length + m + 1 by omega, kindsOf_succ, e, if_neg (by omega), ih (by omega)]
  have := h2 (6 - l.length) (by omega)
  rwa [show l.length + (6 - l.length) = 6 by omega] at this
/-- what Rest answers: the kinds, for sure, the error -/
def restE (c : List Int) (d : Int) (seen : List Int) : List Int × Int × Int :=
  if chkS c d ≠ 0 then ([], 0, chkS c d)
  else if d < seen.length then ([], 0, 8)
  else if inK c seen = false then ([], 0, 7)
  else if negB (restTo c seen seen.length) = true then ([], 0, 14)
  else if (seen.length : Int) = d then ([], 0, 0)
  else (kindsOf (restTo c seen seen.length) 6, if (kindsOf (restTo c seen seen.length) 6).length = 1 then d - seen.length else 0, 0)
end Go.Proofs.Ytcmacejpoihhlaa

namespace Go.Proofs.Ytcmacejpoihhlaa
open Go.RowKit

/-- in how many ways the best guess comes -/
def mostW (c : List Int) (d : Nat) : Int := (bestTo c d (countR d).toNat).2
/-- the fairest counts so far ([]: none), and their ways -/
def fairStep (d : Nat) (s : List Int × Int) (c : List Int) : List Int × Int := if s.1 = [] ∨ mostW c d < s.2 then (c, mostW c d) else s
/-- all counts whose sum is n, as the reference lists them -/
def countsL : List Int → Int → List (List Int)
  | [], n => if n = 0 then [[]] else []
  | l :: ls, n => (List.range (min l n).toNat).flatMap fun (i : Nat) => (countsL ls (n - ((i : Int) + 1))).map fun r => ((i : Int) + 1) :: r
/-- the first k of the first numbers -/
def countsTo (_l : Int) (ls : List Int) (n : Int) (k : Nat) : List (List Int) := (List.range k).flatMap fun (i : Nat) => (countsL ls (n - ((i : Int) + 1))).map fun r => ((i : Int) + 1) :: r
theorem countsTo_succ (l : Int) (ls : List Int) (n : Int) (k : Nat) : countsTo l ls n (k + 1) = countsTo l ls n k ++ (countsL ls (n - ((k : Int) + 1))).map fun r => ((k : Int) + 1) :: r := by
  unfold countsTo; rw [List.range_succ, List.flatMap_append]; simp
theorem countsL_cons (l : Int) (ls : List Int) (n : Int) : countsL (l :: ls) n = countsTo l ls n (min l n).toNat := rfl
/-- what the program's try leaves, behind counts so far -/
def tryF (d : Nat) : List Int → List Int → Int → List Int × Int → List Int × Int
  | [], now, rest, s => if 0 < rest then s else fairStep d s now
  | l :: ls, now, rest, s => (List.range (min rest l).toNat).foldl (fun s (i : Nat) => tryF d ls (now ++ [(i : Int) + 1]) (rest - ((i : Int) + 1)) s) s
def tryTo (d : Nat) (ls now : List Int) (rest : Int) (s : List Int × Int) (k : Nat) : List Int × Int := (List.range k).foldl (fun s (i : Nat) => tryF d ls (now ++ [(i : Int) + 1]) (rest - ((i : Int) + 1)) s) s
theorem tryTo_succ (d : Nat) (ls now : List Int) (rest : Int) (s : List Int × Int) (k : Nat) : tryTo d ls now rest s (k + 1) = tryF d ls (now ++ [(k : Int) + 1]) (rest - ((k : Int) + 1)) (tryTo d ls now rest s k) := foldl_range_succ _ _ _
theorem tryF_cons (d : Nat) (l : Int) (ls now : List Int) (rest : Int) (s : List Int × Int) : tryF d (l :: ls) now rest s = tryTo d ls now rest s (min rest l).toNat := rfl
/-- both are alike -/
theorem tryF_counts (d : Nat) : ∀ (ls now : List Int) (rest : Int) (s : List Int × Int), 0 ≤ rest → tryF d ls now rest s = ((countsL ls rest).map fun r => now ++ r).foldl (fairStep d) s := by
  intro ls
  induction ls with
  | nil =>
    intro now rest s h
    unfold tryF countsL
    by_cases h0 : 0 < rest
    · rw [if_pos h0, if_neg (by omega)]; rfl
    · rw [if_neg h0, if_pos (by omega)]; simp
  | cons l ls ih =>
    intro now rest s h
    rw [tryF_cons, countsL_cons, show min l rest = min rest l by omega]
    have key : ∀ k : Nat, (k : Int) ≤ rest → tryTo d ls now rest s k = ((countsTo l ls rest k).map fun r => now ++ r).foldl (fairStep d) s := by
      intro k
      induction k with
      | zero => intro _; rfl
      | succ k ihk =>
        intro hk
        rw [tryTo_succ, countsTo_succ, ihk (by omega), List.map_append, List.foldl_append, ih _ _ _ (by omega), List.map_map]
        simp only [Function.comp_def, List.append_assoc, List.cons_append, List.nil_append]
    exact key _ (by omega)
theorem tryF_all {d : Nat} {ls : List Int} {n : Int} (h : 0 ≤ n) : tryF d ls [] n ([], 0) = (countsL ls n).foldl (fairStep d) ([], 0) := by
  rw [tryF_counts d ls [] n _ h]; simp

/-- what is counted so far, and what is left of the sum: valid when all are counted -/
structure Now (limits now : List Int) (rest all : Int) : Prop where
  len : now.length ≤ limits.length
  pos : ∀ x ∈ now, 1 ≤ x ∧ x ≤ 9
  sum : sumI now + rest = all
  nn : 0 ≤ rest
theorem Now.step {limits now : List Int} {rest all : Int} (h : Now limits now rest all) (hl : ∀ x ∈ limits, 1 ≤ x ∧ x ≤ 9) (hlt : now.length < limits.length) {i : Nat} (hi : (i : Int) + 1 ≤ rest) (hi2 : (i : Int) + 1 ≤ limits.getD now.length 0) : Now limits (now ++ [(i : Int) + 1]) (rest - ((i : Int) + 1)) all := by
  have h9 := hl _ (getD_mem hlt)
  refine ⟨by simp; omega, fun x hx => ?_, by rw [sumI_append, sumI_cons]; simp; have := h.sum; omega, by omega⟩
  rcases List.mem_append.1 hx with hx | hx
  · exact h.pos x hx
  · simp at hx; omega
theorem Now.shaped {limits now : List Int} {all : Int} {d : Nat} (h : Now limits now 0 all) (h1 : 1 ≤ now.length) (h6 : limits.length ≤ 6) (hd1 : 1 ≤ d) (hd6 : d ≤ 6) (hda : (d : Int) ≤ all) : shapedC now d = 0 := by
  have hok : okCounts now = true := by unfold okCounts; rw [List.all_eq_true]; intro x hx; have := h.pos x hx; simp; omega
  have hz : chkS now d = 0 := by
    have := h.len
    have := h.sum
    unfold chkS
    rw [if_neg (by omega), if_neg (by omega), if_neg (by rw [hok]; simp), if_pos (by omega)]
  unfold shapedC
  rw [if_neg (by omega), if_neg (by omega)]
theorem mostW_nn (c : List Int) (d : Nat) : 0 ≤ mostW c d := (best_ok c d _).pos
/-- each of the counts of the list: as many as the limits, from 1 to them, and their sum -/
theorem countsL_mem : ∀ (ls : List Int) (n : Int), 0 ≤ n → ∀ c ∈ countsL ls n, c.length = ls.length ∧ sumI c = n ∧ ∀ i, i < c.length → 1 ≤ c.getD i 0 ∧ c.getD i 0 ≤ ls.getD i 0 := by
  intro ls
  induction ls with
  | nil =>
    intro n _ c hc
    unfold countsL at hc
    by_cases h : n = 0
    · rw [if_pos h] at hc; simp at hc; subst hc; exact ⟨rfl, by simp; omega, fun i hi => by simp at hi⟩
    · rw [if_neg h] at hc; simp at hc
  | cons l ls ih =>
    intro n hn c hc
    rw [countsL_cons] at hc
    unfold countsTo at hc
    rw [List.mem_flatMap] at hc
    obtain ⟨i, hi, hc⟩ := hc
    rw [List.mem_map] at hc
    obtain ⟨r, hr, rfl⟩ := hc
    have hi := List.mem_range.1 hi
    obtain ⟨h1, h2, h3⟩ := ih _ (by omega) r hr
    refine ⟨by simp [h1], by rw [sumI_cons, h2]; omega, fun j hj => ?_⟩
    cases j with
    | zero => simp; omega
    | succ j => simpa using h3 j (by simpa using hj)
theorem countsL_small : ∀ (ls : List Int) (n : Int), n ≤ 12 → (countsL ls n).length ≤ 12 ^ ls.length := by
  intro ls
  induction ls with
  | nil => intro n _; unfold countsL; by_cases h : n = 0 <;> simp [h]
  | cons l ls ih =>
    intro n hn
    rw [countsL_cons]
    have key : ∀ k : Nat, (countsTo l ls n k).length ≤ k * 12 ^ ls.length := by
      intro k
      induction k with
      | zero => simp [countsTo]
      | succ k ihk =>
        rw [countsTo_succ, List.length_append, List.length_map, Nat.succ_mul]
        have := ih (n - ((k : Int) + 1)) (by omega)
        omega
    have h1 := key (min l n).toNat
    rw [List.length_cons, Nat.pow_succ, Nat.mul_comm (12 ^ ls.length) 12]
    exact Nat.le_trans h1 (Nat.mul_le_mul_right _ (by omega))

/-- the error of limits, of a sum and a draw -/
def fairC (l : List Int) (all d : Int) : Int :=
  if l.length = 0 then 6 else if 6 < l.length then 8 else if okCounts l = false then 2 else if ¬(1 ≤ all ∧ all ≤ 12) then 2 else if ¬(1 ≤ d ∧ d ≤ min 6 all) then 2 else 0
/-- what Fairest answers: the counts, their ways, all ways, the error -/
def fairE (l : List Int) (all d : Int) : List Int × Int × Int × Int :=
  if fairC l all d ≠ 0 then ([], 0, 0, fairC l all d)
  else let s := (countsL l all).foldl (fairStep d.toNat) ([], 0)
    if s.1 = [] then ([], 0, 0, 7) else (s.1, s.2, fallN all d.toNat, 0)
theorem fair_nil {d : Nat} {ls : List Int} : ∀ (L : List (List Int)), (∀ c ∈ L, c.length = ls.length) → ∀ s, (s.1 ≠ [] → s.1.length = ls.length) → (L.foldl (fairStep d) s).1 ≠ [] → (L.foldl (fairStep d) s).1.length = ls.length := by
  intro L
  induction L with
  | nil => intro _ s hs h; exact hs h
  | cons c L ih =>
    intro hL s hs h
    refine ih (fun x hx => hL x (by simp [hx])) _ ?_ h
    intro _
    unfold fairStep
    split
    · exact hL c (by simp)
    · rename_i h1
      exact hs (fun e => h1 (.inl e))
end Go.Proofs.Ytcmacejpoihhlaa

namespace Go.Proofs.Ytcmacejpoihhlaa
open Go.RowKit

/-! ### Sums -/
def sS (n : Nat) (f : Nat → Int) : Int := (List.range n).foldl (fun a k => a + f k) 0
theorem sS_zero (f : Nat → Int) : sS 0 f = 0 := rfl
theorem sS_succ (n : Nat) (f : Nat → Int) : sS (n + 1) f = sS n f + f n := foldl_range_succ _ _ _
theorem sS_congr {n : Nat} {f g : Nat → Int} (h : ∀ k, k < n → f k = g k) : sS n f = sS n g := by
  induction n with
  | zero => rfl
  | succ n ih => rw [sS_succ, sS_succ, ih (fun k hk => h k (by omega)), h n (by omega)]
theorem sS_add (n : Nat) (f g : Nat → Int) : sS n (fun k => f k + g k) = sS n f + sS n g := by
  induction n with
  | zero => rfl
  | succ n ih => rw [sS_succ, sS_succ, sS_succ, ih]; omega
theorem sS_mul (n : Nat) (c : Int) (f : Nat → Int) : sS n (fun k => c * f k) = c * sS n f := by
  induction n with
  | zero => rw [sS_zero, sS_zero, Int.mul_zero]
  | succ n ih => rw [sS_succ, sS_succ, ih, Int.mul_add]
theorem sS_none {n : Nat} {f : Nat → Int} (h : ∀ k, k < n → f k = 0) : sS n f = 0 := by
  induction n with
  | zero => rfl
  | succ n ih => rw [sS_succ, ih (fun k hk => h k (by omega)), h n (by omega)]; rfl
theorem sS_one {n j : Nat} {f : Nat → Int} (hj : j < n) (h : ∀ k, k < n → k ≠ j → f k = 0) : sS n f = f j := by
  induction n with
  | zero => omega
  | succ n ih =>
    rw [sS_succ]
    by_cases e : j = n
    · subst e
      rw [sS_none (fun k hk => h k (by omega) (by omega))]; omega
    · rw [ih (by omega) (fun k hk hkj => h k (by omega) hkj), h n (by omega) (by omega)]; omega
theorem sS_swap (n m : Nat) (f : Nat → Nat → Int) : sS n (fun k => sS m (f k)) = sS m (fun j => sS n (fun k => f k j)) := by
  induction n with
  | zero => rw [sS_zero]; exact (sS_none (fun k _ => rfl)).symm
  | succ n ih =>
    rw [sS_succ, ih, ← sS_add]
    exact sS_congr (fun j _ => (sS_succ _ _).symm)
theorem sS_nonneg {n : Nat} {f : Nat → Int} (h : ∀ k, k < n → 0 ≤ f k) : 0 ≤ sS n f := by
  induction n with
  | zero => exact Int.le_refl _
  | succ n ih => rw [sS_succ]; have := ih (fun k hk => h k (by omega)); have := h n (by omega); omega
theorem sS_sumI (l : List Int) : sS l.length (fun k => l.getD k 0) = sumI l := by
  have key : ∀ k, k ≤ l.length → sS k (fun k => l.getD k 0) = sumI (l.take k) := by
    intro k
    induction k with
    | zero => intro _; rfl
    | succ k ih => intro hk; rw [sS_succ, ih (by omega), take_of_get (get_getD (l := l) (i := k) (by omega)), sumI_snoc]
  rw [key _ (Nat.le_refl _), List.take_length]

theorem fallN_front (f : Int) (r : Nat) : fallN f (r + 1) = f * fallN (f - 1) r := by
  induction r with
  | zero => show 1 * (f - 0) = f * 1; omega
  | succ r ih =>
    show fallN f (r + 1) * (f - ((r + 1 : Nat) : Int)) = f * (fallN (f - 1) r * (f - 1 - r))
    rw [ih, Int.mul_assoc, show f - ((r + 1 : Nat) : Int) = f - 1 - r by omega]

/-! ### All choices -/
def cw (h : List Int → Int) : Nat → List Int → List Int → Int
  | 0, crs, _ => h crs
  | r + 1, crs, left => sS left.length fun k => left.getD k 0 * cw h r (crs ++ [(k : Int)]) (left.set k (left.getD k 0 - 1))
theorem cw_one (r : Nat) : ∀ crs left : List Int, cw (fun _ => 1) r crs left = fallN (sumI left) r := by
  induction r with
  | zero => intro crs left; rfl
  | succ r ih =>
    intro crs left
    show sS left.length _ = _
    rw [sS_congr (g := fun k => fallN (sumI left - 1) r * left.getD k 0) (fun k hk => by
      rw [ih, sumI_set hk, Int.mul_comm, show sumI left - left.getD k 0 + (left.getD k 0 - 1) = sumI left - 1 by omega]), sS_mul, sS_sumI, fallN_front, Int.mul_comm]
theorem cw_sm (m : Nat) (h : Nat → List Int → Int) (r : Nat) : ∀ crs left : List Int, cw (fun x => sS m fun j => h j x) r crs left = sS m fun j => cw (h j) r crs left := by
  induction r with
  | zero => intro crs left; rfl
  | succ r ih =>
    intro crs left
    show sS left.length _ = sS m fun j => sS left.length _
    rw [← sS_swap]
    refine sS_congr fun k _ => ?_
    rw [ih, sS_mul]
/-- what a choice is -/
def Word (n : Nat) (x : List Int) : Prop := ∀ v ∈ x, 0 ≤ v ∧ v < (n : Int)
theorem Word.snoc {n : Nat} {x : List Int} (h : Word n x) {k : Nat} (hk : k < n) : Word n (x ++ [(k : Int)]) := by
  intro v hv
  rcases List.mem_append.1 hv with hv | hv
  · exact h v hv
  · simp at hv; omega
theorem cw_congr {h h' : List Int → Int} {d : Nat} (r : Nat) : ∀ crs left : List Int, crs.length + r = d → (∀ x, x.length = d → h x = h' x) → cw h r crs left = cw h' r crs left := by
  induction r with
  | zero => intro crs left e hh; exact hh crs (by omega)
  | succ r ih =>
    intro crs left e hh
    exact sS_congr fun k hk => by rw [ih _ _ (by simp; omega) hh]

/-! ### Those of a partition -/
def isP (p x : List Int) : Int := if ofL x = p then 1 else 0
theorem cw_off {p : List Int} (r : Nat) : ∀ crs left : List Int, crs.length + r = p.length → ofL crs ≠ p.take crs.length → cw (isP p) r crs left = 0 := by
  induction r with
  | zero =>
    intro crs left e hn
    show isP p crs = 0
    unfold isP
    rw [if_neg]
    intro h
    apply hn
    rw [h, List.take_of_length_le (by omega)]
  | succ r ih =>
    intro crs left e hn
    refine sS_none fun k _ => ?_
    rw [ih _ _ (by simp; omega), Int.mul_zero]
    intro h
    apply hn
    rw [ofL_snoc] at h
    have h2 := congrArg (List.take crs.length) h
    rw [List.take_left' (ofL_length crs), List.take_take, List.length_append] at h2
    rw [h2, Nat.min_eq_left (by omega)]

/-- the packets of kinds that are taken, behind those that have blocks already -/
def po (left q : List Int) : List Int → Nat → Int
  | [], _ => 1
  | k :: fs, b => fallN (left.getD k.toNat 0) (q.count (b : Int)) * po left q fs (b + 1)
/-- new blocks, each of a kind of its own -/
def chS (left : List Int) : List Int → List Int → Int
  | [], _ => 1
  | s :: ss, f => sS left.length fun k => if (k : Int) ∈ f then 0 else fallN (left.getD k 0) s.toNat * chS left ss (f ++ [(k : Int)])
def szs (q : List Int) (m : Nat) : Nat → List Int
  | 0 => []
  | t + 1 => (q.count (m : Int) : Int) :: szs q (m + 1) t
theorem szs_skip {q : List Int} {b : Int} (t : Nat) : ∀ m : Nat, (b < m) → szs (b :: q) m t = szs q m t := by
  induction t with
  | zero => intro m _; rfl
  | succ t ih =>
    intro m h
    show ((b :: q).count (m : Int) : Int) :: szs (b :: q) (m + 1) t = (q.count (m : Int) : Int) :: szs q (m + 1) t
    rw [ih _ (by omega), List.count_cons_of_ne (by omega)]
theorem getD_set_ne {l : List Int} {k j : Nat} {v : Int} (h : k ≠ j) : (l.set k v).getD j 0 = l.getD j 0 := by
  simp only [List.getD_eq_getElem?_getD, List.getElem?_set, if_neg h]
theorem getD_set_eq {l : List Int} {k : Nat} {v : Int} (h : k < l.length) : (l.set k v).getD k 0 = v := by
  simp only [List.getD_eq_getElem?_getD, List.getElem?_set, h]; simp
theorem chS_set {left : List Int} {k : Nat} {v : Int} : ∀ (ss f : List Int), (k : Int) ∈ f → chS (left.set k v) ss f = chS left ss f := by
  intro ss
  induction ss with
  | nil => intro f _; rfl
  | cons s ss ih =>
    intro f hk
    show sS (left.set k v).length _ = sS left.length _
    rw [List.length_set]
    refine sS_congr fun j _ => ?_
    by_cases hj : (j : Int) ∈ f
    · rw [if_pos hj, if_pos hj]
    · rw [if_neg hj, if_neg hj, ih _ (by simp [hk]), getD_set_ne (fun e : k = j => hj (by rw [← e]; exact hk))]
theorem po_set {left q : List Int} {k : Nat} {v : Int} : ∀ (fs : List Int) (b : Nat), (∀ x ∈ fs, x.toNat ≠ k) → po (left.set k v) q fs b = po left q fs b := by
  intro fs
  induction fs with
  | nil => intro b _; rfl
  | cons x fs ih =>
    intro b h
    show fallN _ _ * po (left.set k v) q fs (b + 1) = fallN _ _ * po left q fs (b + 1)
    rw [ih _ (fun y hy => h y (by simp [hy])), getD_set_ne (fun e => h x (by simp) e.symm)]
theorem po_skip {left q : List Int} {c : Int} : ∀ (fs : List Int) (b : Nat), (c < b ∨ (b : Int) + fs.length ≤ c) → po left (c :: q) fs b = po left q fs b := by
  intro fs
  induction fs with
  | nil => intro b _; rfl
  | cons x fs ih =>
    intro b h
    show fallN _ ((c :: q).count (b : Int)) * po left (c :: q) fs (b + 1) = fallN _ (q.count (b : Int)) * po left q fs (b + 1)
    simp only [List.length_cons] at h
    rw [ih _ (by omega), List.count_cons_of_ne (by omega)]
theorem po_snoc {left q : List Int} {k : Int} : ∀ (fs : List Int) (b : Nat), po left q (fs ++ [k]) b = po left q fs b * fallN (left.getD k.toNat 0) (q.count ((b + fs.length : Nat) : Int)) := by
  intro fs
  induction fs with
  | nil => intro b; show fallN _ _ * 1 = 1 * fallN _ _; rw [Int.mul_one, Int.one_mul]; rfl
  | cons x fs ih =>
    intro b
    show fallN _ _ * po left q (fs ++ [k]) (b + 1) = fallN _ _ * po left q fs (b + 1) * _
    rw [ih, Int.mul_assoc, List.length_cons, show b + 1 + fs.length = b + (fs.length + 1) by omega]
/-- an old block: one packet of its kind -/
theorem po_old {left q : List Int} {x : Int} {c : Nat} : ∀ (fs : List Int) (b : Nat), fs.Nodup → (∀ y ∈ fs, 0 ≤ y ∧ y < (left.length : Int)) → fs[c]? = some x →
    po left (((b + c : Nat) : Int) :: q) fs b = left.getD x.toNat 0 * po (left.set x.toNat (left.getD x.toNat 0 - 1)) q fs b := by
  induction c with
  | zero =>
    intro fs b hnd hb hx
    cases fs with
    | nil => simp at hx
    | cons y fs =>
      simp at hx
      subst hx
      have hy := hb y (by simp)
      show fallN (left.getD y.toNat 0) ((((b + 0 : Nat) : Int) :: q).count (b : Int)) * po left _ fs (b + 1) = left.getD y.toNat 0 * (fallN ((left.set y.toNat _).getD y.toNat 0) (q.count (b : Int)) * po (left.set y.toNat _) q fs (b + 1))
      rw [po_skip fs (b + 1) (.inl (by omega)), po_set fs (b + 1) (fun z hz e => by
        have h1 := hb z (by simp [hz])
        have : z = y := by omega
        subst this
        exact (List.nodup_cons.1 hnd).1 hz), getD_set_eq (by omega), Nat.add_zero, List.count_cons_self, fallN_front, Int.mul_assoc]
  | succ c ih =>
    intro fs b hnd hb hx
    cases fs with
    | nil => simp at hx
    | cons y fs =>
      simp at hx
      have hy := hb y (by simp)
      have hx1 := hb x (by simp [List.mem_of_getElem? hx])
      have hne : y ≠ x := fun e => (List.nodup_cons.1 hnd).1 (e ▸ List.mem_of_getElem? hx)
      show fallN (left.getD y.toNat 0) ((((b + (c + 1) : Nat) : Int) :: q).count (b : Int)) * po left _ fs (b + 1) = left.getD x.toNat 0 * (fallN ((left.set x.toNat _).getD y.toNat 0) (q.count (b : Int)) * po (left.set x.toNat _) q fs (b + 1))
      rw [show b + (c + 1) = b + 1 + c by omega, ih fs (b + 1) (List.nodup_cons.1 hnd).2 (fun z hz => hb z (by simp [hz])) hx, List.count_cons_of_ne (by omega), getD_set_ne (by omega)]
      simp only [Int.mul_left_comm]

theorem seenOf_nodup (l : List Int) : (seenOf l).Nodup := by
  induction l using snoc_ind with
  | h0 => exact List.nodup_nil
  | hs l x ih =>
    rw [seenOf_snoc]
    split
    · exact ih
    · rename_i hx
      rw [List.nodup_append]
      refine ⟨ih, List.nodup_cons.2 ⟨by simp, List.nodup_nil⟩, fun a ha b hb e => ?_⟩
      simp at hb
      subst hb; subst e
      exact hx ha
theorem idx_at {l : List Int} {x : Int} (h : x ∈ l) : l[l.idxOf x]? = some x := by
  have h1 := List.idxOf_lt_length_of_mem h
  rw [List.getElem?_eq_getElem h1, List.getElem_idxOf h1]
theorem idx_nodup {l : List Int} (h : l.Nodup) {j : Nat} {x : Int} (hx : l[j]? = some x) : l.idxOf x = j := by
  have h1 := idx_at (List.mem_of_getElem? hx)
  have hj := (List.getElem?_eq_some_iff.1 hx).1
  have hi := List.idxOf_lt_length_of_mem (List.mem_of_getElem? hx)
  exact (List.getElem?_inj hi h).1 (h1.trans hx.symm)

theorem cw_part {p : List Int} {B : Nat} (hB : (B : Int) = blk p) (hp : chkGo 0 p = 0) (r : Nat) : ∀ crs left : List Int, crs.length + r = p.length → ofL crs = p.take crs.length → Word left.length crs →
    cw (isP p) r crs left = po left (p.drop crs.length) (seenOf crs) 0 * chS left (szs (p.drop crs.length) (seenOf crs).length (B - (seenOf crs).length)) (seenOf crs) := by
  induction r with
  | zero =>
    intro crs left e ho hw
    rw [Nat.add_zero] at e
    rw [e, List.take_length] at ho
    have h1 : (seenOf crs).length = B := by have := blk_ofL crs; rw [ho] at this; omega
    rw [e, List.drop_length, h1, Nat.sub_self]
    have h2 : ∀ (fs : List Int) b, po left [] fs b = 1 := by
      intro fs
      induction fs with
      | nil => intro b; rfl
      | cons x fs ih => intro b; show fallN _ 0 * po left [] fs (b + 1) = 1; rw [ih]; rfl
    rw [h2]
    show isP p crs = 1 * 1
    unfold isP; rw [if_pos ho]; rfl
  | succ r ih =>
    intro crs left e ho hw
    have hlt : crs.length < p.length := by omega
    have hv := get_getD hlt
    obtain ⟨v, hve⟩ : ∃ v, p.getD crs.length 0 = v := ⟨_, rfl⟩
    rw [hve] at hv
    have hd := drop_of_get hv
    have ht := take_of_get hv
    obtain ⟨q, hq⟩ : ∃ q, p.drop (crs.length + 1) = q := ⟨_, rfl⟩
    have hbl : blk (p.take crs.length) = (seenOf crs).length := by rw [← ho]; exact blk_ofL crs
    have hgo : chkGo 0 (p.take crs.length) = 0 ∧ 0 ≤ v ∧ v ≤ (p.take crs.length).foldl (fun n v => max n (v + 1)) 0 := by
      have h1 : p = (p.take crs.length ++ [v]) ++ p.drop (crs.length + 1) := by rw [← ht, List.take_append_drop]
      have h2 : ∀ (a b : List Int) nx, chkGo nx (a ++ b) = 0 → chkGo nx a = 0 := by
        intro a b
        induction b using snoc_ind with
        | h0 => intro nx h; rwa [List.append_nil] at h
        | hs b x ihb => intro nx h; rw [← List.append_assoc] at h; exact ihb nx (chkGo_unsnoc _ _ _ h).1
      rw [h1] at hp
      exact chkGo_unsnoc _ _ _ (h2 _ _ _ hp)
    have hvm : v ≤ (seenOf crs).length := by rw [← hbl]; exact hgo.2.2
    have hv0 := hgo.2.1
    obtain ⟨v, rfl⟩ : ∃ v' : Nat, v = v' := ⟨v.toNat, by omega⟩
    have hvB : (v : Int) < B := by rw [hB]; exact lt_blk (List.mem_of_getElem? hv)
    rw [hd, hq]
    have hsw : ∀ y ∈ seenOf crs, 0 ≤ y ∧ y < (left.length : Int) := fun y hy => hw y (seenOf_sub crs y hy)
    show sS left.length _ = _
    by_cases hold : v < (seenOf crs).length
    · obtain ⟨x, hx⟩ : ∃ x, (seenOf crs)[v]? = some x := ⟨_, List.getElem?_eq_getElem hold⟩
      have hxm := List.mem_of_getElem? hx
      have hx1 := hsw x hxm
      obtain ⟨x, rfl⟩ : ∃ x' : Nat, x = x' := ⟨x.toNat, by omega⟩
      have hxi := idx_nodup (seenOf_nodup crs) hx
      rw [sS_one (j := x) (by omega)]
      · have hs2 : seenOf (crs ++ [(x : Int)]) = seenOf crs := by rw [seenOf_snoc, if_pos hxm]
        rw [ih _ _ (by simp; omega) (by rw [ofL_snoc, hxi, ho, List.length_append, List.length_singleton, ht]) (by rw [List.length_set]; exact hw.snoc (by omega)), hs2, List.length_append, List.length_singleton, hq, chS_set _ _ hxm, szs_skip _ _ (by omega)]
        have h3 := po_old (left := left) (q := q) (x := (x : Int)) (c := v) (seenOf crs) 0 (seenOf_nodup crs) hsw hx
        rw [Nat.zero_add, Int.toNat_natCast] at h3
        rw [h3, Int.mul_assoc]
      · intro k hk hne
        rw [cw_off _ _ _ (by simp; omega), Int.mul_zero]
        rw [ofL_snoc, List.length_append, List.length_singleton, ht, ho]
        intro h
        have h4 := List.append_cancel_left h
        simp only [List.cons.injEq, and_true] at h4
        by_cases hkm : (k : Int) ∈ seenOf crs
        · have h5 := idx_at hkm
          rw [show (seenOf crs).idxOf (k : Int) = v by omega, hx] at h5
          injection h5 with h5
          omega
        · have := List.idxOf_eq_length hkm
          omega
    · obtain rfl : v = (seenOf crs).length := by omega
      obtain ⟨t, ht2⟩ : ∃ t, B - (seenOf crs).length = t + 1 := ⟨B - (seenOf crs).length - 1, by omega⟩
      rw [ht2]
      show _ = po left _ (seenOf crs) 0 * sS left.length fun k => if (k : Int) ∈ seenOf crs then 0 else fallN (left.getD k 0) (((((seenOf crs).length : Int) :: q).count ((seenOf crs).length : Int) : Nat) : Int).toNat * chS left (szs (((seenOf crs).length : Int) :: q) ((seenOf crs).length + 1) t) (seenOf crs ++ [(k : Int)])
      rw [← sS_mul, po_skip _ _ (.inr (by omega))]
      refine sS_congr fun k hk => ?_
      by_cases hkm : (k : Int) ∈ seenOf crs
      · rw [if_pos hkm, Int.mul_zero, cw_off _ _ _ (by simp; omega), Int.mul_zero]
        rw [ofL_snoc, List.length_append, List.length_singleton, ht, ho]
        intro h
        have h4 := List.append_cancel_left h
        simp only [List.cons.injEq, and_true] at h4
        have := List.idxOf_lt_length_of_mem hkm
        omega
      · rw [if_neg hkm]
        have hs2 : seenOf (crs ++ [(k : Int)]) = seenOf crs ++ [(k : Int)] := by rw [seenOf_snoc, if_neg hkm]
        rw [ih _ _ (by simp; omega) (by rw [ofL_snoc, List.idxOf_eq_length hkm, ho, List.length_append, List.length_singleton, ht]) (by rw [List.length_set]; exact hw.snoc hk), hs2, List.length_append, List.length_singleton, hq, chS_set _ _ (by simp), szs_skip _ _ (by omega), po_snoc, List.length_append, List.length_singleton, show B - ((seenOf crs).length + 1) = t by omega,
          po_set _ _ (fun y hy e => hkm (by have := hsw y hy; rwa [show (k : Int) = y by omega])), Int.toNat_natCast, getD_set_eq hk, List.count_cons_self, Nat.zero_add, Int.toNat_natCast, fallN_front]
        simp only [Int.mul_left_comm, Int.mul_assoc]

/-! ### As the ways of a partition -/
theorem chanceR_chS (c : List Int) (hc : ∀ x ∈ c, 0 ≤ x) : ∀ (ss : List Int) (t : List Bool) (f : List Int), (∀ s ∈ ss, 0 ≤ s) → t.length = c.length → (∀ k, k < c.length → (t.getD k false = true ↔ (k : Int) ∈ f)) → chanceR c ss t = chS c ss f := by
  intro ss
  induction ss with
  | nil => intro t f _ _ _; rfl
  | cons s ss ih =>
    intro t f hs ht hf
    rw [chanceR_cons]
    show _ = sS c.length _
    have key : ∀ k, k ≤ c.length → chanceRTo c s ss t k = sS k fun k => if (k : Int) ∈ f then 0 else fallN (c.getD k 0) s.toNat * chS c ss (f ++ [(k : Int)]) := by
      intro k
      induction k with
      | zero => intro _; rfl
      | succ k ihk =>
        intro hk
        rw [chanceRTo_succ, sS_succ, ihk (by omega)]
        unfold chStepR
        have hck := hc _ (getD_mem (l := c) (i := k) (by omega))
        have hs0 := hs s (by simp)
        by_cases hkf : (k : Int) ∈ f
        · rw [if_pos hkf, if_pos (by rw [(hf k (by omega)).2 hkf]; rfl)]; omega
        · have htk : t.getD k false = false := by
            cases e : t.getD k false with
            | false => rfl
            | true => exact absurd ((hf k (by omega)).1 e) hkf
          rw [if_neg hkf, htk, Bool.false_or]
          by_cases hlt : c.getD k 0 < s
          · rw [if_pos (decide_eq_true hlt), fall_zero hck _ (by omega)]; omega
          · rw [if_neg (by simpa using hlt), ih (t.set k true) (f ++ [(k : Int)]) (fun x hx => hs x (by simp [hx])) (by rw [List.length_set]; exact ht)]
            intro j hj
            rw [getDB_set (by omega), List.mem_append, List.mem_singleton]
            by_cases e : j = k
            · subst e; simp
            · rw [if_neg e, hf j hj]
              constructor
              · exact .inl
              · rintro (h | h)
                · exact h
                · omega
    exact key _ (Nat.le_refl _)

theorem sizesTo_count {p : List Int} {m : Nat} (hp : ∀ v ∈ p, 0 ≤ v ∧ v < m) (k : Nat) (hk : k ≤ p.length) {b : Nat} (hb : b < m) : (sizesTo p m k).getD b 0 = ((p.take k).count (b : Int) : Int) := by
  induction k with
  | zero =>
    show (List.replicate m (0 : Int)).getD b 0 = 0
    rw [List.getD_eq_getElem?_getD, List.getElem?_replicate, if_pos hb]; rfl
  | succ k ih =>
    have hv := get_getD (l := p) (i := k) (by omega)
    have hv0 := hp _ (getD_mem (l := p) (i := k) (by omega))
    have hl := (sizes_ok hp k (by omega)).len
    rw [sizesTo_succ hv, take_of_get hv, List.count_append]
    unfold sizeStep
    generalize p.getD k 0 = v at hv0 ⊢
    by_cases e : v = b
    · subst e
      rw [Int.toNat_natCast, getD_set_eq (by omega), ih (by omega)]
      simp
    · rw [getD_set_ne (by omega), ih (by omega), List.count_cons_of_ne e]; simp
theorem szs_len (q : List Int) (t : Nat) : ∀ m, (szs q m t).length = t := by
  induction t with
  | zero => intro m; rfl
  | succ t ih => intro m; show (szs q (m + 1) t).length + 1 = _; rw [ih]
theorem szs_get (q : List Int) (t : Nat) : ∀ m b, b < t → (szs q m t).getD b 0 = (q.count ((m + b : Nat) : Int) : Int) := by
  induction t with
  | zero => intro m b h; omega
  | succ t ih =>
    intro m b h
    cases b with
    | zero => rfl
    | succ b =>
      show (szs q (m + 1) t).getD b 0 = _
      rw [ih _ _ (by omega), show m + 1 + b = m + (b + 1) by omega]
theorem sizes_szs {p : List Int} (h : chk p = 0) : sizesOf p = szs p 0 (blk p).toNat := by
  have h9 := blk_le9 h
  have hp : ∀ v ∈ p, 0 ≤ v ∧ v < (blk p).toNat := fun v hv => by have h1 := (chk_ok h).2.2.1 v hv; have h2 := lt_blk hv; omega
  refine ext_getD (by rw [(sizesOf_ok h).len, szs_len]) fun i hi => ?_
  rw [(sizesOf_ok h).len] at hi
  rw [szs_get _ _ _ _ hi, Nat.zero_add]
  unfold sizesOf
  rw [sizesTo_count hp _ (Nat.le_refl _) hi, List.take_length]
end Go.Proofs.Ytcmacejpoihhlaa
