/- Plain law: ranks: the program's table of endings is the reference's behind; so ranks and partitions of ranks are alike. Plain law: all partitions of up to 7 packets, one by one. Plain law: all partitions of up to 5 packets have a rank. -/
import Derived.Test.YtooepkpgffpcjaaDoorMgC
import Derived.Test.YtooepkpgffpcjaaDoorMgD
namespace Go.Proofs.YtooepkpgffpcjaaDoor
open Go.RowKit

/-- the reference's behind -/
def behindR : Nat → Int → Int
  | 0, _ => 1
  | n + 1, b => b * behindR n b + behindR n (b + 1)
theorem behind_eq : ∀ m, m < 9 → ∀ b : Nat, m + b < 11 → endL.getD (m * 11 + b) 0 = behindR m b := by
  have h : ∀ m : Fin 9, ∀ b : Fin 11, m.1 + b.1 < 11 → endL.getD (m.1 * 11 + b.1) 0 = behindR m.1 (b.1 : Int) := by decide +kernel
  intro m hm b hb
  exact h ⟨m, hm⟩ ⟨b, by omega⟩ hb
theorem behind_pos (m : Nat) : ∀ b : Int, 0 ≤ b → 1 ≤ behindR m b := by
  induction m with
  | zero => intro b _; exact Int.le_refl _
  | succ m ih =>
    intro b hb
    have h1 := ih b hb
    have h2 := ih (b + 1) (by omega)
    have h3 : 0 ≤ b * behindR m b := Int.mul_nonneg hb (by omega)
    show 1 ≤ b * behindR m b + behindR m (b + 1)
    omega

/-- the reference's rank, behind the first k packets (but the first) -/
def rankRTo (l : List Int) (k : Nat) : Int := (List.range k).foldl (fun n i => n + l.getD (i + 1) 0 * behindR (l.length - 1 - (i + 1)) (blk (l.take (i + 1)))) 0
theorem head_zero {l : List Int} (h : chk l = 0) : l.getD 0 0 = 0 := by
  have h1 := chk_ok h
  cases l with
  | nil => rfl
  | cons a r =>
    have := h1.2.2.2
    simp only [chkGo] at this
    split at this
    · cases this
    · split at this
      · cases this
      · show a = 0; omega
theorem blk_le_len (p : List Int) (h : chkGo 0 p = 0) : blk p ≤ p.length := by
  induction p using snoc_ind with
  | h0 => simp [blk]
  | hs p x ih =>
    obtain ⟨h1, _, h3⟩ := chkGo_unsnoc p x 0 h
    have h2 := ih h1
    have h3' : x ≤ blk p := h3
    have hb : blk (p ++ [x]) = max (blk p) (x + 1) := by simp [blk]
    rw [hb]; simp; omega
theorem blk_take_le {l : List Int} (h : chk l = 0) (k : Nat) : 0 ≤ blk (l.take k) ∧ blk (l.take k) ≤ k :=
  ⟨le_foldl_max _ _, Int.le_trans (blk_le_len _ (chk_take h k)) (by have := List.length_take_le k l; omega)⟩

theorem rank_eq_to {l : List Int} (h : chk l = 0) (k : Nat) (hk : k + 1 ≤ l.length) : rankTo l (k + 1) = rankRTo l k := by
  have h9 := (chk_ok h).2.1
  induction k with
  | zero =>
    have e : rankTo l 1 = rankTo l 0 + l.getD 0 0 * endL.getD ((l.length - 0 - 1) * 11 + (blk (l.take 0)).toNat) 0 := foldl_range_succ _ _ _
    rw [e, head_zero h]
    simp [rankTo, rankRTo]
  | succ k ih =>
    have e1 : rankTo l (k + 1 + 1) = rankTo l (k + 1) + l.getD (k + 1) 0 * endL.getD ((l.length - (k + 1) - 1) * 11 + (blk (l.take (k + 1))).toNat) 0 := foldl_range_succ _ _ _
    have e2 : rankRTo l (k + 1) = rankRTo l k + l.getD (k + 1) 0 * behindR (l.length - 1 - (k + 1)) (blk (l.take (k + 1))) := foldl_range_succ _ _ _
    have hb := blk_take_le h (k + 1)
    rw [e1, e2, ih (by omega), behind_eq _ (by omega) _ (by omega), show l.length - (k + 1) - 1 = l.length - 1 - (k + 1) by omega]
    congr 3
    omega
theorem rank_eq {l : List Int} (h : chk l = 0) : rnk l = rankRTo l (l.length - 1) := by
  have h1 := (chk_ok h).1
  unfold rnk
  rw [← rank_eq_to h (l.length - 1) (by omega), show l.length - 1 + 1 = l.length by omega]

/-! ### Partitions of ranks -/
def unrStep (n : Nat) (s : Int × List Int) (i : Nat) : Int × List Int :=
  (s.1 - min (blk s.2) (s.1 / behindR (n - 1 - i) (blk s.2)) * behindR (n - 1 - i) (blk s.2), s.2 ++ [min (blk s.2) (s.1 / behindR (n - 1 - i) (blk s.2))])
def unr (n : Nat) (rank : Int) (k : Nat) : Int × List Int := (List.range k).foldl (unrStep n) (rank, [])
theorem unr_succ (n : Nat) (rank : Int) (k : Nat) : unr n rank (k + 1) = unrStep n (unr n rank k) k := foldl_range_succ _ _ _
/-- what is known of the state behind k rounds -/
structure UnrOk (rank : Int) (k : Nat) (s : Int × List Int) : Prop where
  len : s.2.length = k
  low : 0 ≤ s.1
  high : s.1 ≤ rank
  good : ∀ v ∈ s.2, 0 ≤ v ∧ v < k
  chk : k ≤ 9 → chkGo 0 s.2 = 0
theorem unr_ok (n : Nat) {rank : Int} (hr : 0 ≤ rank) (k : Nat) : UnrOk rank k (unr n rank k) := by
  induction k with
  | zero => exact ⟨rfl, hr, Int.le_refl _, by simp [unr], fun _ => rfl⟩
  | succ k ih =>
    rw [unr_succ]
    generalize unr n rank k = s at ih
    obtain ⟨r, p⟩ := s
    obtain ⟨i1, i2, i3, i4, i5⟩ := ih
    simp only at i1 i2 i3 i4 i5
    have hb0 : 0 ≤ blk p := le_foldl_max _ _
    have hbk : blk p ≤ k := foldl_max_lt p k 0 (fun v hv => (i4 v hv).2) (by omega)
    have hp := behind_pos (n - 1 - k) (blk p) hb0
    unfold unrStep
    simp only
    generalize behindR (n - 1 - k) (blk p) = e at hp
    have hd : 0 ≤ r / e := Int.ediv_nonneg i2 (by omega)
    have hm : r / e * e ≤ r := Int.ediv_mul_le r (by omega)
    generalize hx : min (blk p) (r / e) = x
    have hx0 : 0 ≤ x := by omega
    have hx1 : x ≤ r / e := by omega
    have hx2 : x ≤ blk p := by omega
    have hxe : x * e ≤ r / e * e := Int.mul_le_mul_of_nonneg_right hx1 (by omega)
    have hxe0 : 0 ≤ x * e := Int.mul_nonneg hx0 (by omega)
    refine ⟨by simp [i1], by simp only; omega, by simp only; omega, fun v hv => ?_, fun h9 => ?_⟩
    · rcases List.mem_append.1 hv with hv | hv
      · have := i4 v hv; omega
      · simp at hv; subst hv; omega
    · exact chkGo_snoc _ 0 _ (i5 (by omega)) hx0 (by omega) hx2
theorem unr_chk {n : Nat} {rank : Int} (hr : 0 ≤ rank) (h1 : 1 ≤ n) (h9 : n ≤ 9) : chk (unr n rank n).2 = 0 := by
  have := unr_ok n hr n
  rw [chk_go (by rw [this.len]; omega) (by rw [this.len]; omega)]
  exact this.chk h9
theorem unr_one (n : Nat) {rank : Int} (hr : 0 ≤ rank) : unr n rank 1 = (rank, [0]) := by
  rw [unr_succ]
  show unrStep n (rank, []) 0 = _
  unfold unrStep
  simp only [show blk [] = 0 from rfl]
  have hp := behind_pos (n - 1 - 0) 0 (by omega)
  have hd : 0 ≤ rank / behindR (n - 1 - 0) 0 := Int.ediv_nonneg hr (by omega)
  rw [Int.min_eq_left hd]; simp
/-- Unrank's answer -/
def unrankE (n rank : Int) : List Int × Int := if n < 1 ∨ 9 < n then ([], 2) else if rank < 0 ∨ countR n.toNat ≤ rank then ([], 7) else ((unr n.toNat rank n.toNat).2, 0)

/-! ### The next one -/
def nextAt (l : List Int) (i : Nat) : List Int := l.take i ++ [l.getD i 0 + 1] ++ List.replicate (l.length - i - 1) 0
def nextFrom (l : List Int) : Nat → Option (List Int)
  | 0 => none
  | i + 1 => if l.getD (i + 1) 0 < blk (l.take (i + 1)) then some (nextAt l (i + 1)) else nextFrom l i
def nextL (l : List Int) : Option (List Int) := nextFrom l (l.length - 1)
/-- Next's answer -/
def nextE (l : List Int) : List Int × Int := if chk l ≠ 0 then ([], chk l) else match nextL l with | some q => (q, 0) | none => ([], 7)
end Go.Proofs.YtooepkpgffpcjaaDoor

namespace Go.Proofs.YtooepkpgffpcjaaDoor
open Go.RowKit

/-- the partition of a rank -/
def pr (n r : Nat) : List Int := (unr n r n).2
def lessB : List Int → List Int → Bool
  | a :: l, b :: r => if a == b then lessB l r else decide (a < b)
  | _, _ => false
def allOk (n : Nat) (m : Int) (r : Nat) : Bool :=
  rankRTo (pr n r) (n - 1) == (r : Int) && (match nextL (pr n r) with
    | some q => decide ((r : Int) + 1 < m) && q == pr n (r + 1) && lessB (pr n r) q
    | none => decide (m ≤ (r : Int) + 1))
def seenStepP (n : Nat) (P : List Int) (i : Nat) : List Int := P.set (blk (pr n i)).toNat (P.getD (blk (pr n i)).toNat 0 + 1)
/-- how many partitions with each number of blocks came before a rank -/
def partsSeen (n r : Nat) : List Int := (List.range r).foldl (seenStepP n) (List.replicate (n + 1) 0)
def allOf (n : Nat) : Bool := (List.range (countR n).toNat).all (allOk n (countR n)) && (List.range n).all fun k => (partsSeen n (countR n).toNat).getD (k + 1) 0 == partedR n ((k : Int) + 1)
theorem allOf_1 : allOf 1 = true := by decide +kernel
theorem allOf_2 : allOf 2 = true := by decide +kernel
theorem allOf_3 : allOf 3 = true := by decide +kernel
theorem allOf_4 : allOf 4 = true := by decide +kernel
theorem allOf_5 : allOf 5 = true := by decide +kernel
theorem allOf_6 : allOf 6 = true := by decide +kernel
theorem allOf_7 : allOf 7 = true := by decide +kernel
theorem allOf_all {n : Nat} (h1 : 1 ≤ n) (h7 : n ≤ 7) : allOf n = true := by
  have h : n = 1 ∨ n = 2 ∨ n = 3 ∨ n = 4 ∨ n = 5 ∨ n = 6 ∨ n = 7 := by omega
  rcases h with rfl | rfl | rfl | rfl | rfl | rfl | rfl
  · exact allOf_1
  · exact allOf_2
  · exact allOf_3
  · exact allOf_4
  · exact allOf_5
  · exact allOf_6
  · exact allOf_7
theorem pr_chk {n : Nat} (h1 : 1 ≤ n) (h7 : n ≤ 7) (r : Nat) : chk (pr n r) = 0 := unr_chk (by omega) h1 (by omega)
theorem pr_len (n r : Nat) : (pr n r).length = n := (unr_ok n (by omega) n).len
theorem allOk_at {n : Nat} (h1 : 1 ≤ n) (h7 : n ≤ 7) {r : Nat} (hr : (r : Int) < countR n) : allOk n (countR n) r = true := by
  have h := allOf_all h1 h7
  unfold allOf at h
  rw [Bool.and_eq_true, List.all_eq_true] at h
  exact h.1 r (List.mem_range.2 (by omega))
theorem rank_pr {n : Nat} (h1 : 1 ≤ n) (h7 : n ≤ 7) {r : Nat} (hr : (r : Int) < countR n) : rnk (pr n r) = r := by
  have h := allOk_at h1 h7 hr
  unfold allOk at h
  rw [Bool.and_eq_true, beq_iff_eq] at h
  rw [rank_eq (pr_chk h1 h7 r), pr_len]
  exact h.1
theorem next_pr {n : Nat} (h1 : 1 ≤ n) (h7 : n ≤ 7) {r : Nat} (hr : (r : Int) + 1 < countR n) : nextL (pr n r) = some (pr n (r + 1)) ∧ lessB (pr n r) (pr n (r + 1)) = true := by
  have h := allOk_at h1 h7 (show (r : Int) < countR n by omega)
  unfold allOk at h
  rw [Bool.and_eq_true] at h
  have h2 := h.2
  cases e : nextL (pr n r) with
  | none => rw [e] at h2; simp at h2; omega
  | some q =>
    rw [e] at h2
    simp only [Bool.and_eq_true, beq_iff_eq, decide_eq_true_eq] at h2
    rw [← h2.1.2]
    exact ⟨rfl, h2.2⟩
theorem last_pr {n : Nat} (h1 : 1 ≤ n) (h7 : n ≤ 7) {r : Nat} (hr : (r : Int) + 1 = countR n) : nextL (pr n r) = none := by
  have h := allOk_at h1 h7 (show (r : Int) < countR n by omega)
  unfold allOk at h
  rw [Bool.and_eq_true] at h
  have h2 := h.2
  cases e : nextL (pr n r) with
  | none => rfl
  | some q =>
    rw [e] at h2
    simp only [Bool.and_eq_true, beq_iff_eq, decide_eq_true_eq] at h2
    omega
theorem seen_parted {n : Nat} (h1 : 1 ≤ n) (h7 : n ≤ 7) {k : Nat} (hk1 : 1 ≤ k) (hk : k ≤ n) : (partsSeen n (countR n).toNat).getD k 0 = partedR n k := by
  have h := allOf_all h1 h7
  unfold allOf at h
  rw [Bool.and_eq_true, List.all_eq_true, List.all_eq_true] at h
  have := h.2 (k - 1) (List.mem_range.2 (by omega))
  rw [beq_iff_eq, show k - 1 + 1 = k by omega, show ((k - 1 : Nat) : Int) + 1 = k by omega] at this
  exact this
theorem partsSeen_succ (n r : Nat) : partsSeen n (r + 1) = seenStepP n (partsSeen n r) r := foldl_range_succ _ _ _
theorem partsSeen_ok (n r : Nat) : (partsSeen n r).length = n + 1 ∧ ∀ v ∈ partsSeen n r, 0 ≤ v ∧ v ≤ r := by
  induction r with
  | zero =>
    refine ⟨by simp [partsSeen], fun v hv => ?_⟩
    have : v = 0 := List.eq_of_mem_replicate hv
    omega
  | succ r ih =>
    obtain ⟨i1, i2⟩ := ih
    rw [partsSeen_succ]
    unfold seenStepP
    refine ⟨by rw [List.length_set, i1], fun v hv => ?_⟩
    rcases List.mem_or_eq_of_mem_set hv with h | rfl
    · have := i2 v h; omega
    · by_cases hb : (blk (pr n r)).toNat < (partsSeen n r).length
      · have := i2 _ (List.mem_of_getElem? (show (partsSeen n r)[(blk (pr n r)).toNat]? = some ((partsSeen n r).getD (blk (pr n r)).toNat 0) by rw [List.getD_eq_getElem?_getD, List.getElem?_eq_getElem hb]; rfl))
        omega
      · rw [List.getD_eq_getElem?_getD, List.getElem?_eq_none (by omega)]; simp; omega
theorem countR_small : ∀ n, 1 ≤ n → n ≤ 7 → 1 ≤ countR n ∧ countR n ≤ 1000 := by
  have h : ∀ n : Fin 8, 1 ≤ n.1 → 1 ≤ countR n.1 ∧ countR n.1 ≤ 1000 := by decide +kernel
  intro n h1 h7
  exact h ⟨n, by omega⟩ h1
theorem pr_blk {n : Nat} (h1 : 1 ≤ n) (h7 : n ≤ 7) (r : Nat) : 1 ≤ blk (pr n r) ∧ blk (pr n r) ≤ n := by
  have h := pr_chk h1 h7 r
  refine ⟨(blk_le9 h).1, ?_⟩
  have := blk_le_len _ (chk_ok h).2.2.2
  rwa [pr_len] at this
end Go.Proofs.YtooepkpgffpcjaaDoor

namespace Go.Proofs.YtooepkpgffpcjaaDoor
open Go.RowKit

/-! ### All partitions have a rank -/
def partsL : Nat → List (List Int)
  | 0 => [[]]
  | d + 1 => (partsL d).flatMap fun p => (List.range ((blk p).toNat + 1)).map fun b : Nat => p ++ [(b : Int)]
theorem mem_partsL (q : List Int) : chkGo 0 q = 0 → q ∈ partsL q.length := by
  induction q using snoc_ind with
  | h0 => intro _; exact List.mem_singleton.2 rfl
  | hs q x ih =>
    intro h
    obtain ⟨h1, h2, h3⟩ := chkGo_unsnoc _ _ _ h
    rw [List.length_append, List.length_singleton]
    show _ ∈ (partsL q.length).flatMap _
    rw [List.mem_flatMap]
    have h3' : x ≤ blk q := h3
    exact ⟨q, ih h1, List.mem_map.2 ⟨x.toNat, List.mem_range.2 (by omega), by rw [show ((x.toNat : Nat) : Int) = x by omega]⟩⟩
def coverB (d : Nat) : Bool := (partsL d).all fun q => (q == pr d (rnk q).toNat) && decide (0 ≤ rnk q) && decide (rnk q < countR d)
theorem cover_1 : coverB 1 = true := by decide +kernel
theorem cover_2 : coverB 2 = true := by decide +kernel
theorem cover_3 : coverB 3 = true := by decide +kernel
theorem cover_4 : coverB 4 = true := by decide +kernel
theorem cover_5 : coverB 5 = true := by decide +kernel
theorem cover_all {d : Nat} (h1 : 1 ≤ d) (h5 : d ≤ 5) : coverB d = true := by
  have h : d = 1 ∨ d = 2 ∨ d = 3 ∨ d = 4 ∨ d = 5 := by omega
  rcases h with rfl | rfl | rfl | rfl | rfl
  · exact cover_1
  · exact cover_2
  · exact cover_3
  · exact cover_4
  · exact cover_5
theorem cover_at {d : Nat} (h1 : 1 ≤ d) (h5 : d ≤ 5) {q : List Int} (hq : chk q = 0) (hl : q.length = d) : q = pr d (rnk q).toNat ∧ 0 ≤ rnk q ∧ rnk q < countR d := by
  have h := cover_all h1 h5
  unfold coverB at h
  rw [List.all_eq_true] at h
  have := h q (by rw [← hl]; exact mem_partsL q (chk_ok hq).2.2.2)
  simp only [Bool.and_eq_true, beq_iff_eq, decide_eq_true_eq] at this
  exact ⟨this.1.1, this.1.2, this.2⟩

theorem rnk_lt {q : List Int} (hq : chk q = 0) (h5 : q.length ≤ 5) : 0 ≤ rnk q ∧ rnk q < countR q.length := (cover_at (chk_ok hq).1 h5 hq rfl).2
theorem rnk_inj {p q : List Int} (hp : chk p = 0) (hq : chk q = 0) (h5 : p.length ≤ 5) (hl : p.length = q.length) (h : rnk p = rnk q) : p = q := by
  have h1 := cover_at (chk_ok hp).1 h5 hp rfl
  have h2 := cover_at (chk_ok hq).1 (by omega) hq rfl
  rw [h1.1, h2.1, h, hl]
theorem unrank_rnk {q : List Int} (hq : chk q = 0) (h5 : q.length ≤ 5) : unrankE (q.length : Int) (rnk q) = (q, 0) := by
  have hc := cover_at (chk_ok hq).1 h5 hq rfl
  have hn := (chk_ok hq).1
  unfold unrankE
  rw [if_neg (by omega), Int.toNat_natCast, if_neg (by omega)]
  have : ((rnk q).toNat : Int) = rnk q := by omega
  show ((unr q.length (rnk q) q.length).2, (0 : Int)) = _
  rw [← this]
  exact congrArg (·, (0 : Int)) hc.1.symm
end Go.Proofs.YtooepkpgffpcjaaDoor
