/- Plain law: ranks: the program's table of endings is the reference's behind; so ranks and partitions of ranks are alike. -/
import Derived.Test.YtooepkpgffpcjaaDoorParts
import Derived.Test.YtooepkpgffpcjaaDoorLat
namespace Go.Proofs.YtooepkpgffpcjaaDoor
open Go.RowKit

/-- the reference's behind -/
def behindR : Nat → Int → Int
  | 0, _ => 1
  | n + 1, b => b * behindR n b + behindR n (b + 1)
theorem behind_eq : ∀ m, m < 9 → ∀ b : Nat, m + b < 11 → endL.getD (m * 11 + b) 0 = behindR m b := by
  have h : ∀ m : Fin 9, ∀ b : Fin 11, m.1 + b.1 < 11 → endL.getD (m.1 * 11 + b.1) 0 = behindR m.1 (b.1 : Int) := by decide +kernel
  intro m hm b hb
  exact h ⟨m, hm⟩ ⟨b, by omega⟩ hb
theorem behind_pos (m : Nat) : ∀ b : Int, 0 ≤ b → 1 ≤ behindR m b := by
  induction m with
  | zero => intro b _; exact Int.le_refl _
  | succ m ih =>
    intro b hb
    have h1 := ih b hb
    have h2 := ih (b + 1) (by omega)
    have h3 : 0 ≤ b * behindR m b := Int.mul_nonneg hb (by omega)
    show 1 ≤ b * behindR m b + behindR m (b + 1)
    omega

/-- the reference's rank, behind the first k packets (but the first) -/
def rankRTo (l : List Int) (k : Nat) : Int := (List.range k).foldl (fun n i => n + l.getD (i + 1) 0 * behindR (l.length - 1 - (i + 1)) (blk (l.take (i + 1)))) 0
theorem head_zero {l : List Int} (h : chk l = 0) : l.getD 0 0 = 0 := by
  have h1 := chk_ok h
  cases l with
  | nil => rfl
  | cons a r =>
    have := h1.2.2.2
    simp only [chkGo] at this
    split at this
    · cases this
    · split at this
      · cases this
      · show a = 0; omega
theorem blk_le_len (p : List Int) (h : chkGo 0 p = 0) : blk p ≤ p.length := by
  induction p using snoc_ind with
  | h0 => simp [blk]
  | hs p x ih =>
    obtain ⟨h1, _, h3⟩ := chkGo_unsnoc p x 0 h
    have h2 := ih h1
    have h3' : x ≤ blk p := h3
    have hb : blk (p ++ [x]) = max (blk p) (x + 1) := by simp [blk]
    rw [hb]; simp; omega
theorem blk_take_le {l : List Int} (h : chk l = 0) (k : Nat) : 0 ≤ blk (l.take k) ∧ blk (l.take k) ≤ k :=
  ⟨le_foldl_max _ _, Int.le_trans (blk_le_len _ (chk_take h k)) (by have := List.length_take_le k l; omega)⟩

theorem rank_eq_to {l : List Int} (h : chk l = 0) (k : Nat) (hk : k + 1 ≤ l.length) : rankTo l (k + 1) = rankRTo l k := by
  have h9 := (chk_ok h).2.1
  induction k with
  | zero =>
    have e : rankTo l 1 = rankTo l 0 + l.getD 0 0 * endL.getD ((l.length - 0 - 1) * 11 + (blk (l.take 0)).toNat) 0 := foldl_range_succ _ _ _
    rw [e, head_zero h]
    simp [rankTo, rankRTo]
  | succ k ih =>
    have e1 : rankTo l (k + 1 + 1) = rankTo l (k + 1) + l.getD (k + 1) 0 * endL.getD ((l.length - (k + 1) - 1) * 11 + (blk (l.take (k + 1))).toNat) 0 := foldl_range_succ _ _ _
    have e2 : rankRTo l (k + 1) = rankRTo l k + l.getD (k + 1) 0 * behindR (l.length - 1 - (k + 1)) (blk (l.take (k + 1))) := foldl_range_succ _ _ _
    have hb := blk_take_le h (k + 1)
    rw [e1, e2, ih (by omega), behind_eq _ (by omega) _ (by omega), show l.length - (k + 1) - 1 = l.length - 1 - (k + 1) by omega]
    congr 3
    omega
theorem rank_eq {l : List Int} (h : chk l = 0) : rnk l = rankRTo l (l.length - 1) := by
  have h1 := (chk_ok h).1
  unfold rnk
  rw [← rank_eq_to h (l.length - 1) (by omega), show l.length - 1 + 1 = l.length by omega]

/-! ### Partitions of ranks -/
def unrStep (n : Nat) (s : Int × List Int) (i : Nat) : Int × List Int :=
  (s.1 - min (blk s.2) (s.1 / behindR (n - 1 - i) (blk s.2)) * behindR (n - 1 - i) (blk s.2), s.2 ++ [min (blk s.2) (s.1 / behindR (n - 1 - i) (blk s.2))])
def unr (n : Nat) (rank : Int) (k : Nat) : Int × List Int := (List.range k).foldl (unrStep n) (rank, [])
theorem unr_succ (n : Nat) (rank : Int) (k : Nat) : unr n rank (k + 1) = unrStep n (unr n rank k) k := foldl_range_succ _ _ _
/-- what is known of the state behind k rounds -/
structure UnrOk (rank : Int) (k : Nat) (s : Int × List Int) : Prop where
  len : s.2.length = k
  low : 0 ≤ s.1
  high : s.1 ≤ rank
  good : ∀ v ∈ s.2, 0 ≤ v ∧ v < k
  chk : k ≤ 9 → chkGo 0 s.2 = 0
theorem unr_ok (n : Nat) {rank : Int} (hr : 0 ≤ rank) (k : Nat) : UnrOk rank k (unr n rank k) := by
  induction k with
  | zero => exact ⟨rfl, hr, Int.le_refl _, by simp [unr], fun _ => rfl⟩
  | succ k ih =>
    rw [unr_succ]
    generalize unr n rank k = s at ih
    obtain ⟨r, p⟩ := s
    obtain ⟨i1, i2, i3, i4, i5⟩ := ih
    simp only at i1 i2 i3 i4 i5
    have hb0 : 0 ≤ blk p := le_foldl_max _ _
    have hbk : blk p ≤ k := foldl_max_lt p k 0 (fun v hv => (i4 v hv).2) (by omega)
    have hp := behind_pos (n - 1 - k) (blk p) hb0
    unfold unrStep
    simp only
    generalize behindR (n - 1 - k) (blk p) = e at hp
    have hd : 0 ≤ r / e := Int.ediv_nonneg i2 (by omega)
    have hm : r / e * e ≤ r := Int.ediv_mul_le r (by omega)
    generalize hx : min (blk p) (r / e) = x
    have hx0 : 0 ≤ x := by omega
    have hx1 : x ≤ r / e := by omega
    have hx2 : x ≤ blk p := by omega
    have hxe : x * e ≤ r / e * e := Int.mul_le_mul_of_nonneg_right hx1 (by omega)
    have hxe0 : 0 ≤ x * e := Int.mul_nonneg hx0 (by omega)
    refine ⟨by simp [i1], by simp only; omega, by simp only; omega, fun v hv => ?_, fun h9 => ?_⟩
    · rcases List.mem_append.1 hv with hv | hv
      · have := i4 v hv; omega
      · simp at hv; subst hv; omega
    · exact chkGo_snoc _ 0 _ (i5 (by omega)) hx0 (by omega) hx2
theorem unr_chk {n : Nat} {rank : Int} (hr : 0 ≤ rank) (h1 : 1 ≤ n) (h9 : n ≤ 9) : chk (unr n rank n).2 = 0 := by
  have := unr_ok n hr n
  rw [chk_go (by rw [this.len]; omega) (by rw [this.len]; omega)]
  exact this.chk h9
theorem unr_one (n : Nat) {rank : Int} (hr : 0 ≤ rank) : unr n rank 1 = (rank, [0]) := by
  rw [unr_succ]
  show unrStep n (rank, []) 0 = _
  unfold unrStep
  simp only [show blk [] = 0 from rfl]
  have hp := behind_pos (n - 1 - 0) 0 (by omega)
  have hd : 0 ≤ rank / behindR (n - 1 - 0) 0 := Int.ediv_nonneg hr (by omega)
  rw [Int.min_eq_left hd]; simp
/-- Unrank's answer -/
def unrankE (n rank : Int) : List Int × Int := if n < 1 ∨ 9 < n then ([], 2) else if rank < 0 ∨ countR n.toNat ≤ rank then ([], 7) else ((unr n.toNat rank n.toNat).2, 0)

/-! ### The next one -/
def nextAt (l : List Int) (i : Nat) : List Int := l.take i ++ [l.getD i 0 + 1] ++ List.replicate (l.length - i - 1) 0
def nextFrom (l : List Int) : Nat → Option (List Int)
  | 0 => none
  | i + 1 => if l.getD (i + 1) 0 < blk (l.take (i + 1)) then some (nextAt l (i + 1)) else nextFrom l i
def nextL (l : List Int) : Option (List Int) := nextFrom l (l.length - 1)
/-- Next's answer -/
def nextE (l : List Int) : List Int × Int := if chk l ≠ 0 then ([], chk l) else match nextL l with | some q => (q, 0) | none => ([], 7)
end Go.Proofs.YtooepkpgffpcjaaDoor
