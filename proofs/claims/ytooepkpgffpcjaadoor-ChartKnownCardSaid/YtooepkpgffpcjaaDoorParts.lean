/- Plain law: how many partitions there are, and how many of them have so many blocks: the program's tables are the reference's sums. -/
import Derived.Test.YtooepkpgffpcjaaDoorRank
namespace Go.Proofs.YtooepkpgffpcjaaDoor
open Go.RowKit

/-- the reference's parted -/
def partedR : Nat → Int → Int
  | 0, _ => 0
  | n + 1, b => if b < 1 ∨ (n : Int) + 1 < b then 0 else if n = 0 then 1 else partedR n (b - 1) + b * partedR n b
/-- the reference's count, behind k rounds -/
def countTo (n k : Nat) : Int := (List.range k).foldl (fun (s : Int) (i : Nat) => s + partedR n ((i : Int) + 1)) 0
def countR (n : Nat) : Int := countTo n n

def zeros10 : List Int := List.replicate 10 0
/-- one round of the program's inner loop, at b = 9 - j -/
def partIn (P : List Int) (j : Nat) : List Int := P.set (9 - j) (((9 - j : Nat) : Int) * P.getD (9 - j) 0 + P.getD (8 - j) 0)
def partRow (P : List Int) (j : Nat) : List Int := (List.range j).foldl partIn P
def partTo : Nat → List Int
  | 0 => zeros10.set 0 1
  | n + 1 => (partRow (partTo n) 9).set 0 0
def okParts (e : List Int) : Bool := e.length == 10 && e.all fun v => decide (0 ≤ v) && decide (v ≤ 10000000000)
theorem okParts_all : ∀ r, r < 10 → ∀ j, j < 10 → okParts (partRow (partTo r) j) = true := by
  have h : ∀ r : Fin 10, ∀ j : Fin 10, okParts (partRow (partTo r) j) = true := by decide +kernel
  intro r hr j hj
  exact h ⟨r, hr⟩ ⟨j, hj⟩
theorem okParts_len {e : List Int} (h : okParts e = true) : e.length = 10 := by
  unfold okParts at h; simp only [Bool.and_eq_true, beq_iff_eq] at h; exact h.1
theorem okParts_bd {e : List Int} (h : okParts e = true) {j : Nat} {v : Int} (hv : e[j]? = some v) : 0 ≤ v ∧ v ≤ 10000000000 := by
  unfold okParts at h; simp only [Bool.and_eq_true, beq_iff_eq, List.all_eq_true, decide_eq_true_eq] at h
  exact h.2 v (List.mem_of_getElem? hv)
theorem parts_eq : ∀ n, n < 10 → ∀ k, k < 10 → 1 ≤ n → 1 ≤ k → (partTo n).getD k 0 = partedR n k := by
  have h : ∀ n : Fin 10, ∀ k : Fin 10, 1 ≤ n.1 → 1 ≤ k.1 → (partTo n).getD k 0 = partedR n (k.1 : Int) := by decide +kernel
  intro n hn k hk
  exact h ⟨n, hn⟩ ⟨k, hk⟩
theorem count_eq : ∀ n, n < 10 → 1 ≤ n → endL.getD (n * 11) 0 = countR n := by
  have h : ∀ n : Fin 10, 1 ≤ n.1 → endL.getD (n.1 * 11) 0 = countR n.1 := by decide +kernel
  intro n hn
  exact h ⟨n, hn⟩
theorem parted_bd : ∀ n, n < 10 → ∀ k : Int, 0 ≤ partedR n k ∧ partedR n k ≤ 100000 := by
  have h : ∀ n : Fin 10, ∀ k : Fin 12, 0 ≤ partedR n.1 (k.1 : Int) ∧ partedR n.1 (k.1 : Int) ≤ 100000 := by decide +kernel
  intro n hn k
  by_cases hk : 0 ≤ k ∧ k < 12
  · have := h ⟨n, hn⟩ ⟨k.toNat, by omega⟩
    simp only at this
    rw [show ((k.toNat : Nat) : Int) = k by omega] at this
    exact this
  · cases n with
    | zero => simp [partedR]
    | succ n => unfold partedR; rw [if_pos (by omega)]; omega
theorem countTo_succ (n k : Nat) : countTo n (k + 1) = countTo n k + partedR n ((k : Int) + 1) := foldl_range_succ _ _ _
theorem countTo_bd {n : Nat} (hn : n < 10) (k : Nat) : 0 ≤ countTo n k ∧ countTo n k ≤ k * 100000 := by
  induction k with
  | zero => simp [countTo]
  | succ k ih =>
    have := parted_bd n hn ((k : Int) + 1)
    rw [countTo_succ]; omega

/-- Count's answer -/
def countE (n : Int) : Int × Int := if n < 1 ∨ 9 < n then (0, 2) else (countR n.toNat, 0)
/-- Parted's answer -/
def partedE (n k : Int) : Int × Int := if n < 1 ∨ 9 < n ∨ k < 1 ∨ n < k then (0, 2) else (partedR n.toNat k, 0)
end Go.Proofs.YtooepkpgffpcjaaDoor
