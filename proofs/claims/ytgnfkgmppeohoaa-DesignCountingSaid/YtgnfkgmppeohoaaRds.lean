/- Plain law: the orders of Rounds. -/
import Derived.Test.YtgnfkgmppeohoaaChk
namespace Go.Proofs.Ytgnfkgmppeohoaa
open Go.RowKit

/-- the first order, behind so many rounds of its loop -/
def zigStep (n : Nat) (l : List Int) (i : Nat) : List Int := if 1 + i < n - 1 - i then l ++ [((1 + i : Nat) : Int)] ++ [((n - 1 - i : Nat) : Int)] else l ++ [((1 + i : Nat) : Int)]
def zigTo (n m : Nat) : List Int := (List.range m).foldl (zigStep n) [0]
def firstR (n : Nat) : List Int := zigTo n (n / 2)
def turnR (n i : Nat) (g : Int) : Int := (g + i) % n
def rowRd (n i : Nat) : List Int := (firstR n).map (turnR n i)
def fwdTo (n k : Nat) : List (List Int) := (List.range k).map (rowRd n)
def backTo (n k : Nat) : List (List Int) := (List.range k).map fun i => (rowRd n i).reverse
def roundsL (n : Nat) : List (List Int) := if n % 2 = 1 ∧ 1 < n then fwdTo n n ++ backTo n n else fwdTo n n
def roundsE (n : Int) : List (List Int) × Int := if n < 1 ∨ 12 < n then ([], 2) else (roundsL n.toNat, 0)
theorem zigTo_succ (n m : Nat) : zigTo n (m + 1) = zigStep n (zigTo n m) m := foldl_range_succ _ _ _
theorem fwdTo_succ (n k : Nat) : fwdTo n (k + 1) = fwdTo n k ++ [rowRd n k] := by unfold fwdTo; rw [List.range_succ, List.map_append]; rfl
theorem backTo_succ (n k : Nat) : backTo n (k + 1) = backTo n k ++ [(rowRd n k).reverse] := by unfold backTo; rw [List.range_succ, List.map_append]; rfl
theorem fwdTo_len (n k : Nat) : (fwdTo n k).length = k := by simp [fwdTo]
theorem backTo_len (n k : Nat) : (backTo n k).length = k := by simp [backTo]
def zigOk (n m : Nat) : Bool := (zigTo n m).all (fun g => decide (0 ≤ g) && decide (g < n)) && decide ((zigTo n m).length = if 2 * m = n then 2 * m else 2 * m + 1)
theorem zig_ok : ∀ n, n < 13 → ∀ m, m < 7 → 1 ≤ n → m ≤ n / 2 → zigOk n m = true := by decide +kernel
theorem first_len {n : Nat} (h1 : 1 ≤ n) (h : n ≤ 12) : (firstR n).length = n := by
  have h := zig_ok n (by omega) (n / 2) (by omega) h1 (Nat.le_refl _)
  unfold zigOk at h
  rw [Bool.and_eq_true, decide_eq_true_eq] at h
  unfold firstR
  rw [h.2]
  split <;> omega
theorem zig_mem {n m : Nat} (h1 : 1 ≤ n) (h : n ≤ 12) (hm : m ≤ n / 2) : ∀ g ∈ zigTo n m, 0 ≤ g ∧ g < n := by
  have h := zig_ok n (by omega) m (by omega) h1 hm
  unfold zigOk at h
  rw [Bool.and_eq_true, List.all_eq_true] at h
  intro g hg
  simpa using h.1 g hg
theorem zig_len {n m : Nat} (h1 : 1 ≤ n) (h : n ≤ 12) (hm : m ≤ n / 2) : (zigTo n m).length = if 2 * m = n then 2 * m else 2 * m + 1 := by
  have h := zig_ok n (by omega) m (by omega) h1 hm
  unfold zigOk at h
  rw [Bool.and_eq_true, decide_eq_true_eq] at h
  exact h.2
theorem rowRd_len {n : Nat} (h1 : 1 ≤ n) (h : n ≤ 12) (i : Nat) : (rowRd n i).length = n := by unfold rowRd; rw [List.length_map]; exact first_len h1 h
end Go.Proofs.Ytgnfkgmppeohoaa
