/- Plain lemmas on lists that Check lets pass. -/
import Derived.Test.YtooepkpgffpcjaaDoorBase
namespace Go.Proofs.YtooepkpgffpcjaaDoor
open Go.RowKit

theorem chkGo_ok {l : List Int} {nx : Int} (h : chkGo nx l = 0) : ∀ v ∈ l, 0 ≤ v ∧ v < 9 := by
  induction l generalizing nx with
  | nil => simp
  | cons a l ih =>
    simp only [chkGo] at h
    split at h
    · cases h
    · split at h
      · cases h
      · intro v hv
        rcases List.mem_cons.1 hv with rfl | hv
        · omega
        · exact ih h v hv
theorem chk_ok {l : List Int} (h : chk l = 0) : 1 ≤ l.length ∧ l.length ≤ 9 ∧ (∀ v ∈ l, 0 ≤ v ∧ v < 9) ∧ chkGo 0 l = 0 := by
  unfold chk at h
  split at h
  · cases h
  · split at h
    · cases h
    · exact ⟨by omega, by omega, chkGo_ok h, h⟩
theorem chk_small {l : List Int} (h : chk l = 0) : Small l := fun v hv => by have := (chk_ok h).2.2.1 v hv; omega
theorem chk2_ok {l r : List Int} (h : chk2 l r = 0) : chk l = 0 ∧ chk r = 0 ∧ l.length = r.length := by
  unfold chk2 at h
  split at h
  · contradiction
  · split at h
    · contradiction
    · split at h
      · cases h
      · omega
theorem foldl_max_lt (l : List Int) (M a : Int) (h : ∀ v ∈ l, v < M) (ha : a ≤ M) : l.foldl (fun n v => max n (v + 1)) a ≤ M := by
  induction l generalizing a with
  | nil => exact ha
  | cons x r ih =>
    have := h x (by simp)
    exact ih (max a (x + 1)) (fun v hv => h v (List.mem_cons_of_mem _ hv)) (by omega)
theorem le_foldl_max (l : List Int) (a : Int) : a ≤ l.foldl (fun n v => max n (v + 1)) a := by
  induction l generalizing a with
  | nil => exact Int.le_refl _
  | cons x r ih => exact Int.le_trans (by show a ≤ max a (x + 1); omega) (ih _)
theorem blk_le9 {l : List Int} (h : chk l = 0) : 1 ≤ blk l ∧ blk l ≤ 9 := by
  obtain ⟨h1, _, h3, _⟩ := chk_ok h
  refine ⟨?_, foldl_max_lt l 9 0 (fun v hv => (h3 v hv).2) (by omega)⟩
  cases l with
  | nil => simp at h1
  | cons a r =>
    have ha := h3 a (by simp)
    have := le_foldl_max r (max 0 (a + 1))
    show 1 ≤ r.foldl (fun n v => max n (v + 1)) (max 0 (a + 1))
    omega

end Go.Proofs.YtooepkpgffpcjaaDoor
