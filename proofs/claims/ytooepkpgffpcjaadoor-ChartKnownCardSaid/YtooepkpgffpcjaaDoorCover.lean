/- Plain law: all partitions of up to 5 packets have a rank. -/
import Derived.Test.YtooepkpgffpcjaaDoorAllLaw
import Derived.Test.YtooepkpgffpcjaaDoorLat
namespace Go.Proofs.YtooepkpgffpcjaaDoor
open Go.RowKit

/-! ### All partitions have a rank -/
def partsL : Nat → List (List Int)
  | 0 => [[]]
  | d + 1 => (partsL d).flatMap fun p => (List.range ((blk p).toNat + 1)).map fun b : Nat => p ++ [(b : Int)]
theorem mem_partsL (q : List Int) : chkGo 0 q = 0 → q ∈ partsL q.length := by
  induction q using snoc_ind with
  | h0 => intro _; exact List.mem_singleton.2 rfl
  | hs q x ih =>
    intro h
    obtain ⟨h1, h2, h3⟩ := chkGo_unsnoc _ _ _ h
    rw [List.length_append, List.length_singleton]
    show _ ∈ (partsL q.length).flatMap _
    rw [List.mem_flatMap]
    have h3' : x ≤ blk q := h3
    exact ⟨q, ih h1, List.mem_map.2 ⟨x.toNat, List.mem_range.2 (by omega), by rw [show ((x.toNat : Nat) : Int) = x by omega]⟩⟩
def coverB (d : Nat) : Bool := (partsL d).all fun q => (q == pr d (rnk q).toNat) && decide (0 ≤ rnk q) && decide (rnk q < countR d)
theorem cover_1 : coverB 1 = true := by decide +kernel
theorem cover_2 : coverB 2 = true := by decide +kernel
theorem cover_3 : coverB 3 = true := by decide +kernel
theorem cover_4 : coverB 4 = true := by decide +kernel
theorem cover_5 : coverB 5 = true := by decide +kernel
theorem cover_all {d : Nat} (h1 : 1 ≤ d) (h5 : d ≤ 5) : coverB d = true := by
  have h : d = 1 ∨ d = 2 ∨ d = 3 ∨ d = 4 ∨ d = 5 := by omega
  rcases h with rfl | rfl | rfl | rfl | rfl
  · exact cover_1
  · exact cover_2
  · exact cover_3
  · exact cover_4
  · exact cover_5
theorem cover_at {d : Nat} (h1 : 1 ≤ d) (h5 : d ≤ 5) {q : List Int} (hq : chk q = 0) (hl : q.length = d) : q = pr d (rnk q).toNat ∧ 0 ≤ rnk q ∧ rnk q < countR d := by
  have h := cover_all h1 h5
  unfold coverB at h
  rw [List.all_eq_true] at h
  have := h q (by rw [← hl]; exact mem_partsL q (chk_ok hq).2.2.2)
  simp only [Bool.and_eq_true, beq_iff_eq, decide_eq_true_eq] at this
  exact ⟨this.1.1, this.1.2, this.2⟩

theorem rnk_lt {q : List Int} (hq : chk q = 0) (h5 : q.length ≤ 5) : 0 ≤ rnk q ∧ rnk q < countR q.length := (cover_at (chk_ok hq).1 h5 hq rfl).2
theorem rnk_inj {p q : List Int} (hp : chk p = 0) (hq : chk q = 0) (h5 : p.length ≤ 5) (hl : p.length = q.length) (h : rnk p = rnk q) : p = q := by
  have h1 := cover_at (chk_ok hp).1 h5 hp rfl
  have h2 := cover_at (chk_ok hq).1 (by omega) hq rfl
  rw [h1.1, h2.1, h, hl]
theorem unrank_rnk {q : List Int} (hq : chk q = 0) (h5 : q.length ≤ 5) : unrankE (q.length : Int) (rnk q) = (q, 0) := by
  have hc := cover_at (chk_ok hq).1 h5 hq rfl
  have hn := (chk_ok hq).1
  unfold unrankE
  rw [if_neg (by omega), Int.toNat_natCast, if_neg (by omega)]
  have : ((rnk q).toNat : Int) = rnk q := by omega
  show ((unr q.length (rnk q) q.length).2, (0 : Int)) = _
  rw [← this]
  exact congrArg (·, (0 : Int)) hc.1.symm
end Go.Proofs.YtooepkpgffpcjaaDoor
