/- Walks: sign, slices.Index at bars, slices.Index and Contains at numbers, bars. -/
import Derived.Test.YtgnfkgmppeohoaaOf
namespace Go.Proofs.Ytgnfkgmppeohoaa
open Go.RowKit

/-! ### slices.Index, slices.Contains at numbers -/
/-- where a number stands first, or -1 -/
def idxI (l : List Int) (v : Int) : Int := if v ∈ l then (l.idxOf v : Int) else -1
theorem idxI_at {l : List Int} {v : Int} {k : Nat} (hv : l[k]? = some v) (h : ∀ j, j < k → l[j]? ≠ some v) : idxI l v = k := by unfold idxI; rw [if_pos (List.mem_of_getElem? hv), idx_eq hv h]
theorem idxI_none {l : List Int} {v : Int} (h : ∀ j, j < l.length → l[j]? ≠ some v) : idxI l v = -1 := by unfold idxI; rw [if_neg (idx_none h).2]
theorem idxI_in {l : List Int} {v : Int} (h : v ∈ l) : 0 ≤ idxI l v := by unfold idxI; rw [if_pos h]; omega
theorem idxI_out {l : List Int} {v : Int} (h : v ∉ l) : idxI l v = -1 := by unfold idxI; rw [if_neg h]
def hasI (l : List Int) (v : Int) : Bool := decide (v ∈ l)
set_option maxHeartbeats 400000 in
theorem index_any (A : Option Addr) (n c : Nat) (l : List Int) (v : Int) (w : World) (h : RdI w A n l) (hn : n ≤ 100000) :
    Calls Try.prog 135 #[.slice A n c, .int .i64 v] w fun e w' => e = .returned (.int .i64 (idxI l v)) ∧ w = w' := by
  have HL := Lib.hid h.len
  go_enter Try.func135, Try.ntmps135
  go_wp2
  go_loop [8] (fun i => ∃ k : Nat, k ≤ n ∧ i = .int .i64 k ∧ (∀ j, j < k → l[j]? ≠ some v)) (fun i => n - (intOf i).toNat)
  case atStart => exact ⟨0, by omega, rfl, fun j hj => absurd hj (by omega)⟩
  case round =>
    obtain ⟨k, hk, rfl, hno⟩ := hrel
    have HN := Lib.hid hno
    clear hno
    by_cases hlt : k < n
    · obtain ⟨ad, u, rfl, _, hv, _, hcell⟩ := h.at_ hlt
      by_cases he : v = u
      · subst he
        have HI := Lib.hid (idxI_at hv.out HN.out)
        go_wp2
        go_ret
        exact ⟨ret_int HI.out.symm, rfl⟩
      · have g : (v == u) = false := by simpa using he
        have HE := Lib.hid he
        clear he
        go_wp2
        go_round
        case rel => exact ⟨k + 1, by omega, by go_num, fun j hj => by
          by_cases e : j = k
          · subst e; rw [hv.out]; intro e; injection e with e; exact HE.out e.symm
          · exact HN.out j (by omega)⟩
        case measure => simp [intOf]; omega
    · have HI := Lib.hid (idxI_none (l := l) (v := v) (fun j hj => HN.out j (by have := HL.out; omega)))
      go_wp2
      go_ret
      exact ⟨ret_int HI.out.symm, rfl⟩

set_option maxHeartbeats 400000 in
theorem contains_any (A : Option Addr) (n c : Nat) (l : List Int) (v : Int) (w : World) (h : RdI w A n l) (hn : n ≤ 100000) :
    Calls Try.prog 115 #[.slice A n c, .int .i64 v] w fun e w' => e = .returned (.bool (hasI l v)) ∧ w = w' := by
  have H := Lib.hid (index_any A n c l v w h hn)
  by_cases hm : v ∈ l
  · have h0 := idxI_in hm
    have HD := Lib.hid (show hasI l v = true by unfold hasI; simpa using hm)
    generalize idxI l v = k at h0 H
    clear hm
    go_enter Try.func115, Try.ntmps115
    go_wp2_with fail
    refine H.out.mono ?_; rintro e w' ⟨rfl, rfl⟩
    go_wp2
    go_ret
    exact ⟨ret_bool HD.out.symm, rfl⟩
  · have h0 := idxI_out hm
    rw [h0] at H
    have HD := Lib.hid (show hasI l v = false by unfold hasI; simpa using hm)
    clear hm h0
    go_enter Try.func115, Try.ntmps115
    go_wp2_with fail
    refine H.out.mono ?_; rintro e w' ⟨rfl, rfl⟩
    go_wp2
    go_ret
    exact ⟨ret_bool HD.out.symm, rfl⟩

/-! ### the signs -/
def signsL : List Int := [32, 45, 124, 111, 124, 120]
def signOf (place : Nat) (is : Bool) : Int := signsL.getD (place * 2 + if is then 1 else 0) 0
/-! ### bars -/
abbrev Bar := Int × Int × Int
def barCells (L : List Bar) : List Value := L.flatMap fun b => [.int .i64 b.1, .int .i64 b.2.1, .int .i64 b.2.2]
theorem barCells_length (L : List Bar) : (barCells L).length = L.length * 3 := by
  induction L with
  | nil => rfl
  | cons b L ih => simp only [barCells, List.flatMap_cons, List.length_append, List.length_cons, List.length_nil] at ih ⊢; omega
theorem barCells_get (L : List Bar) (j : Nat) (b : Bar) (h : L[j]? = some b) : (barCells L)[j * 3]? = some (.int .i64 b.1) ∧ (barCells L)[j * 3 + 1]? = some (.int .i64 b.2.1) ∧ (barCells L)[j * 3 + 2]? = some (.int .i64 b.2.2) := by
  induction L generalizing j with
  | nil => simp at h
  | cons x L ih =>
    cases j with
    | zero => simp at h; subst h; simp [barCells]
    | succ j =>
      have := ih j (by simpa using h)
      simp only [barCells, List.flatMap_cons] at this ⊢
      rw [show (j + 1) * 3 = j * 3 + 3 by omega]
      simpa using this

theorem getB {α : Type} {l : List α} {n k : Nat} (h : l.length = n) (hk : k < n) : ∃ v, l[k]? = some v := ⟨l[k]'(by omega), List.getElem?_eq_getElem _⟩
/-- a slice of bars that reads as L -/
def RdB (w : World) (A : Option Addr) (n : Nat) (L : List Bar) : Prop :=
  L.length = n ∧ n ≤ 1000000 ∧ (0 < n → ∃ g, A = some ⟨g, 0, none⟩ ∧ g < w.heap.size ∧ ∀ j u, (barCells L)[j]? = some u → w.cell? ⟨g, j, none⟩ = some u)
theorem RdB.below {w w' : World} {A : Option Addr} {n : Nat} {L : List Bar} (h : RdB w A n L) (hb : Below w.heap.size w w') : RdB w' A n L :=
  ⟨h.1, h.2.1, fun hn => by
    obtain ⟨g, e, hg, hc⟩ := h.2.2 hn
    exact ⟨g, e, Nat.lt_of_lt_of_le hg hb.size, fun j u hu => (hb.cell (p := ⟨g, j, none⟩) hg).trans (hc j u hu)⟩⟩

/-- where a bar stands first, or -1 -/
def idxBar (L : List Bar) (b : Bar) : Int := if b ∈ L then (L.idxOf b : Int) else -1
theorem idxBar_at {l : List Bar} {v : Bar} {k : Nat} (hk : l[k]? = some v) (h : ∀ j, j < k → l[j]? ≠ some v) : idxBar l v = k := by
  unfold idxBar
  have hx : v ∈ l := List.mem_of_getElem? hk
  have h1 := List.idxOf_lt_length_of_mem hx
  have h2 : l[l.idxOf v]? = some v := by rw [List.getElem?_eq_getElem h1, List.getElem_idxOf h1]
  rw [if_pos hx]
  rcases Nat.lt_trichotomy (l.idxOf v) k with h3 | h3 | h3
  · exact absurd h2 (h _ h3)
  · rw [h3]
  · have := List.not_of_lt_findIdx (p := (· == v)) (xs := l) (i := k) h3
    obtain ⟨_, e⟩ := List.getElem?_eq_some_iff.1 hk
    simp [e] at this
theorem idxBar_none {l : List Bar} {v : Bar} (h : ∀ j, j < l.length → l[j]? ≠ some v) : idxBar l v = -1 := by
  unfold idxBar
  rw [if_neg]
  intro hm
  obtain ⟨j, hj, e⟩ := List.getElem_of_mem hm
  exact h j hj (by rw [List.getElem?_eq_getElem hj, e])
theorem bar_ne {x y z x' y' z' : Int} (h : ((x, y, z) : Bar) ≠ (x', y', z')) : (x == x' && (y == y' && z == z')) = false := by
  by_cases e1 : x = x' <;> by_cases e2 : y = y' <;> by_cases e3 : z = z' <;> simp [e1, e2, e3]
  subst e1 e2 e3; exact h rfl
end Go.Proofs.Ytgnfkgmppeohoaa
