/- Walk: numbering labels by a map, at labels that are pairs of numbers. -/
import Derived.Test.YtgnfkgmppeohoaaNum
import Derived.Test.YtgnfkgmppeohoaaLat
import Derived.DeepKeys4
import Derived.WideKeyPair
import Derived.Deep.DeepCutAuto
namespace Go.Proofs.Ytgnfkgmppeohoaa
open Go.RowKit

abbrev Pr := Int × Int
def prCells (L : List Pr) : List Value := L.flatMap fun b => [.int .i64 b.1, .int .i64 b.2]
theorem prCells_length (L : List Pr) : (prCells L).length = L.length * 2 := by
  induction L with
  | nil => rfl
  | cons b L ih => simp only [prCells, List.flatMap_cons, List.length_append, List.length_cons, List.length_nil] at ih ⊢; omega
theorem prCells_get (L : List Pr) (j : Nat) (b : Pr) (h : L[j]? = some b) : (prCells L)[j * 2]? = some (.int .i64 b.1) ∧ (prCells L)[j * 2 + 1]? = some (.int .i64 b.2) := by
  induction L generalizing j with
  | nil => simp at h
  | cons x L ih =>
    cases j with
    | zero => simp at h; subst h; simp [prCells]
    | succ j =>
      have := ih j (by simpa using h)
      simp only [prCells, List.flatMap_cons] at this ⊢
      rw [show (j + 1) * 2 = j * 2 + 2 by omega]
      simpa using this
theorem getP {α : Type} {l : List α} {n k : Nat} (h : l.length = n) (hk : k < n) : ∃ v, l[k]? = some v := ⟨l[k]'(by omega), List.getElem?_eq_getElem _⟩
/-- a slice of pairs that reads as L -/
def RdP (w : World) (A : Option Addr) (n : Nat) (L : List Pr) : Prop :=
  L.length = n ∧ n ≤ 1000000 ∧ (0 < n → ∃ g, A = some ⟨g, 0, none⟩ ∧ g < w.heap.size ∧ ∀ j u, (prCells L)[j]? = some u → w.cell? ⟨g, j, none⟩ = some u)
theorem RdP.below {w w' : World} {A : Option Addr} {n : Nat} {L : List Pr} (h : RdP w A n L) (hb : Below w.heap.size w w') : RdP w' A n L :=
  ⟨h.1, h.2.1, fun hn => by
    obtain ⟨g, e, hg, hc⟩ := h.2.2 hn
    exact ⟨g, e, Nat.lt_of_lt_of_le hg hb.size, fun j u hu => (hb.cell (p := ⟨g, j, none⟩) hg).trans (hc j u hu)⟩⟩
/-- a pair as one number -/
def en (p : Pr) : Int := p.1 * 1000 + p.2
def Okp (p : Pr) : Prop := 0 ≤ p.1 ∧ p.1 < 1000 ∧ 0 ≤ p.2 ∧ p.2 < 1000
theorem en_inj {p q : Pr} (hp : Okp p) (hq : Okp q) (h : en p = en q) : p = q := by
  obtain ⟨a, b⟩ := p
  obtain ⟨c, d⟩ := q
  unfold Okp at hp hq
  unfold en at h
  simp only at hp hq h
  have h1 : a = c := by omega
  have h2 : b = d := by omega
  rw [h1, h2]

theorem pairArr : WideMaps.ArrKey Try.prog 120 3 2 := ⟨Try.underlying120, by kernel_rfl, by kernel_rfl, by kernel_rfl⟩
theorem pairLaid : laidOutB Try.prog = true := by kernel_rfl
theorem lawPair : Maps.Keyed Try.prog 120 := Maps.Keyed.of_law (deep_law_laid pairLaid (m := 2) (by omega) (of_decide_eq_true (by kernel_rfl)) (by kernel_rfl) (by kernel_rfl))
theorem sizePos : ∃ m, Try.prog.types.size = m + 1 := by
  have h : 0 < Try.prog.types.size := of_decide_eq_true (by kernel_rfl)
  exact ⟨Try.prog.types.size - 1, by omega⟩
def kl (p : Pr) : Lit := .string (keyBytes [.int .i64 p.1, .int .i64 p.2])
theorem Okp.i64 {p : Pr} (h : Okp p) : I64 p.1 ∧ I64 p.2 := by unfold Okp at h; exact ⟨I64.small (by omega), I64.small (by omega)⟩
theorem keyPair {p : Pr} (h : Okp p) : keyOf Try.prog 120 (.agg #[.int .i64 p.1, .int .i64 p.2]) = some (kl p) :=
  WideMaps.keyOf_pair pairArr Try.underlying3 sizePos (wfInt h.i64.1) (wfInt h.i64.2)
theorem kl_inj {p q : Pr} (hp : Okp p) (hq : Okp q) (h : kl p = kl q) : p = q := by
  have h1 := keyPair hp
  have h2 := keyPair hq
  rw [← h] at h2
  have e := lawPair.inj h1 h2
  obtain ⟨a, b⟩ := p
  obtain ⟨c, d⟩ := q
  simp at e
  rw [e.1, e.2]

/-- a map that holds where each label stands among those that were met -/
def Met2 (D : DataW Unit) (s : List Int) : Prop :=
  Maps.Tidy D ∧ Maps.size D = s.length ∧ ∀ p : Pr, Okp p → Maps.has D (kl p) = decide (en p ∈ s) ∧ (en p ∈ s → D.atKey (kl p) (.lit (.int .i64 0)) = .lit (.int .i64 (s.idxOf (en p))))
theorem Met2.nil_ : Met2 (.map []) [] := ⟨Maps.tidy_empty, rfl, fun x _ => ⟨rfl, fun h => by cases h⟩⟩
theorem Met2.put {D : DataW Unit} {s : List Int} (h : Met2 D s) {p : Pr} (hp : Okp p) (hx : en p ∉ s) : Met2 (D.put (kl p) (.lit (.int .i64 s.length))) (s ++ [en p]) := by
  obtain ⟨ht, hs, hh⟩ := h
  have hk : WideAt.IsKeyLit (kl p) := trivial
  have hx0 : Maps.has D (kl p) = false := by rw [(hh p hp).1]; simpa using hx
  refine ⟨ht.put hk _, ?_, fun y hy0 => ?_⟩
  · rw [Maps.size_put ht, hx0, hs]; simp
  · by_cases e : y = p
    · subst e
      refine ⟨?_, fun _ => ?_⟩
      · rw [Maps.has_put_same ht.isMap hk]; simp
      · rw [Maps.atKey_put_same ht.isMap hk, List.idxOf_append, if_neg hx]; simp
    · have hne : kl y ≠ kl p := fun h => e (kl_inj hy0 hp h)
      have hen : en y ≠ en p := fun h => e (en_inj hy0 hp h)
      refine ⟨?_, fun hy => ?_⟩
      · rw [Maps.has_put_other hne, (hh y hy0).1]; simp [hen]
      · have hy' : en y ∈ s := by simpa [hen] using hy
        rw [Maps.atKey_put_other hne, (hh y hy0).2 hy', List.idxOf_append, if_pos hy']
theorem Met2.at_ {D : DataW Unit} {s : List Int} (h : Met2 D s) {p : Pr} {c : Int} (hp : Okp p) (hx : en p ∈ s) (hc : D.atKey (kl p) (.lit (.int .i64 0)) = .lit (.int .i64 c)) : c = (s.idxOf (en p) : Int) := by
  rw [(h.2.2 p hp).2 hx] at hc
  injection hc with hc
  injection hc with _ hc
  exact hc.symm
def MapP (w : World) (b n : Nat) (D : DataW Unit) : Prop := w.ownsMap Try.prog 120 (plainElem Try.prog 3) b n D

end Go.Proofs.Ytgnfkgmppeohoaa
