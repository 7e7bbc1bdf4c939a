/- Walk: numbering labels by a map, at labels that are pairs of numbers. Walks: what is common to two partitions, and being finer: the program's. Walks: what is common to two partitions, and being finer: the reference's. -/
import Derived.Test.YtcmacejpoihhlaaMgD
import Derived.DeepKeys4
import Derived.WideKeyPair
import Derived.Deep.DeepCutAuto
namespace Go.Proofs.Ytcmacejpoihhlaa
open Go.RowKit

abbrev Pr := Int × Int
def prCells (L : List Pr) : List Value := L.flatMap fun b => [.int .i64 b.1, .int .i64 b.2]
theorem prCells_length (L : List Pr) : (prCells L).length = L.length * 2 := by
  induction L with
  | nil => rfl
  | cons b L ih => simp only [prCells, List.flatMap_cons, List.length_append, List.length_cons, List.length_nil] at ih ⊢; omega
theorem prCells_get (L : List Pr) (j : Nat) (b : Pr) (h : L[j]? = some b) : (prCells L)[j * 2]? = some (.int .i64 b.1) ∧ (prCells L)[j * 2 + 1]? = some (.int .i64 b.2) := by
  induction L generalizing j with
  | nil => simp at h
  | cons x L ih =>
    cases j with
    | zero => simp at h; subst h; simp [prCells]
    | succ j =>
      have := ih j (by simpa using h)
      simp only [prCells, List.flatMap_cons] at this ⊢
      rw [show (j + 1) * 2 = j * 2 + 2 by omega]
      simpa using this
theorem getP {α : Type} {l : List α} {n k : Nat} (h : l.length = n) (hk : k < n) : ∃ v, l[k]? = some v := ⟨l[k]'(by omega), List.getElem?_eq_getElem _⟩
/-- a slice of pairs that reads as L -/
def RdP (w : World) (A : Option Addr) (n : Nat) (L : List Pr) : Prop :=
  L.length = n ∧ n ≤ 1000000 ∧ (0 < n → ∃ g, A = some ⟨g, 0, none⟩ ∧ g < w.heap.size ∧ ∀ j u, (prCells L)[j]? = some u → w.cell? ⟨g, j, none⟩ = some u)
theorem RdP.below {w w' : World} {A : Option Addr} {n : Nat} {L : List Pr} (h : RdP w A n L) (hb : Below w.heap.size w w') : RdP w' A n L :=
  ⟨h.1, h.2.1, fun hn => by
    obtain ⟨g, e, hg, hc⟩ := h.2.2 hn
    exact ⟨g, e, Nat.lt_of_lt_of_le hg hb.size, fun j u hu => (hb.cell (p := ⟨g, j, none⟩) hg).trans (hc j u hu)⟩⟩
/-- a pair as one number -/
def en (p : Pr) : Int := p.1 * 1000 + p.2
def Okp (p : Pr) : Prop := 0 ≤ p.1 ∧ p.1 < 1000 ∧ 0 ≤ p.2 ∧ p.2 < 1000
theorem en_inj {p q : Pr} (hp : Okp p) (hq : Okp q) (h : en p = en q) : p = q := by
  obtain ⟨a, b⟩ := p
  obtain ⟨c, d⟩ := q
  unfold Okp at hp hq
  unfold en at h
  simp only at hp hq h
  have h1 : a = c := by omega
  have h2 : b = d := by omega
  rw [h1, h2]

theorem pairArr : WideMaps.ArrKey Try.prog 112 3 2 := ⟨Try.underlying112, by kernel_rfl, by kernel_rfl, by kernel_rfl⟩
theorem pairLaid : laidOutB Try.prog = true := by kernel_rfl
theorem lawPair : Maps.Keyed Try.prog 112 := Maps.Keyed.of_law (deep_law_laid pairLaid (m := 2) (by omega) (of_decide_eq_true (by kernel_rfl)) (by kernel_rfl) (by kernel_rfl))
theorem sizePos : ∃ m, Try.prog.types.size = m + 1 := by
  have h : 0 < Try.prog.types.size := of_decide_eq_true (by kernel_rfl)
  exact ⟨Try.prog.types.size - 1, by omega⟩
def kl (p : Pr) : Lit := .string (keyBytes [.int .i64 p.1, .int .i64 p.2])
theorem Okp.i64 {p : Pr} (h : Okp p) : I64 p.1 ∧ I64 p.2 := by unfold Okp at h; exact ⟨I64.small (by omega), I64.small (by omega)⟩
theorem keyPair {p : Pr} (h : Okp p) : keyOf Try.prog 112 (.agg #[.int .i64 p.1, .int .i64 p.2]) = some (kl p) :=
  WideMaps.keyOf_pair pairArr Try.underlying3 sizePos (wfInt h.i64.1) (wfInt h.i64.2)
theorem kl_inj {p q : Pr} (hp : Okp p) (hq : Okp q) (h : kl p = kl q) : p = q := by
  have h1 := keyPair hp
  have h2 := keyPair hq
  rw [← h] at h2
  have e := lawPair.inj h1 h2
  obtain ⟨a, b⟩ := p
  obtain ⟨c, d⟩ := q
  simp at e
  rw [e.1, e.2]

/-- a map that holds where each label stands among those that were met -/
def Met2 (D : DataW Unit) (s : List Int) : Prop :=
  Maps.Tidy D ∧ Maps.size D = s.length ∧ ∀ p : Pr, Okp p → Maps.has D (kl p) = decide (en p ∈ s) ∧ (en p ∈ s → D.atKey (kl p) (.lit (.int .i64 0)) = .lit (.int .i64 (s.idxOf (en p))))
theorem Met2.nil_ : Met2 (.map []) [] := ⟨Maps.tidy_empty, rfl, fun x _ => ⟨rfl, fun h => by cases h⟩⟩
theorem Met2.put {D : DataW Unit} {s : List Int} (h : Met2 D s) {p : Pr} (hp : Okp p) (hx : en p ∉ s) : Met2 (D.put (kl p) (.lit (.int .i64 s.length))) (s ++ [en p]) := by
  obtain ⟨ht, hs, hh⟩ := h
  have hk : WideAt.IsKeyLit (kl p) := trivial
  have hx0 : Maps.has D (kl p) = false := by rw [(hh p hp).1]; simpa using hx
  refine ⟨ht.put hk _, ?_, fun y hy0 => ?_⟩
  · rw [Maps.size_put ht, hx0, hs]; simp
  · by_cases e : y = p
    · subst e
      refine ⟨?_, fun _ => ?_⟩
      · rw [Maps.has_put_same ht.isMap hk]; simp
      · rw [Maps.atKey_put_same ht.isMap hk, List.idxOf_append, if_neg hx]; simp
    · have hne : kl y ≠ kl p := fun h => e (kl_inj hy0 hp h)
      have hen : en y ≠ en p := fun h => e (en_inj hy0 hp h)
      refine ⟨?_, fun hy => ?_⟩
      · rw [Maps.has_put_other hne, (hh y hy0).1]; simp [hen]
      · have hy' : en y ∈ s := by simpa [hen] using hy
        rw [Maps.atKey_put_other hne, (hh y hy0).2 hy', List.idxOf_append, if_pos hy']
theorem Met2.at_ {D : DataW Unit} {s : List Int} (h : Met2 D s) {p : Pr} {c : Int} (hp : Okp p) (hx : en p ∈ s) (hc : D.atKey (kl p) (.lit (.int .i64 0)) = .lit (.int .i64 c)) : c = (s.idxOf (en p) : Int) := by
  rw [(h.2.2 p hp).2 hx] at hc
  injection hc with hc
  injection hc with _ hc
  exact hc.symm
def MapP (w : World) (b n : Nat) (D : DataW Unit) : Prop := w.ownsMap Try.prog 112 (plainElem Try.prog 3) b n D

end Go.Proofs.Ytcmacejpoihhlaa

namespace Go.Proofs.Ytcmacejpoihhlaa
open Go.RowKit

theorem pairInfo : (Try.prog.info? 112).map (fun i => (i.zero, i.size, i.bytes)) = some (some (.agg #[.int .i64 0, .int .i64 0]), 2, 16) := by kernel_rfl
theorem prCells_append (L : List Pr) (b : Pr) : prCells (L ++ [b]) = prCells L ++ prCells [b] := by simp [prCells]
theorem prCells_one (L : List Pr) : ∀ u ∈ prCells L, u.oneCell' = true := by
  intro u hu
  simp only [prCells, List.mem_flatMap] at hu
  obtain ⟨b, _, hb⟩ := hu
  simp only [List.mem_cons, List.not_mem_nil, or_false] at hb
  rcases hb with rfl | rfl <;> rfl
theorem RdP.of_own {w : World} {base n c : Nat} {A : Option Addr} {L : List Pr} (h : Own w base 112 2 A n c (prCells L)) (hn : n ≤ 1000000) : RdP w A n L := by
  have hl := h.len
  rw [prCells_length] at hl
  refine ⟨by omega, hn, fun h0 => ?_⟩
  obtain ⟨g, rfl, _, hg⟩ := h.form h0
  exact ⟨g, rfl, hg, fun j u hu => by
    have hj : j < n * 2 := by have := (List.getElem?_eq_some_iff.1 hu).1; rw [prCells_length] at this; omega
    rw [h.cellAt j hj]; exact hu⟩

theorem zip_en (l r : List Int) : (l.zip r).map en = pairL 1000 l r := by
  unfold pairL List.zip
  rw [List.map_zipWith]; rfl
theorem zip_get {l r : List Int} {k : Nat} {u v : Int} (hu : l[k]? = some u) (hv : r[k]? = some v) : (l.zip r)[k]? = some (u, v) := by
  unfold List.zip
  rw [List.getElem?_zipWith, hu, hv]
theorem zip_ok {l r : List Int} (hl : ∀ v ∈ l, 0 ≤ v ∧ v < 9) (hr : ∀ v ∈ r, 0 ≤ v ∧ v < 9) : ∀ p ∈ l.zip r, Okp p := by
  rintro ⟨a, b⟩ hp
  have h1 := hl a (List.of_mem_zip hp).1
  have h2 := hr b (List.of_mem_zip hp).2
  unfold Okp
  simp only
  omega

/-- The answer of a function that gives a bool and an error. -/
def BoolErr (x : Bool × Int) (w : World) (e : Ending) (w' : World) : Prop := e = .returned (.tuple #[.bool x.1, .int .i64 x.2]) ∧ Below w.heap.size w w'

end Go.Proofs.Ytcmacejpoihhlaa

namespace Go.Proofs.Ytcmacejpoihhlaa
open Go.RowKit

/-- 'append(s, x)' of a number, that was laid in a new block first, in a region that draws its order. -/
theorem step_appI1 (w : World) {ops : Array Oper} {o : Oper} {a : Act} {K : Act → World → Prop} {Q : Exit → Act → World → Prop} {E : Prop} (hgd : o.guard = none) (s x : Operand)
    (ho : o.op = .call { callee := .builtin .append, args := #[s, x], argTypes := #[22, 22] })
    {base n c : Nat} {A : Option Addr} {l : List Int} {v : Int} (t : TypeId) (hs : a.eval s = .slice A n c) (hx : a.eval x = .slice (some ⟨w.heap.size, 0, none⟩) 1 1) (hown : OwnI w base 3 A n c l) (hv : I64 v) (hnm : n + 1 ≤ 1000000) (hbase : base ≤ w.heap.size)
    (h : ∀ A' c' w', OwnI w' base 3 A' (n + 1) c' (l ++ [v]) → w.grownBy w' (A.map (·.block)) → Below base w w' → K (a.put o.dst (.slice A' (n + 1) c')) w') :
    if Region.wanted o (yielded ops a.tmps) = true then Oper.wp Try.prog o a (w.alloc (.cells #[.int .i64 v] t)) K Q else E := by
  obtain ⟨i0, hi0, hz0, hz1, hz2⟩ := info_parts intInfo
  refine step_app _ hgd s x 22 ho base 3 i0 _ 8 Try.underlying22 hi0 hz0 hz1 hz2 rfl (by decide) A n c (ints l) hs (hown.alloc _).1 _ 1 1 (ints [v]) hx (RdI.one w t v hv).1 (ints_oneCell' _) (by omega) (by simp; omega) ?_
  intro A' c' w' h1 h2 h3
  have hg : w.grownBy w' (A.map (·.block)) := grown_trans (World.grownBy_alloc w _ _) h2
  refine h A' c' w' ⟨by rw [ints_append]; exact h1, ?_⟩ hg (below_app hown.1 hg hbase)
  intro u hu
  rcases List.mem_append.1 hu with hu | hu
  · exact hown.2 u hu
  · simp at hu; subst hu; exact hv

theorem wrap_smallI {v : Int} (h0 : -1000000000000 ≤ v) (h1 : v ≤ 1000000000000) : IntKind.i64.wrap v = v := by
  simp only [IntKind.wrap, IntKind.bits, IntKind.signed, Bool.true_and]
  by_cases h : 2 ^ (64 - 1) ≤ v % 2 ^ 64
  · rw [if_pos (by simpa using h)]; omega
  · rw [if_neg (by simpa using h)]; omega
theorem pairL_take {m : Int} {a b : List Int} {k : Nat} {u v : Int} (hu : a[k]? = some u) (hv : b[k]? = some v) : (pairL m a b).take (k + 1) = (pairL m a b).take k ++ [u * m + v] := by
  refine take_of_get ?_
  unfold pairL
  rw [List.getElem?_zipWith, hu, hv]

/-- nothing against being finer up to (i, k) -/
def FinTo (a b : List Int) (i k : Nat) : Prop := ∀ x y, x < a.length → y < x → (x < i ∨ x = i ∧ y < k) → a.getD x 0 = a.getD y 0 → b.getD x 0 = b.getD y 0
theorem finTo_all {a b : List Int} (h : FinTo a b a.length 0) : finB a b = true := by
  rw [finB_iff]
  intro i j hi hj e
  rcases Nat.lt_trichotomy i j with hlt | rfl | hgt
  · exact (h j i hj hlt (.inl hj) e.symm).symm
  · rfl
  · exact h i j hi hgt (.inl hi) e
theorem finTo_not {a b : List Int} {i k : Nat} (hi : i < a.length) (hk : k < i) (e : a.getD i 0 = a.getD k 0) (hne : b.getD i 0 ≠ b.getD k 0) : finB a b = false := by
  rw [Bool.eq_false_iff]
  intro h
  exact hne (finB_iff.1 h i k hi (by omega) e)
theorem FinTo.step {a b : List Int} {i k : Nat} (h : FinTo a b i k) (hs : a.getD i 0 = a.getD k 0 → b.getD i 0 = b.getD k 0) : FinTo a b i (k + 1) := by
  intro x y hx hy hp e
  rcases hp with hp | ⟨rfl, hp⟩
  · exact h x y hx hy (.inl hp) e
  · rcases Nat.lt_or_ge y k with hlt | hge
    · exact h x y hx hy (.inr ⟨rfl, hlt⟩) e
    · obtain rfl : y = k := by omega
      exact hs e
theorem FinTo.row {a b : List Int} {i : Nat} (h : FinTo a b i i) : FinTo a b (i + 1) 0 := by
  intro x y hx hy hp e
  refine h x y hx hy ?_ e
  rcases hp with hp | ⟨rfl, hp⟩
  · rcases Nat.lt_or_ge x i with h1 | h1
    · exact .inl h1
    · exact .inr ⟨by omega, by omega⟩
  · omega

end Go.Proofs.Ytcmacejpoihhlaa
