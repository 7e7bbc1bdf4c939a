/- Walks: what is common to two partitions, and being finer: the reference's. -/
import Derived.Test.YtgnfkgmppeohoaaMeet
namespace Go.Proofs.Ytgnfkgmppeohoaa
open Go.RowKit

/-- 'append(s, x)' of a number, that was laid in a new block first, in a region that draws its order. -/
theorem step_appI1 (w : World) {ops : Array Oper} {o : Oper} {a : Act} {K : Act → World → Prop} {Q : Exit → Act → World → Prop} {E : Prop} (hgd : o.guard = none) (s x : Operand)
    (ho : o.op = .call { callee := .builtin .append, args := #[s, x], argTypes := #[22, 22] })
    {base n c : Nat} {A : Option Addr} {l : List Int} {v : Int} (t : TypeId) (hs : a.eval s = .slice A n c) (hx : a.eval x = .slice (some ⟨w.heap.size, 0, none⟩) 1 1) (hown : OwnI w base 3 A n c l) (hv : I64 v) (hnm : n + 1 ≤ 1000000) (hbase : base ≤ w.heap.size)
    (h : ∀ A' c' w', OwnI w' base 3 A' (n + 1) c' (l ++ [v]) → w.grownBy w' (A.map (·.block)) → Below base w w' → K (a.put o.dst (.slice A' (n + 1) c')) w') :
    if Region.wanted o (yielded ops a.tmps) = true then Oper.wp Try.prog o a (w.alloc (.cells #[.int .i64 v] t)) K Q else E := by
  obtain ⟨i0, hi0, hz0, hz1, hz2⟩ := info_parts intInfo
  refine step_app _ hgd s x 22 ho base 3 i0 _ 8 Try.underlying22 hi0 hz0 hz1 hz2 rfl (by decide) A n c (ints l) hs (hown.alloc _).1 _ 1 1 (ints [v]) hx (RdI.one w t v hv).1 (ints_oneCell' _) (by omega) (by simp; omega) ?_
  intro A' c' w' h1 h2 h3
  have hg : w.grownBy w' (A.map (·.block)) := grown_trans (World.grownBy_alloc w _ _) h2
  refine h A' c' w' ⟨by rw [ints_append]; exact h1, ?_⟩ hg (below_app hown.1 hg hbase)
  intro u hu
  rcases List.mem_append.1 hu with hu | hu
  · exact hown.2 u hu
  · simp at hu; subst hu; exact hv

theorem wrap_smallI {v : Int} (h0 : -1000000000000 ≤ v) (h1 : v ≤ 1000000000000) : IntKind.i64.wrap v = v := by
  simp only [IntKind.wrap, IntKind.bits, IntKind.signed, Bool.true_and]
  by_cases h : 2 ^ (64 - 1) ≤ v % 2 ^ 64
  · rw [if_pos (by simpa using h)]; omega
  · rw [if_neg (by simpa using h)]; omega
theorem pairL_take {m : Int} {a b : List Int} {k : Nat} {u v : Int} (hu : a[k]? = some u) (hv : b[k]? = some v) : (pairL m a b).take (k + 1) = (pairL m a b).take k ++ [u * m + v] := by
  refine take_of_get ?_
  unfold pairL
  rw [List.getElem?_zipWith, hu, hv]

/-- nothing against being finer up to (i, k) -/
def FinTo (a b : List Int) (i k : Nat) : Prop := ∀ x y, x < a.length → y < x → (x < i ∨ x = i ∧ y < k) → a.getD x 0 = a.getD y 0 → b.getD x 0 = b.getD y 0
theorem finTo_all {a b : List Int} (h : FinTo a b a.length 0) : finB a b = true := by
  rw [finB_iff]
  intro i j hi hj e
  rcases Nat.lt_trichotomy i j with hlt | rfl | hgt
  · exact (h j i hj hlt (.inl hj) e.symm).symm
  · rfl
  · exact h i j hi hgt (.inl hi) e
theorem finTo_not {a b : List Int} {i k : Nat} (hi : i < a.length) (hk : k < i) (e : a.getD i 0 = a.getD k 0) (hne : b.getD i 0 ≠ b.getD k 0) : finB a b = false := by
  rw [Bool.eq_false_iff]
  intro h
  exact hne (finB_iff.1 h i k hi (by omega) e)
theorem FinTo.step {a b : List Int} {i k : Nat} (h : FinTo a b i k) (hs : a.getD i 0 = a.getD k 0 → b.getD i 0 = b.getD k 0) : FinTo a b i (k + 1) := by
  intro x y hx hy hp e
  rcases hp with hp | ⟨rfl, hp⟩
  · exact h x y hx hy (.inl hp) e
  · rcases Nat.lt_or_ge y k with hlt | hge
    · exact h x y hx hy (.inr ⟨rfl, hlt⟩) e
    · obtain rfl : y = k := by omega
      exact hs e
theorem FinTo.row {a b : List Int} {i : Nat} (h : FinTo a b i i) : FinTo a b (i + 1) 0 := by
  intro x y hx hy hp e
  refine h x y hx hy ?_ e
  rcases hp with hp | ⟨rfl, hp⟩
  · rcases Nat.lt_or_ge x i with h1 | h1
    · exact .inl h1
    · exact .inr ⟨by omega, by omega⟩
  · omega

end Go.Proofs.Ytgnfkgmppeohoaa
