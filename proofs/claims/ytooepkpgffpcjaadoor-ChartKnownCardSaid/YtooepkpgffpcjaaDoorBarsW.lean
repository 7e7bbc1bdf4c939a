/- Walks: bars: where each block begins and ends, and its level. -/
import Derived.Test.YtooepkpgffpcjaaDoorBars
import Derived.Test.YtooepkpgffpcjaaDoorChkL
namespace Go.Proofs.YtooepkpgffpcjaaDoor
open Go.RowKit

/-- the level of a new block, the packets from it on being rest -/
def levStep (rest : List Int) (out : List Bar) (lv : Int) (j : Nat) : Int := if hasI rest j then max lv ((out.getD j (0, 0, 0)).2.2 + 1) else lv
def newLevel (rest : List Int) (out : List Bar) : Int := (List.range out.length).foldl (levStep rest out) 1
def setLast (L : List Bar) (j i : Nat) : List Bar := L.set j ((L.getD j (0, 0, 0)).1, (i : Int), (L.getD j (0, 0, 0)).2.2)
def barStep (l : List Int) (out : List Bar) (i : Nat) : List Bar :=
  setLast (if l.getD i 0 = out.length then out ++ [((i : Int), 0, newLevel (l.drop i) out)] else out) (l.getD i 0).toNat i
def barsTo (l : List Int) (k : Nat) : List Bar := (List.range k).foldl (barStep l) []
theorem barsTo_succ (l : List Int) (k : Nat) : barsTo l (k + 1) = barStep l (barsTo l k) k := foldl_range_succ _ _ _

/-- what holds of the bars of the first k packets -/
structure BInv (k : Nat) (L : List Bar) : Prop where
  bd : ∀ (j : Nat) b, L[j]? = some b → 0 ≤ b.1 ∧ b.1 < k ∧ 0 ≤ b.2.1 ∧ b.2.1 ≤ k ∧ 1 ≤ b.2.2 ∧ b.2.2 ≤ j + 1
  inc : ∀ (j j' : Nat) b b', L[j]? = some b → L[j']? = some b' → j < j' → b.1 < b'.1
theorem levs_bd {k : Nat} {L : List Bar} (h : BInv k L) (rest : List Int) (m : Nat) (hm : m ≤ L.length) : 1 ≤ (List.range m).foldl (levStep rest L) 1 ∧ (List.range m).foldl (levStep rest L) 1 ≤ m + 1 := by
  induction m with
  | zero => simp
  | succ m ih =>
    have := ih (by omega)
    rw [foldl_range_succ]
    generalize (List.range m).foldl (levStep rest L) 1 = z at this ⊢
    unfold levStep
    split
    · obtain ⟨b, hb⟩ := getB (l := L) rfl (show m < L.length by omega)
      rw [getD_of_get hb]
      have := h.bd m b hb
      omega
    · omega
theorem getLast_get {L : List Bar} {j i t : Nat} (hj : j < L.length) : (setLast L j i)[t]? = if j = t then (L[t]?).map (fun b => (b.1, (i : Int), b.2.2)) else L[t]? := by
  unfold setLast
  obtain ⟨b, hb⟩ := getB (l := L) rfl hj
  by_cases e : j = t
  · subst e
    rw [if_pos rfl, List.getElem?_set_self hj, getD_of_get hb, hb]; rfl
  · rw [if_neg e, List.getElem?_set_ne e]
theorem setLast_inv {k : Nat} {L : List Bar} (h : BInv k L) (j : Nat) (hj : j < L.length) : BInv (k + 1) (setLast L j k) := by
  constructor
  · intro t b hb
    rw [getLast_get hj] at hb
    split at hb
    · obtain ⟨b', hb', rfl⟩ := Option.map_eq_some_iff.1 hb
      have := h.bd t b' hb'
      simp only
      omega
    · have := h.bd t b hb; omega
  · intro t t' b b' hb hb' hlt
    rw [getLast_get hj] at hb hb'
    have h1 : ∃ c, L[t]? = some c ∧ c.1 = b.1 := by
      split at hb
      · obtain ⟨c, hc, rfl⟩ := Option.map_eq_some_iff.1 hb; exact ⟨c, hc, rfl⟩
      · exact ⟨b, hb, rfl⟩
    have h2 : ∃ c, L[t']? = some c ∧ c.1 = b'.1 := by
      split at hb'
      · obtain ⟨c, hc, rfl⟩ := Option.map_eq_some_iff.1 hb'; exact ⟨c, hc, rfl⟩
      · exact ⟨b', hb', rfl⟩
    obtain ⟨c, hc, e1⟩ := h1
    obtain ⟨c', hc', e2⟩ := h2
    have := h.inc t t' c c' hc hc' hlt
    omega
theorem push_inv {k : Nat} {L : List Bar} (h : BInv k L) (rest : List Int) : BInv (k + 1) (L ++ [((k : Int), 0, newLevel rest L)]) := by
  have hl := levs_bd h rest L.length (Nat.le_refl _)
  constructor
  · intro t b hb
    rcases Nat.lt_trichotomy t L.length with e | e | e
    · rw [List.getElem?_append_left e] at hb
      have := h.bd t b hb; omega
    · subst e
      simp at hb
      subst hb
      unfold newLevel
      simp only
      omega
    · rw [List.getElem?_eq_none (by simp; omega)] at hb; cases hb
  · intro t t' b b' hb hb' hlt
    have ht' : t' ≤ L.length := by
      have := (List.getElem?_eq_some_iff.1 hb').1
      simp at this; omega
    rw [List.getElem?_append_left (by omega)] at hb
    rcases Nat.lt_or_ge t' L.length with e | e
    · rw [List.getElem?_append_left e] at hb'
      exact h.inc t t' b b' hb hb' hlt
    · obtain rfl : t' = L.length := by omega
      simp at hb'
      subst hb'
      exact (h.bd t b hb).2.1
theorem setLast_inv' {k : Nat} {L : List Bar} (h : BInv (k + 1) L) (j : Nat) (hj : j < L.length) : BInv (k + 1) (setLast L j k) := by
  constructor
  · intro t b hb
    rw [getLast_get hj] at hb
    split at hb
    · obtain ⟨b', hb', rfl⟩ := Option.map_eq_some_iff.1 hb
      have := h.bd t b' hb'
      simp only
      omega
    · have := h.bd t b hb; omega
  · intro t t' b b' hb hb' hlt
    rw [getLast_get hj] at hb hb'
    have h1 : ∃ c, L[t]? = some c ∧ c.1 = b.1 := by
      split at hb
      · obtain ⟨c, hc, rfl⟩ := Option.map_eq_some_iff.1 hb; exact ⟨c, hc, rfl⟩
      · exact ⟨b, hb, rfl⟩
    have h2 : ∃ c, L[t']? = some c ∧ c.1 = b'.1 := by
      split at hb'
      · obtain ⟨c, hc, rfl⟩ := Option.map_eq_some_iff.1 hb'; exact ⟨c, hc, rfl⟩
      · exact ⟨b', hb', rfl⟩
    obtain ⟨c, hc, e1⟩ := h1
    obtain ⟨c', hc', e2⟩ := h2
    have := h.inc t t' c c' hc hc' hlt
    omega
theorem BInv.idx {k : Nat} {L : List Bar} (h : BInv k L) {j : Nat} {b : Bar} (hb : L[j]? = some b) : idxBar L b = j := by
  refine idxBar_at hb (fun t ht e => ?_)
  have := h.inc t j b b e hb ht
  omega
theorem BInv.mono {k k' : Nat} {L : List Bar} (h : BInv k L) (hk : k ≤ k') : BInv k' L :=
  ⟨fun j b hb => by have := h.bd j b hb; omega, h.inc⟩
theorem chkGo_grow {l : List Int} {nx : Int} (h : chkGo nx l = 0) : ∀ {k : Nat} {v : Int}, l[k]? = some v → v ≤ (l.take k).foldl (fun n v => max n (v + 1)) nx := by
  induction l generalizing nx with
  | nil => intro k v hv; simp at hv
  | cons a l ih =>
    intro k v hv
    simp only [chkGo] at h
    split at h
    · cases h
    · split at h
      · cases h
      · cases k with
        | zero => simp at hv; subst hv; simp; omega
        | succ k =>
          simp only [List.getElem?_cons_succ] at hv
          have := ih h hv
          simp only [List.take_succ_cons, List.foldl_cons]
          rwa [show max nx (a + 1) = (if a = nx then nx + 1 else nx) by split <;> omega]
theorem chk_grow {l : List Int} (h : chk l = 0) {k : Nat} {v : Int} (hv : l[k]? = some v) : v ≤ blk (l.take k) := chkGo_grow (chk_ok h).2.2.2 hv
theorem barsTo_inv {l : List Int} (h : chk l = 0) (k : Nat) (hk : k ≤ l.length) : BInv k (barsTo l k) ∧ ((barsTo l k).length : Int) = blk (l.take k) := by
  induction k with
  | zero => exact ⟨⟨fun j b hb => by simp [barsTo] at hb, fun j j' b b' hb => by simp [barsTo] at hb⟩, rfl⟩
  | succ k ih =>
    obtain ⟨h1, h2⟩ := ih (by omega)
    obtain ⟨v, hv⟩ := getB (l := l) rfl (show k < l.length by omega)
    have hv0 := (chk_ok h).2.2.1 v (List.mem_of_getElem? hv)
    have hg := chk_grow h hv
    rw [barsTo_succ]
    have hb := blk_take hv
    unfold barStep
    rw [getD_of_get hv]
    split
    · rename_i e
      refine ⟨setLast_inv' (push_inv h1 _) _ (by simp; omega), ?_⟩
      unfold setLast
      rw [List.length_set, List.length_append, hb]
      simp; omega
    · rename_i e
      refine ⟨setLast_inv h1 _ (by omega), ?_⟩
      unfold setLast
      rw [List.length_set, hb]
      omega

theorem barInfo : (Tryd.prog.info? 85).map (fun i => (i.zero, i.size, i.bytes)) = some (some (.agg #[.int .i64 0, .int .i64 0, .int .i64 0]), 3, 24) := by kernel_rfl
theorem barCells_append (L M : List Bar) : barCells (L ++ M) = barCells L ++ barCells M := by simp [barCells]
theorem barCells_set (L : List Bar) (j : Nat) (b : Bar) (h : L[j]? = some b) (i : Int) : (barCells L).set (j * 3 + 1) (.int .i64 i) = barCells (L.set j (b.1, i, b.2.2)) := by
  induction L generalizing j with
  | nil => simp at h
  | cons x L ih =>
    cases j with
    | zero => simp at h; subst h; simp [barCells]
    | succ j =>
      have := ih j (by simpa using h)
      simp only [barCells, List.flatMap_cons, List.set_cons_succ] at this ⊢
      rw [show (j + 1) * 3 + 1 = 3 + (j * 3 + 1) by omega]
      rw [List.set_append_right _ _ (by simp)]
      simp only [List.length_cons, List.length_nil]
      rw [show 3 + (j * 3 + 1) - (0 + 1 + 1 + 1) = j * 3 + 1 by omega, this]
theorem barCells_one (L : List Bar) : ∀ u ∈ barCells L, u.oneCell' = true := by
  intro u hu
  simp only [barCells, List.mem_flatMap] at hu
  obtain ⟨b, _, hb⟩ := hu
  simp only [List.mem_cons, List.not_mem_nil, or_false] at hb
  rcases hb with rfl | rfl | rfl <;> rfl

/-- 'append(s, b)' of a bar, that was laid in a new block first. -/
theorem wpList_appB (w : World) {ops : Array Oper} {rest : List Oper} {o : Oper} {a : Act} {Q : Exit → Act → World → Prop} (hgd : o.guard = none) (s x : Operand)
    (ho : o.op = .call { callee := .builtin .append, args := #[s, x], argTypes := #[82, 82] })
    {base n c : Nat} {A : Option Addr} {L : List Bar} {b : Bar} (t : TypeId) (hs : a.eval s = .slice A n c) (hx : a.eval x = .slice (some ⟨w.heap.size, 0, none⟩) 1 1) (hown : Own w base 85 3 A n c (barCells L)) (hnm : n + 1 ≤ 1000) (hbase : base ≤ w.heap.size)
    (h : ∀ A' c' w', Own w' base 85 3 A' (n + 1) c' (barCells (L ++ [b])) → w.grownBy w' (A.map (·.block)) → Below base w w' → wpList Tryd.prog ops Q rest (a.put o.dst (.slice A' (n + 1) c')) w') :
    wpList Tryd.prog ops Q (o :: rest) a (w.alloc (.cells #[.int .i64 b.1, .int .i64 b.2.1, .int .i64 b.2.2] t)) := by
  obtain ⟨i0, hi0, hz0, hz1, hz2⟩ := info_parts barInfo
  refine wpList_plain hgd fun _ hK => ?_
  have hcells : ∀ j u, (barCells [b])[j]? = some u → (w.alloc (.cells #[.int .i64 b.1, .int .i64 b.2.1, .int .i64 b.2.2] t)).cell? ((⟨w.heap.size, 0, none⟩ : Addr).add j) = some u := by
    intro j u hu
    rw [show (⟨w.heap.size, 0, none⟩ : Addr).add j = ⟨w.heap.size, j, none⟩ by unfold Addr.add; split <;> simp_all, World.cell?_alloc_at _ _ _ _ rfl]
    simpa [barCells] using hu
  obtain ⟨v', w', hrun, h2, h3, _, _⟩ := run_append_own_at (P := Tryd.prog) (w.alloc (.cells #[.int .i64 b.1, .int .i64 b.2.1, .int .i64 b.2.2] t)) base 82 o.type 85 i0 _ 3 24 Tryd.underlying82 hi0 hz0 hz1 hz2 rfl (by omega) _ n (barCells L) (hown.alloc _).1 ⟨w.heap.size, 0, none⟩ 1 1 (barCells [b]) rfl hcells (barCells_one _) (by unfold maxLen; omega) (by omega) (by simp; omega)
  obtain ⟨A', c', rfl⟩ := slice_form h2
  rw [map_block_own] at h3
  have hg : w.grownBy w' (A.map (·.block)) := grown_trans (World.grownBy_alloc w _ _) h3
  unfold Oper.wp execOp
  simp only [ho, resolve, invoke, builtin, Sem.run_bind, Sem.run_pure, Result.andThen_ok, List.map_toArray, List.map_cons, List.map_nil, hs, hx, hrun]
  exact hK _ _ (h A' c' w' ⟨by rw [barCells_append]; exact h2, by omega⟩ hg (below_app hown hg hbase))
end Go.Proofs.YtooepkpgffpcjaaDoor
