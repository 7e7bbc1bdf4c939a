/- Plain law: blocks of one level do not overlap; the chart of a partition tells it. -/
import Derived.Test.YtooepkpgffpcjaaDoorRowsLaw
namespace Go.Proofs.YtooepkpgffpcjaaDoor
open Go.RowKit

/-! ### The level of a block is greater than those of the blocks that go on beside it -/
theorem levs_ge (rest : List Int) (L : List Bar) (m : Nat) : ∀ j, j < m → hasI rest j = true → (L.getD j (0, 0, 0)).2.2 + 1 ≤ (List.range m).foldl (levStep rest L) 1 := by
  induction m with
  | zero => intro j hj; omega
  | succ m ih =>
    intro j hj hh
    rw [foldl_range_succ]
    by_cases e : j = m
    · subst e; unfold levStep; rw [if_pos hh]; omega
    · have := ih j (by omega) hh
      unfold levStep at this ⊢
      split <;> omega
theorem setLast_same {M : List Bar} {v k t : Nat} {b : Bar} (hv : v < M.length) (h : (setLast M v k)[t]? = some b) : ∃ b0, M[t]? = some b0 ∧ b0.1 = b.1 ∧ b0.2.2 = b.2.2 := by
  rw [getLast_get hv] at h
  split at h
  · obtain ⟨b0, h0, rfl⟩ := Option.map_eq_some_iff.1 h
    exact ⟨b0, h0, rfl, rfl⟩
  · exact ⟨b, h, rfl, rfl⟩
theorem barsTo_lev {l : List Int} (h : chk l = 0) (k : Nat) (hk : k ≤ l.length) : ∀ (j j' : Nat) b b', (barsTo l k)[j]? = some b → (barsTo l k)[j']? = some b' → j < j' → hasI (l.drop b'.1.toNat) j = true → b.2.2 + 1 ≤ b'.2.2 := by
  induction k with
  | zero => intro j j' b b' hb; simp [barsTo] at hb
  | succ k ih =>
    have ih' := ih (by omega)
    obtain ⟨h1, h2⟩ := barsTo_inv h k (by omega)
    have hv := get_getD (l := l) (i := k) (by omega)
    have hv0 := (chk_ok h).2.2.1 _ (getD_mem (l := l) (i := k) (by omega))
    have hg := chk_grow h hv
    intro j j' b b' hb hb' hlt hh
    rw [barsTo_succ] at hb hb'
    unfold barStep at hb hb'
    obtain ⟨v, hve⟩ : ∃ v : Nat, l.getD k 0 = v := ⟨(l.getD k 0).toNat, by omega⟩
    rw [hve] at hb hb' hg hv0
    rw [Int.toNat_natCast] at hb hb'
    by_cases hn : (v : Int) = (barsTo l k).length
    · rw [if_pos hn] at hb hb'
      obtain ⟨c, hc, e1, e2⟩ := setLast_same (by simp; omega) hb
      obtain ⟨c', hc', e1', e2'⟩ := setLast_same (by simp; omega) hb'
      rw [← e1'] at hh
      rw [← e2, ← e2']
      have hj' : j' < (barsTo l k).length + 1 := by have := (List.getElem?_eq_some_iff.1 hc').1; simpa using this
      rw [List.getElem?_append_left (by omega)] at hc
      by_cases e : j' = (barsTo l k).length
      · rw [e, List.getElem?_append_right (Nat.le_refl _), Nat.sub_self] at hc'
        simp at hc'
        subst hc'
        have := levs_ge (l.drop k) (barsTo l k) (barsTo l k).length j (by omega) (by simpa using hh)
        rw [getD_of_get hc] at this
        exact this
      · rw [List.getElem?_append_left (by omega)] at hc'
        exact ih' j j' c c' hc hc' hlt hh
    · rw [if_neg hn] at hb hb'
      have hvl : v < (barsTo l k).length := by omega
      obtain ⟨c, hc, e1, e2⟩ := setLast_same hvl hb
      obtain ⟨c', hc', e1', e2'⟩ := setLast_same hvl hb'
      rw [← e1'] at hh
      rw [← e2, ← e2']
      exact ih' j j' c c' hc hc' hlt hh

/-- all that is known of the bars of a partition: where block j begins and ends, and its level -/
structure BarAt (p : List Int) (j f t lv : Nat) : Prop where
  get : (barsTo p p.length)[j]? = some ((f : Int), (t : Int), (lv : Int))
  le : f ≤ t
  lt : t < p.length
  pf : p.getD f 0 = j
  pt : p.getD t 0 = j
  all : ∀ i, i < p.length → p.getD i 0 = j → f ≤ i ∧ i ≤ t
  lev : 1 ≤ lv
theorem barAt_get {p : List Int} (h : chk p = 0) {j : Nat} {b : Bar} (hb : (barsTo p p.length)[j]? = some b) : ∃ f t lv : Nat, b = ((f : Int), (t : Int), (lv : Int)) ∧ BarAt p j f t lv := by
  obtain ⟨f, t, e1, e2, e3, e4, e5, e6, e7⟩ := barsTo_ends h p.length (Nat.le_refl _) j b hb
  obtain ⟨h1, h2⟩ := barsTo_inv h p.length (Nat.le_refl _)
  have h3 := h1.bd j b hb
  obtain ⟨b1, b2, b3⟩ := b
  simp only at e1 e2 h3
  obtain ⟨lv, rfl⟩ : ∃ lv : Nat, b3 = lv := ⟨b3.toNat, by omega⟩
  subst e1 e2
  exact ⟨f, t, lv, rfl, hb, e3, e4, e5, e6, e7, by omega⟩
theorem barAt_of {p : List Int} (h : chk p = 0) {i : Nat} (hi : i < p.length) : ∃ j f t lv : Nat, p.getD i 0 = j ∧ BarAt p j f t lv := by
  have hv0 := (chk_ok h).2.2.1 _ (getD_mem hi)
  obtain ⟨h1, h2⟩ := barsTo_inv h p.length (Nat.le_refl _)
  rw [List.take_of_length_le (Nat.le_refl _)] at h2
  have h3 := lt_blk (getD_mem hi)
  obtain ⟨b, hb⟩ := getB (l := barsTo p p.length) rfl (show (p.getD i 0).toNat < (barsTo p p.length).length by omega)
  obtain ⟨f, t, lv, rfl, hB⟩ := barAt_get h hb
  exact ⟨_, f, t, lv, by omega, hB⟩
theorem BarAt.apart {p : List Int} (h : chk p = 0) {j j' f t f' t' lv : Nat} (hb : BarAt p j f t lv) (hb' : BarAt p j' f' t' lv) (hne : j ≠ j') : t < f' ∨ t' < f := by
  have key : ∀ {j j' f t f' t' : Nat}, BarAt p j f t lv → BarAt p j' f' t' lv → j < j' → t < f' := by
    intro j j' f t f' t' hb hb' hlt
    by_cases hc : t < f'
    · exact hc
    · have := barsTo_lev h p.length (Nat.le_refl _) j j' _ _ hb.get hb'.get hlt (by
        simp only [Int.toNat_natCast]
        unfold hasI
        simp only [decide_eq_true_eq]
        have h1 : (p.drop f')[t - f']? = some (j : Int) := by
          rw [List.getElem?_drop, show f' + (t - f') = t by omega, ← hb.pt]; exact get_getD hb.lt
        exact List.mem_of_getElem? h1)
      simp only at this
      omega
  rcases Nat.lt_or_gt_of_ne hne with hl | hl
  · exact .inl (key hb hb' hl)
  · exact .inr (key hb' hb hl)

/-! ### What stands behind a packet in a row -/
theorem goes_iff {L : List Bar} {n row i : Int} (m : Nat) (hm : m ≤ L.length) : (pgTo L n row i m).2 = true ↔ ∃ k b, k < m ∧ L[k]? = some b ∧ b.2.2 = row ∧ b.1 ≤ i ∧ i < b.2.1 := by
  induction m with
  | zero => simp [pgTo]
  | succ m ih =>
    obtain ⟨b, hb⟩ := getB (l := L) rfl (show m < L.length by omega)
    rw [pgTo_succ hb]
    have ih' := ih (by omega)
    unfold pgBar
    constructor
    · intro h
      by_cases e : b.2.2 = row
      · rw [if_pos e] at h
        simp only [Bool.or_eq_true, Bool.and_eq_true, decide_eq_true_eq] at h
        rcases h with h | h
        · obtain ⟨k, c, hk, r⟩ := ih'.1 h
          exact ⟨k, c, by omega, r⟩
        · exact ⟨m, b, by omega, hb, e, h.1, h.2⟩
      · rw [if_neg e] at h
        obtain ⟨k, c, hk, r⟩ := ih'.1 h
        exact ⟨k, c, by omega, r⟩
    · rintro ⟨k, c, hk, hc, e, h1, h2⟩
      by_cases ek : k = m
      · subst ek
        rw [hb] at hc
        injection hc with hc
        subst hc
        rw [if_pos e]
        simp [h1, h2]
      · have := ih'.2 ⟨k, c, by omega, hc, e, h1, h2⟩
        split <;> simp [this]
/-- a line goes on behind packet i in a row -/
def goesL (p : List Int) (row i : Nat) : Bool := (pgTo (barsTo p p.length) (p.getD i 0) (row : Int) (i : Int) (barsTo p p.length).length).2
theorem goesL_iff {p : List Int} (h : chk p = 0) {row i : Nat} : goesL p row i = true ↔ ∃ j f t, BarAt p j f t row ∧ f ≤ i ∧ i < t := by
  unfold goesL
  rw [goes_iff _ (Nat.le_refl _)]
  constructor
  · rintro ⟨k, b, hk, hb, e, h1, h2⟩
    obtain ⟨f, t, lv, rfl, hB⟩ := barAt_get h hb
    simp only at e h1 h2
    obtain rfl : lv = row := by omega
    exact ⟨k, f, t, hB, by omega, by omega⟩
  · rintro ⟨j, f, t, hB, h1, h2⟩
    exact ⟨j, _, (List.getElem?_eq_some_iff.1 hB.get).1, hB.get, rfl, by simp only; omega, by simp only; omega⟩
theorem rowTo_gap {l : List Int} (L : List Bar) (row : Int) (k : Nat) (hk : k ≤ l.length) : ∀ i, i < k → i + 1 < l.length → (rowTo l L row k)[2 * i + 1]? = some (sgn 0 (pgTo L (l.getD i 0) row i L.length).2) := by
  induction k with
  | zero => intro i hi; omega
  | succ k ih =>
    intro i hi hil
    have hlen : (rowTo l L row k).length = 2 * k := by
      by_cases hk0 : 1 ≤ k
      · have := (rowTo_get (l := l) L row k (by omega) hk0).1
        rwa [if_pos (by omega)] at this
      · obtain rfl : k = 0 := by omega
        rfl
    rw [rowTo_succ]
    by_cases e : i = k
    · subst e
      unfold cellT
      rw [if_pos hil, List.getElem?_append_right (by omega), hlen, show 2 * i + 1 - 2 * i = 1 by omega]; rfl
    · rw [List.getElem?_append_left (by omega)]
      exact ih (by omega) i (by omega) hil

/-- what a row of a chart is asked: the row of a level -/
structure ChartRow (p : List Int) (row : Nat) (S : List UInt8) : Prop where
  len : S.length = 2 * p.length - 1
  less : ∀ i j f t lv, i < p.length → p.getD i 0 = (j : Nat) → BarAt p j f t lv → row < lv → S.getD (2 * i) 0 = 32 ∨ S.getD (2 * i) 0 = 45
  own : ∀ i j f t lv, i < p.length → p.getD i 0 = (j : Nat) → BarAt p j f t lv → row = lv → S.getD (2 * i) 0 = if f < t then 111 else 124
  more : ∀ i j f t lv, i < p.length → p.getD i 0 = (j : Nat) → BarAt p j f t lv → lv < row → S.getD (2 * i) 0 = 124 ∨ S.getD (2 * i) 0 = 120
  gap : ∀ i, i + 1 < p.length → S.getD (2 * i + 1) 0 = if goesL p row i then 45 else 32
theorem getD_of_get8 {l : List UInt8} {i : Nat} {v : UInt8} (h : l[i]? = some v) : l.getD i 0 = v := by rw [List.getD_eq_getElem?_getD, h]; rfl
theorem chartRow {p : List Int} (h : chk p = 0) (row : Nat) : ChartRow p row (rowTo p (barsTo p p.length) (row : Int) p.length) := by
  obtain ⟨g1, g2, _⟩ := rowTo_get (barsTo p p.length) (row : Int) p.length (Nat.le_refl _) (chk_ok h).1
  rw [if_neg (by omega)] at g1
  have hs : ∀ i j f t lv, p.getD i 0 = (j : Nat) → BarAt p j f t lv → signT p (barsTo p p.length) row i = if row < lv then sgn 0 (pgTo (barsTo p p.length) j row i (barsTo p p.length).length).1 else if row = lv then sgn 1 (decide (f < t)) else sgn 2 (pgTo (barsTo p p.length) j row i (barsTo p p.length).length).1 := by
    intro i j f t lv hj hB
    unfold signT
    simp only
    rw [hj, Int.toNat_natCast, getD_of_get hB.get]
    simp only [Int.ofNat_lt, Int.ofNat_inj]
  refine ⟨g1, fun i j f t lv hi hj hB hl => ?_, fun i j f t lv hi hj hB hl => ?_, fun i j f t lv hi hj hB hl => ?_, fun i hi => ?_⟩
  · rw [getD_of_get8 (g2 i hi), hs i j f t lv hj hB, if_pos hl]
    cases (pgTo (barsTo p p.length) j row i (barsTo p p.length).length).1 <;> decide
  · rw [getD_of_get8 (g2 i hi), hs i j f t lv hj hB, if_neg (by omega), if_pos hl]
    by_cases e : f < t
    · rw [if_pos e, decide_eq_true e]; decide
    · rw [if_neg e, decide_eq_false e]; decide
  · rw [getD_of_get8 (g2 i hi), hs i j f t lv hj hB, if_neg (by omega), if_neg (by omega)]
    cases (pgTo (barsTo p p.length) j row i (barsTo p p.length).length).1 <;> decide
  · rw [getD_of_get8 (rowTo_gap _ _ _ (Nat.le_refl _) i (by omega) hi)]
    show sgn 0 (goesL p row i) = _
    cases goesL p row i <;> decide

/-! ### The program's labels -/
/-- where the line to a packet begins: from packet k on, to the left -/
def walkF (S : List UInt8) : Nat → Nat → Nat
  | 0, from_ => from_
  | k + 1, from_ => if S.getD (2 * k + 1) 0 = 45 then walkF S k (if S.getD (2 * k) 0 = 111 then 2 * k else from_) else from_
def fromF (S : List UInt8) (i : Nat) : Nat := if S.getD (2 * i) 0 = 111 then walkF S i (2 * i) else 2 * i
theorem fromF_chart {p : List Int} (h : chk p = 0) {i j f t lv : Nat} (hi : i < p.length) (hj : p.getD i 0 = j) (hB : BarAt p j f t lv) {S : List UInt8} (hS : ChartRow p lv S) : fromF S i = 2 * f := by
  have hin := hB.all i hi hj
  have hft := hB.lt
  unfold fromF
  rw [hS.own i j f t lv hi hj hB rfl]
  by_cases hlt : f < t
  · rw [if_pos hlt, if_pos rfl]
    have stop : ∀ x, walkF S f x = x := by
      intro x
      cases f with
      | zero => rfl
      | succ f =>
        unfold walkF
        rw [hS.gap f (by omega)]
        have hg : goesL p lv f = false := by
          cases hg : goesL p lv f with
          | false => rfl
          | true =>
            obtain ⟨j', f', t', hB', h1, h2⟩ := (goesL_iff h).1 hg
            by_cases e : j = j'
            · subst e
              have := hB'.all _ (by omega) hB.pf
              have := hB.all f' (by have := hB'.le; have := hB'.lt; omega) hB'.pf
              omega
            · rcases hB.apart h hB' e with h3 | h3 <;> omega
        rw [hg]; simp
    have down : ∀ d, f + d ≤ i → 1 ≤ d → ∀ x, walkF S (f + d) x = 2 * f := by
      intro d
      induction d with
      | zero => intro _ h1; omega
      | succ d ih =>
        intro hd _ x
        rw [show f + (d + 1) = (f + d) + 1 by omega]
        unfold walkF
        rw [hS.gap (f + d) (by omega), (goesL_iff h).2 ⟨j, f, t, hB, by omega, by omega⟩, if_pos rfl, if_pos rfl]
        by_cases hd0 : d = 0
        · subst hd0
          rw [Nat.add_zero, hS.own f j f t lv (by omega) hB.pf hB rfl, if_pos hlt, if_pos rfl, stop]
        · exact ih (by omega) (by omega) _
    by_cases e : i = f
    · subst e; exact stop _
    · have := down (i - f) (by omega) (by omega) (2 * i)
      rwa [show f + (i - f) = i by omega] at this
  · rw [if_neg hlt, if_neg (by decide)]; omega

/-- the first row with a packet's own sign -/
def rowF (RL : List (List UInt8)) (i : Nat) : Option Nat := RL.findIdx? fun S => S.getD (2 * i) 0 == 111 || S.getD (2 * i) 0 == 124
theorem findIdx?_at {α : Type} {q : α → Bool} {l : List α} {r : Nat} {x : α} (hx : l[r]? = some x) (hq : q x = true) (hb : ∀ k y, k < r → l[k]? = some y → q y = false) : l.findIdx? q = some r := by
  rw [List.findIdx?_eq_some_iff_getElem]
  obtain ⟨hr, e⟩ := List.getElem?_eq_some_iff.1 hx
  refine ⟨hr, by rw [e]; exact hq, fun k hk => ?_⟩
  have := hb k _ hk (List.getElem?_eq_getElem (by omega))
  simp [this]
/-- the rows of a chart -/
def rowsL (p : List Int) : List (List UInt8) := (List.range ((mostOf (barsTo p p.length)).toNat + 1)).map fun (r : Nat) => rowTo p (barsTo p p.length) ((r : Int) + 1) p.length
theorem rowsL_get {p : List Int} (h : chk p = 0) {r : Nat} {S : List UInt8} (hr : (rowsL p)[r]? = some S) : ChartRow p (r + 1) S := by
  unfold rowsL at hr
  rw [List.getElem?_map] at hr
  obtain ⟨k, hk, rfl⟩ := Option.map_eq_some_iff.1 hr
  have := (List.getElem?_eq_some_iff.1 hk).2
  simp at this
  subst this
  have := chartRow h (r + 1)
  rwa [Int.natCast_add] at this
theorem rowF_chart {p : List Int} (h : chk p = 0) {i j f t lv : Nat} (hi : i < p.length) (hj : p.getD i 0 = j) (hB : BarAt p j f t lv) : rowF (rowsL p) i = some (lv - 1) ∧ ∃ S, (rowsL p)[lv - 1]? = some S ∧ ChartRow p lv S := by
  have hm := mostOf_ge hB.get
  simp only at hm
  have hlen : (rowsL p).length = (mostOf (barsTo p p.length)).toNat + 1 := by unfold rowsL; simp
  have hlv := hB.lev
  obtain ⟨S, hS⟩ : ∃ S, (rowsL p)[lv - 1]? = some S := ⟨(rowsL p)[lv - 1]'(by omega), List.getElem?_eq_getElem _⟩
  have hC := rowsL_get h hS
  rw [show lv - 1 + 1 = lv by omega] at hC
  refine ⟨findIdx?_at hS ?_ ?_, S, hS, hC⟩
  · rw [hC.own i j f t lv hi hj hB rfl]
    split <;> decide
  · intro k y hk hy
    rcases (rowsL_get h hy).less i j f t lv hi hj hB (by omega) with e | e <;> rw [e] <;> decide

/-- the program's labels, of so many packets -/
def labF (RL : List (List UInt8)) (i : Nat) : Option (Int × Int) := (rowF RL i).map fun (r : Nat) => ((r : Int), (fromF (RL.getD r []) i : Int))
def labsF (RL : List (List UInt8)) : Nat → Option (List (Int × Int))
  | 0 => some []
  | n + 1 => match labsF RL n with
    | none => none
    | some l => match labF RL n with
      | none => none
      | some x => some (l ++ [x])
/-- where a packet's block begins, and its level -/
theorem labF_chart {p : List Int} (h : chk p = 0) {i j f t lv : Nat} (hi : i < p.length) (hj : p.getD i 0 = j) (hB : BarAt p j f t lv) : labF (rowsL p) i = some (((lv - 1 : Nat) : Int), ((2 * f : Nat) : Int)) := by
  obtain ⟨h1, S, h2, h3⟩ := rowF_chart h hi hj hB
  unfold labF
  rw [h1]
  simp only [Option.map_some]
  rw [show (rowsL p).getD (lv - 1) [] = S by rw [List.getD_eq_getElem?_getD, h2]; rfl, fromF_chart h hi hj hB h3]
theorem labsF_chart {p : List Int} (h : chk p = 0) : ∀ n, n ≤ p.length → ∃ L, labsF (rowsL p) n = some L ∧ L.length = n ∧ ∀ i, i < n → ∀ j f t lv, p.getD i 0 = (j : Nat) → BarAt p j f t lv → L[i]? = some (((lv - 1 : Nat) : Int), ((2 * f : Nat) : Int)) := by
  intro n
  induction n with
  | zero => intro _; exact ⟨[], rfl, rfl, fun i hi => by omega⟩
  | succ n ih =>
    intro hn
    obtain ⟨L, h1, h2, h3⟩ := ih (by omega)
    obtain ⟨j, f, t, lv, hj, hB⟩ := barAt_of h (show n < p.length by omega)
    have h4 := labF_chart h (show n < p.length by omega) hj hB
    refine ⟨L ++ [(((lv - 1 : Nat) : Int), ((2 * f : Nat) : Int))], by unfold labsF; rw [h1]; simp only; rw [h4], by simp [h2], fun i hi j' f' t' lv' hj' hB' => ?_⟩
    by_cases e : i = n
    · subst e
      obtain rfl : j = j' := by omega
      have e2 := hB.get.symm.trans hB'.get
      injection e2 with e2
      injection e2 with e3 e4
      injection e4 with e4 e5
      obtain rfl : f = f' := by omega
      obtain rfl : lv = lv' := by omega
      rw [List.getElem?_append_right (by omega), h2, Nat.sub_self]; rfl
    · rw [List.getElem?_append_left (by omega)]
      exact h3 i (by omega) j' f' t' lv' hj' hB'
/-- the labels of a chart have the partition's pattern -/
theorem labs_pat {p : List Int} (h : chk p = 0) {L : List (Int × Int)} (hL : labsF (rowsL p) p.length = some L) : ofL (L.map fun x => x.1 * 1000 + x.2) = p := by
  obtain ⟨L', h1, h2, h3⟩ := labsF_chart h p.length (Nat.le_refl _)
  rw [hL] at h1
  injection h1 with h1
  subst h1
  have hg : ∀ i, i < p.length → ∀ j f t lv, p.getD i 0 = (j : Nat) → BarAt p j f t lv → (L.map fun x => x.1 * 1000 + x.2).getD i 0 = ((lv - 1 : Nat) : Int) * 1000 + ((2 * f : Nat) : Int) := by
    intro i hi j f t lv hj hB
    refine getD_of_get ?_
    rw [List.getElem?_map, h3 i hi j f t lv hj hB]; rfl
  rw [show p = ofL p from (ofL_self h).symm, ofL_self h]
  rw [← ofL_self h]
  conv => rhs; rw [ofL_self h]
  refine (ofL_pat ⟨by simp [h2], fun i k hi hk => ?_⟩).trans (ofL_self h)
  rw [List.length_map, h2] at hi hk
  obtain ⟨j, f, t, lv, hj, hB⟩ := barAt_of h hi
  obtain ⟨j', f', t', lv', hj', hB'⟩ := barAt_of h hk
  rw [hg i hi j f t lv hj hB, hg k hk j' f' t' lv' hj' hB', hj, hj']
  have hl := (chk_ok h).2.1
  have hfl := hB.le
  have hfl' := hB'.le
  have hf := hB.lt
  have hf' := hB'.lt
  constructor
  · intro e
    obtain rfl : f = f' := by omega
    exact hB.pf.symm.trans hB'.pf
  · intro e
    obtain rfl : j = j' := by omega
    have e2 := hB.get.symm.trans hB'.get
    injection e2 with e2
    injection e2 with e3 e4
    injection e4 with e4 e5
    obtain rfl : f = f' := by omega
    obtain rfl : lv = lv' := by omega
    rfl
end Go.Proofs.YtooepkpgffpcjaaDoor
