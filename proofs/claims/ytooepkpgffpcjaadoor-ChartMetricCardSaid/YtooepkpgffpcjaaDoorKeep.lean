/- Plain law: the packets that can stay: the greatest choice of packets on which two partitions agree. So moves are a distance. -/
import Derived.Test.YtooepkpgffpcjaaDoorMovesLaw
import Derived.Test.YtooepkpgffpcjaaDoorLat
namespace Go.Proofs.YtooepkpgffpcjaaDoor

def cntN (n : Nat) (S : Nat → Bool) : Nat := (List.range n).countP S
theorem cntN_succ (n : Nat) (S : Nat → Bool) : cntN (n + 1) S = cntN n S + if S n = true then 1 else 0 := by
  unfold cntN
  rw [List.range_succ, List.countP_append, List.countP_cons, List.countP_nil]
  simp
theorem cntN_le (n : Nat) (S : Nat → Bool) : cntN n S ≤ n := by
  induction n with
  | zero => simp [cntN]
  | succ n ih => rw [cntN_succ]; split <;> omega
theorem cntN_congr {n : Nat} {S T : Nat → Bool} (h : ∀ i, i < n → S i = T i) : cntN n S = cntN n T := by
  induction n with
  | zero => rfl
  | succ n ih => rw [cntN_succ, cntN_succ, ih fun i hi => h i (by omega), h n (by omega)]
theorem cntN_mono {n : Nat} {S T : Nat → Bool} (h : ∀ i, i < n → S i = true → T i = true) : cntN n S ≤ cntN n T := by
  induction n with
  | zero => exact Nat.le_refl _
  | succ n ih =>
    have h1 := ih fun i hi => h i (by omega)
    rw [cntN_succ, cntN_succ]
    by_cases e : S n = true
    · rw [if_pos e, if_pos (h n (by omega) e)]; omega
    · rw [if_neg e]; omega
theorem cntN_split {n : Nat} (S T U : Nat → Bool) (h : ∀ i, i < n → (S i = true → T i = true ∨ U i = true)) : cntN n S ≤ cntN n T + cntN n U := by
  induction n with
  | zero => simp [cntN]
  | succ n ih =>
    have h1 := ih fun i hi => h i (by omega)
    rw [cntN_succ, cntN_succ, cntN_succ]
    by_cases e : S n = true
    · rw [if_pos e]
      rcases h n (by omega) e with e | e
      · rw [if_pos e]; omega
      · rw [if_pos e]; omega
    · rw [if_neg e]; omega
theorem cntN_apart {n : Nat} (T U : Nat → Bool) (h : ∀ i, i < n → T i = true → U i = false) : cntN n (fun i => T i || U i) = cntN n T + cntN n U := by
  induction n with
  | zero => simp [cntN]
  | succ n ih =>
    have h1 := ih fun i hi => h i (by omega)
    rw [cntN_succ, cntN_succ, cntN_succ, h1]
    have h2 := h n (by omega)
    cases e1 : T n <;> cases e2 : U n
    · simp
    · simp
      omega
    · simp
      omega
    · rw [e1, e2] at h2; exact absurd (h2 rfl) (by simp)
theorem cntN_both {n : Nat} (S T : Nat → Bool) : cntN n S + cntN n T ≤ n + cntN n (fun i => S i && T i) := by
  induction n with
  | zero => simp [cntN]
  | succ n ih =>
    rw [cntN_succ, cntN_succ, cntN_succ]
    cases S n <;> cases T n <;> simp <;> omega
theorem cntN_all {n : Nat} {S : Nat → Bool} (h : cntN n S = n) : ∀ i, i < n → S i = true := by
  induction n with
  | zero => intro i hi; omega
  | succ n ih =>
    rw [cntN_succ] at h
    have h1 := cntN_le n S
    intro i hi
    by_cases e : S n = true
    · rw [if_pos e] at h
      rcases Nat.lt_or_ge i n with hlt | hge
      · exact ih (by omega) i hlt
      · obtain rfl : i = n := by omega
        exact e
    · rw [if_neg e] at h; omega
theorem cntN_true (n : Nat) : cntN n (fun _ => true) = n := by
  induction n with
  | zero => rfl
  | succ n ih => rw [cntN_succ, ih]; rfl
theorem cntN_pos {n : Nat} {S : Nat → Bool} {i : Nat} (hi : i < n) (h : S i = true) : 0 < cntN n S := by
  unfold cntN; exact List.countP_pos_iff.2 ⟨i, List.mem_range.2 hi, h⟩
theorem cntN_none {n : Nat} {S : Nat → Bool} (h : ∀ i, i < n → S i = false) : cntN n S = 0 := by
  unfold cntN; rw [List.countP_eq_zero]; intro i hi; rw [h i (List.mem_range.1 hi)]; simp
theorem cntN_but (n k : Nat) : n ≤ cntN n (fun i => i != k) + 1 := by
  induction n with
  | zero => omega
  | succ n ih =>
    rw [cntN_succ]
    by_cases e : n = k
    · subst e
      have : cntN n (fun i => i != n) = cntN n (fun _ => true) := cntN_congr fun i hi => by simp; omega
      rw [this, cntN_true]; simp
    · have : (n != k) = true := by simpa using e
      rw [if_pos this]; omega

theorem cmn_cnt {a b : List Int} (h : a.length = b.length) (x y : Int) : cmn a b x y = cntN a.length (fun i => decide (a.getD i 0 = x ∧ b.getD i 0 = y)) := by
  have key : ∀ k, k ≤ a.length → cmn (a.take k) (b.take k) x y = cntN k (fun i => decide (a.getD i 0 = x ∧ b.getD i 0 = y)) := by
    intro k
    induction k with
    | zero => intro _; simp [cmn, cntN]
    | succ k ih =>
      intro hk
      rw [take_of_get (get_getD (l := a) (i := k) (by omega)), take_of_get (get_getD (l := b) (i := k) (by omega)), cmn_snoc _ _ _ _ _ _ (by simp; omega), ih (by omega), cntN_succ]
      by_cases e : a.getD k 0 = x ∧ b.getD k 0 = y
      · rw [if_pos e, if_pos (by simpa using e)]; omega
      · rw [if_neg e, if_neg (by simpa using e)]; omega
  have := key a.length (Nat.le_refl _)
  rw [List.take_of_length_le (Nat.le_refl _), List.take_of_length_le (by omega)] at this
  exact this

/-- the partitions agree on the packets of S -/
def Agree (a b : List Int) (S : Nat → Bool) : Prop := ∀ i j, i < a.length → j < a.length → S i = true → S j = true → (a.getD i 0 = a.getD j 0 ↔ b.getD i 0 = b.getD j 0)
/-- S has packets of blocks from x on only, whose blocks of b are not taken -/
def Free (a b : List Int) (x : Int) (t : List Bool) (S : Nat → Bool) : Prop := ∀ i, i < a.length → S i = true → x ≤ a.getD i 0 ∧ t.getD (b.getD i 0).toNat true = false

theorem stay_ge {a b : List Int} {nb : Nat} (h : a.length = b.length) (ha : ∀ i, i < a.length → a.getD i 0 < nb) (hb : ∀ i, i < a.length → 0 ≤ b.getD i 0) (f : Nat) (hf : f ≤ nb) :
    ∀ (t : List Bool) (S : Nat → Bool), Agree a b S → Free a b (nb - f) t S → (cntN a.length S : Int) ≤ stay a b nb f t := by
  induction f with
  | zero =>
    intro t S _ hS
    rw [cntN_none fun i hi => by
      by_cases e : S i = true
      · have := (hS i hi e).1; have := ha i hi; omega
      · simpa using e]
    exact Int.le_refl _
  | succ f ih =>
    intro t S hA hS
    by_cases hx : ∃ i, i < a.length ∧ S i = true ∧ a.getD i 0 = nb - (f + 1 : Nat)
    · obtain ⟨i0, hi0, hs0, e0⟩ := hx
      obtain ⟨y, hy⟩ : ∃ y : Nat, b.getD i0 0 = y := ⟨(b.getD i0 0).toNat, by have := hb i0 hi0; omega⟩
      have ht := (hS i0 hi0 hs0).2
      rw [hy, Int.toNat_natCast] at ht
      have hc : 0 < cmn a b (nb - (f + 1 : Nat)) y := by
        rw [cmn_cnt h]
        have := cntN_pos (S := fun i => decide (a.getD i 0 = nb - (f + 1 : Nat) ∧ b.getD i 0 = y)) hi0 (by rw [decide_eq_true_eq]; exact ⟨e0, hy⟩)
        omega
      refine Int.le_trans ?_ (stay_take a b nb f t y hc ht)
      have h1 := ih (by omega) (t.set y true) (fun i => S i && decide (nb - (f : Int) ≤ a.getD i 0)) (fun i j hi hj h1 h2 => by
        rw [Bool.and_eq_true] at h1 h2
        exact hA i j hi hj h1.1 h2.1) (fun i hi h1 => by
        rw [Bool.and_eq_true, decide_eq_true_eq] at h1
        refine ⟨h1.2, ?_⟩
        rw [getD_set, if_neg, (hS i hi h1.1).2]
        intro e
        have h2 := hb i hi
        have h3 : b.getD i 0 = b.getD i0 0 := by omega
        have h4 := (hA i i0 hi hi0 h1.1 hs0).2 h3
        omega)
      have h2 := cntN_split S (fun i => decide (a.getD i 0 = nb - (f + 1 : Nat) ∧ b.getD i 0 = y)) (fun i => S i && decide (nb - (f : Int) ≤ a.getD i 0)) (n := a.length) (fun i hi hs => by
        have h3 := (hS i hi hs).1
        by_cases e : a.getD i 0 = nb - (f + 1 : Nat)
        · left
          have h4 := (hA i i0 hi hi0 hs hs0).1 (by rw [e, e0])
          simp only [decide_eq_true_eq]
          exact ⟨e, by rw [h4, hy]⟩
        · right
          rw [Bool.and_eq_true, decide_eq_true_eq]
          exact ⟨hs, by omega⟩)
      have h5 := cmn_cnt h (nb - (f + 1 : Nat)) y
      omega
    · refine Int.le_trans (ih (by omega) t S hA fun i hi hs => ⟨?_, (hS i hi hs).2⟩) (stay_skip a b nb f t)
      have h1 := (hS i hi hs).1
      rcases Int.lt_or_le (a.getD i 0) (nb - (f : Int)) with h2 | h2
      · exact absurd ⟨i, hi, hs, by omega⟩ hx
      · exact h2

theorem stay_by {a b : List Int} {nb : Nat} (h : a.length = b.length) (hb : ∀ i, i < a.length → 0 ≤ b.getD i 0) (f : Nat) :
    ∀ (t : List Bool), ∃ S, Agree a b S ∧ Free a b (nb - f) t S ∧ (cntN a.length S : Int) = stay a b nb f t := by
  induction f with
  | zero =>
    intro t
    refine ⟨fun _ => false, ?_, ?_, ?_⟩
    · intro i j _ _ h; cases h
    · intro i _ h; cases h
    · rw [cntN_none fun _ _ => rfl]; rfl
  | succ f ih =>
    intro t
    rcases stay_met a b nb f t with e | ⟨y, hc, ht, e⟩
    · obtain ⟨S, h1, h2, h3⟩ := ih t
      exact ⟨S, h1, fun i hi hs => ⟨by have := (h2 i hi hs).1; omega, (h2 i hi hs).2⟩, by rw [h3, e]⟩
    · obtain ⟨S, h1, h2, h3⟩ := ih (t.set y true)
      have hne : ∀ i, i < a.length → S i = true → a.getD i 0 ≠ nb - (f + 1 : Nat) ∧ b.getD i 0 ≠ y := fun i hi hs => by
        obtain ⟨k1, k2⟩ := h2 i hi hs
        refine ⟨by omega, fun e => ?_⟩
        rw [e, Int.toNat_natCast, getD_set, if_pos rfl] at k2
        cases k2
      refine ⟨fun i => decide (a.getD i 0 = nb - (f + 1 : Nat) ∧ b.getD i 0 = y) || S i, fun i j hi hj hi2 hj2 => ?_, fun i hi hs => ?_, ?_⟩
      · simp only [Bool.or_eq_true, decide_eq_true_eq] at hi2 hj2
        rcases hi2 with ⟨i1, i2⟩ | hi2
        · rcases hj2 with ⟨j1, j2⟩ | hj2
          · rw [i1, i2, j1, j2]; simp
          · have := hne j hj hj2
            rw [i1, i2]
            exact ⟨fun e => absurd e.symm this.1, fun e => absurd e.symm this.2⟩
        · rcases hj2 with ⟨j1, j2⟩ | hj2
          · have := hne i hi hi2
            rw [j1, j2]
            exact ⟨fun e => absurd e this.1, fun e => absurd e this.2⟩
          · exact h1 i j hi hj hi2 hj2
      · simp only [Bool.or_eq_true, decide_eq_true_eq] at hs
        rcases hs with ⟨i1, i2⟩ | hs
        · rw [i1, i2, Int.toNat_natCast]; exact ⟨Int.le_refl _, ht⟩
        · obtain ⟨k1, k2⟩ := h2 i hi hs
          refine ⟨by omega, ?_⟩
          rw [getD_set] at k2
          split at k2
          · cases k2
          · exact k2
      · rw [cntN_apart _ _ (fun i hi hs => by
          simp only [decide_eq_true_eq] at hs
          by_cases e : S i = true
          · exact absurd hs.1 (hne i hi e).1
          · simpa using e)]
        have h5 := cmn_cnt h (nb - (f + 1 : Nat)) y
        omega

/-! ### The distance -/
def mvN (a b : List Int) : Int := a.length - stay a b (blk a) (blk a).toNat (List.replicate (blk b).toNat false)
theorem movesR_ok {a b : List Int} (ha : chk a = 0) (hb : chk b = 0) (h : a.length = b.length) : movesR a b = (mvN a b, 0) := by
  have : chk2 a b = 0 := by unfold chk2; rw [ha, hb]; simp [h]
  unfold movesR; rw [if_neg (by omega)]; rfl
theorem mv_le {a b : List Int} (ha : chk a = 0) (hb : chk b = 0) (h : a.length = b.length) {S : Nat → Bool} (hS : Agree a b S) : mvN a b ≤ a.length - cntN a.length S := by
  have b1 := blk_le9 ha
  have b2 := blk_le9 hb
  obtain ⟨p, hp⟩ : ∃ p : Nat, blk a = p := ⟨(blk a).toNat, by omega⟩
  have := stay_ge (nb := p) h (fun i hi => by rw [← hp]; exact lt_blk (getD_mem hi)) (fun i hi => ((chk_ok hb).2.2.1 _ (getD_mem (by omega))).1) p (Nat.le_refl _) (List.replicate (blk b).toNat false) S hS (fun i hi _ => by
    have h1 := ((chk_ok ha).2.2.1 _ (getD_mem hi)).1
    have h2 := ((chk_ok hb).2.2.1 _ (getD_mem (l := b) (i := i) (by omega))).1
    have h3 := lt_blk (getD_mem (l := b) (i := i) (by omega))
    refine ⟨by omega, ?_⟩
    rw [List.getD_eq_getElem?_getD, List.getElem?_replicate, if_pos (by omega)]; rfl)
  unfold mvN
  rw [hp, Int.toNat_natCast]
  omega
theorem mv_by {a b : List Int} (ha : chk a = 0) (hb : chk b = 0) (h : a.length = b.length) : ∃ S, Agree a b S ∧ mvN a b = a.length - cntN a.length S := by
  have b1 := blk_le9 ha
  obtain ⟨p, hp⟩ : ∃ p : Nat, blk a = p := ⟨(blk a).toNat, by omega⟩
  obtain ⟨S, h1, _, h3⟩ := stay_by (nb := p) h (fun i hi => ((chk_ok hb).2.2.1 _ (getD_mem (by omega))).1) p (List.replicate (blk b).toNat false)
  refine ⟨S, h1, ?_⟩
  unfold mvN
  rw [hp, Int.toNat_natCast, h3]
theorem Agree.symm {a b : List Int} (h : a.length = b.length) {S : Nat → Bool} (hS : Agree a b S) : Agree b a S := fun i j hi hj h1 h2 => (hS i j (by omega) (by omega) h1 h2).symm
theorem mv_symm {a b : List Int} (ha : chk a = 0) (hb : chk b = 0) (h : a.length = b.length) : mvN a b = mvN b a := by
  obtain ⟨S, h1, h2⟩ := mv_by ha hb h
  obtain ⟨T, k1, k2⟩ := mv_by hb ha h.symm
  have e1 := mv_le hb ha h.symm (h1.symm h)
  have e2 := mv_le ha hb h (k1.symm h.symm)
  rw [← h] at e1 k2
  omega
theorem mv_nonneg {a b : List Int} (ha : chk a = 0) (hb : chk b = 0) (h : a.length = b.length) : 0 ≤ mvN a b := by
  obtain ⟨S, _, h2⟩ := mv_by ha hb h
  have := cntN_le a.length S
  omega
theorem mv_lt {a b : List Int} (ha : chk a = 0) (hb : chk b = 0) (h : a.length = b.length) : mvN a b < a.length := by
  have h0 := (chk_ok ha).1
  have h1 := mv_le ha hb h (S := fun i => i == 0) (fun i j _ _ hi hj => by
    simp at hi hj; subst hi hj; simp)
  have := cntN_pos (S := fun i => i == 0) (n := a.length) (i := 0) (by omega) rfl
  omega
theorem mv_tri {a b c : List Int} (ha : chk a = 0) (hb : chk b = 0) (hc : chk c = 0) (h : a.length = b.length) (g : b.length = c.length) : mvN a c ≤ mvN a b + mvN b c := by
  obtain ⟨S, h1, h2⟩ := mv_by ha hb h
  obtain ⟨T, k1, k2⟩ := mv_by hb hc g
  have e := mv_le ha hc (h.trans g) (S := fun i => S i && T i) (fun i j hi hj hi2 hj2 => by
    simp only [Bool.and_eq_true] at hi2 hj2
    exact (h1 i j hi hj hi2.1 hj2.1).trans (k1 i j (by omega) (by omega) hi2.2 hj2.2))
  have := cntN_both (n := a.length) S T
  rw [← h] at k2
  omega
theorem mv_zero {a b : List Int} (ha : chk a = 0) (hb : chk b = 0) (h : a.length = b.length) : mvN a b = 0 ↔ a = b := by
  constructor
  · intro e
    obtain ⟨S, h1, h2⟩ := mv_by ha hb h
    have hall := cntN_all (n := a.length) (S := S) (by omega)
    exact (part_eq_iff ha hb).2 ⟨h, fun i j hi hj => h1 i j hi hj (hall i hi) (hall j hj)⟩
  · rintro rfl
    have e := mv_le ha ha rfl (S := fun _ => true) (fun i j _ _ _ _ => Iff.rfl)
    rw [cntN_true] at e
    have := mv_nonneg ha ha rfl
    omega
/-- labels that are those of a partition but at one place -/
theorem mv_one {a l : List Int} (ha : chk a = 0) (hl : a.length = l.length) {k : Nat} (h : ∀ i, i < a.length → i ≠ k → l.getD i 0 = a.getD i 0) : mvN a (ofL l) ≤ 1 := by
  have h9 := chk_ok ha
  have e := mv_le ha (chk_ofL (l := l) (by omega) (by omega)) (by rw [ofL_length]; exact hl) (S := fun i => i != k) (fun i j hi hj hi2 hj2 => by
    simp at hi2 hj2
    rw [← (pat_ofL l).2 i j (by omega) (by omega), h i hi hi2, h j hj hj2])
  have := cntN_but a.length k
  omega
end Go.Proofs.YtooepkpgffpcjaaDoor
