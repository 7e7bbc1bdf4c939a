/- Plain law: what the program's Moves computes is what the reference's Moves computes. -/
import Derived.Test.YtooepkpgffpcjaaDoorMoves
namespace Go.Proofs.YtooepkpgffpcjaaDoor

/-- the blocks that a set has -/
def bitsOf (q s : Nat) : List Bool := (List.range q).map fun y => s.testBit y
theorem bitsOf_length (q s : Nat) : (bitsOf q s).length = q := by simp [bitsOf]
theorem bitsOf_get {q s y : Nat} (hy : y < q) : (bitsOf q s)[y]? = some (s.testBit y) := by
  unfold bitsOf; rw [List.getElem?_map, List.getElem?_range hy]; rfl
theorem bitsOf_or {q s y : Nat} (hy : y < q) : bitsOf q (s ||| 2 ^ y) = (bitsOf q s).set y true := by
  apply List.ext_getElem?
  intro j
  by_cases hj : j < q
  · rw [bitsOf_get hj]
    by_cases e : y = j
    · subst e
      rw [List.getElem?_set_self (by rw [bitsOf_length]; exact hy)]
      simp [Nat.testBit_or]
    · rw [List.getElem?_set_ne e, bitsOf_get hj]
      simp [Nat.testBit_or, e]
  · rw [List.getElem?_eq_none (by rw [bitsOf_length]; omega), List.getElem?_eq_none (by rw [List.length_set, bitsOf_length]; omega)]
theorem bitsOf_zero (q : Nat) : bitsOf q 0 = List.replicate q false := by
  apply List.ext_getElem?
  intro j
  by_cases hj : j < q
  · rw [bitsOf_get hj, List.getElem?_replicate, if_pos hj]; simp
  · rw [List.getElem?_eq_none (by rw [bitsOf_length]; omega), List.getElem?_eq_none (by simp; omega)]
theorem bit_clear {s y : Nat} : s / 2 ^ y % 2 = 0 ↔ s.testBit y = false := by
  rw [Nat.testBit_eq_decide_div_mod_eq]; simp

/-! ### The reference's rounds: the greatest of what they offer -/
section
variable (a b : List Int) (x : Int) (t : List Bool) (next : List Bool → Int)
/-- what a round offers -/
def Offer (y : Nat) (v : Int) : Prop := 0 < cmn a b x y ∧ t.getD y true = false ∧ v = cmn a b x y + next (t.set y true)
theorem rounds_ge (ys : List Nat) (z : Int) : z ≤ ys.foldl (stayRound a b x t next) z := by
  induction ys generalizing z with
  | nil => exact Int.le_refl _
  | cons y ys ih =>
    refine Int.le_trans ?_ (ih _)
    unfold stayRound; split <;> omega
theorem rounds_offer (ys : List Nat) (z : Int) {y : Nat} (hy : y ∈ ys) {v : Int} (ho : Offer a b x t next y v) : v ≤ ys.foldl (stayRound a b x t next) z := by
  induction ys generalizing z with
  | nil => cases hy
  | cons y' ys ih =>
    rcases List.mem_cons.1 hy with rfl | hy
    · refine Int.le_trans ?_ (rounds_ge a b x t next ys _)
      unfold stayRound
      rw [if_pos ⟨ho.1, ho.2.1⟩, ho.2.2]
      omega
    · exact ih _ hy
theorem rounds_met (ys : List Nat) (z : Int) : ys.foldl (stayRound a b x t next) z = z ∨ ∃ y ∈ ys, Offer a b x t next y (ys.foldl (stayRound a b x t next) z) := by
  induction ys generalizing z with
  | nil => exact .inl rfl
  | cons y ys ih =>
    rcases ih (stayRound a b x t next z y) with h | ⟨y', hy', ho⟩
    · rw [List.foldl_cons, h]
      by_cases hc : 0 < cmn a b x y ∧ t.getD y true = false
      · have e : stayRound a b x t next z y = max z (cmn a b x y + next (t.set y true)) := by unfold stayRound; rw [if_pos hc]
        rcases Int.le_total z (cmn a b x y + next (t.set y true)) with hle | hle
        · exact .inr ⟨y, List.mem_cons_self .., hc.1, hc.2, by rw [e, Int.max_eq_right hle]⟩
        · exact .inl (by rw [e, Int.max_eq_left hle])
      · exact .inl (by unfold stayRound; rw [if_neg hc])
    · exact .inr ⟨y', List.mem_cons_of_mem _ hy', ho⟩
end

theorem stay_succ (a b : List Int) (nb : Int) (f : Nat) (t : List Bool) :
    stay a b nb (f + 1) t = (List.range t.length).foldl (stayRound a b (nb - (f + 1 : Nat)) t (stay a b nb f)) (stay a b nb f t) := rfl
theorem stay_skip (a b : List Int) (nb : Int) (f : Nat) (t : List Bool) : stay a b nb f t ≤ stay a b nb (f + 1) t := by
  rw [stay_succ]; exact rounds_ge ..
theorem getD_lt {t : List Bool} {y : Nat} (h : t.getD y true = false) : y < t.length := by
  rcases Nat.lt_or_ge y t.length with h1 | h1
  · exact h1
  · rw [List.getD_eq_getElem?_getD, List.getElem?_eq_none h1] at h; cases h
theorem stay_take (a b : List Int) (nb : Int) (f : Nat) (t : List Bool) (y : Nat) (hc : 0 < cmn a b (nb - (f + 1 : Nat)) y) (ht : t.getD y true = false) :
    cmn a b (nb - (f + 1 : Nat)) y + stay a b nb f (t.set y true) ≤ stay a b nb (f + 1) t := by
  rw [stay_succ]
  exact rounds_offer a b _ t _ _ _ (List.mem_range.2 (getD_lt ht)) ⟨hc, ht, rfl⟩
theorem stay_met (a b : List Int) (nb : Int) (f : Nat) (t : List Bool) : stay a b nb (f + 1) t = stay a b nb f t ∨
    ∃ y : Nat, 0 < cmn a b (nb - (f + 1 : Nat)) y ∧ t.getD y true = false ∧ stay a b nb (f + 1) t = cmn a b (nb - (f + 1 : Nat)) y + stay a b nb f (t.set y true) := by
  rcases rounds_met a b (nb - (f + 1 : Nat)) t (stay a b nb f) (List.range t.length) (stay a b nb f t) with h | ⟨y, _, h1, h2, h3⟩
  · exact .inl h
  · exact .inr ⟨y, h1, h2, h3⟩

/-- less is taken -/
def Less (t t' : List Bool) : Prop := ∀ y, t'.getD y true = false → t.getD y true = false
theorem getD_set (t : List Bool) (y j : Nat) : (t.set y true).getD j true = if y = j then true else t.getD j true := by
  simp only [List.getD_eq_getElem?_getD]
  by_cases e : y = j
  · subst e
    rw [if_pos rfl]
    rcases Nat.lt_or_ge y t.length with h | h
    · rw [List.getElem?_set_self h]; rfl
    · rw [List.getElem?_eq_none (by rw [List.length_set]; omega)]; rfl
  · rw [if_neg e, List.getElem?_set_ne e]
theorem Less.set {t t' : List Bool} (h : Less t t') (y : Nat) : Less (t.set y true) (t'.set y true) := by
  intro j hj
  rw [getD_set] at hj ⊢
  split at hj
  · cases hj
  · rename_i hne; rw [if_neg hne]; exact h j hj
theorem Less.of_set (t : List Bool) (y : Nat) : Less t (t.set y true) := by
  intro j hj
  rw [getD_set] at hj
  split at hj
  · cases hj
  · exact hj
theorem stay_less (a b : List Int) (nb : Int) (f : Nat) : ∀ t t', Less t t' → stay a b nb f t' ≤ stay a b nb f t := by
  induction f with
  | zero => intro t t' _; exact Int.le_refl _
  | succ f ih =>
    intro t t' h
    rcases stay_met a b nb f t' with e | ⟨y, h1, h2, e⟩
    · rw [e]; exact Int.le_trans (ih t t' h) (stay_skip ..)
    · rw [e]
      have := stay_take a b nb f t y h1 (h y h2)
      have := ih _ _ (h.set y)
      omega

/-! ### The program's step -/
def at_ (K : List Int) (s : Nat) : Int := K.getD s (-1)
theorem at_set (K : List Int) (i j : Nat) (u : Int) (hi : i < K.length) : at_ (K.set i u) j = if i = j then u else at_ K j := by
  unfold at_
  simp only [List.getD_eq_getElem?_getD]
  by_cases e : i = j
  · subst e; rw [if_pos rfl, List.getElem?_set_self hi]; rfl
  · rw [if_neg e, List.getElem?_set_ne e]
/-- N is at least K everywhere, and what is more was offered by a set of K's -/
structure Grew (a b : List Int) (q x : Nat) (K N : List Int) : Prop where
  len : N.length = K.length
  ge : ∀ s, at_ K s ≤ at_ N s
  met : ∀ w, at_ N w = at_ K w ∨ ∃ s y, s < K.length ∧ y < q ∧ 0 ≤ at_ K s ∧ s.testBit y = false ∧ w = s ||| 2 ^ y ∧ at_ N w = at_ K s + cmn a b x y
theorem Grew.refl (a b : List Int) (q x : Nat) (K : List Int) : Grew a b q x K K := ⟨rfl, fun _ => Int.le_refl _, fun _ => .inl rfl⟩
theorem getD_at {K : List Int} {s : Nat} (h : s < K.length) (d : Int) : K.getD s d = at_ K s := by
  unfold at_; simp [List.getD_eq_getElem?_getD, List.getElem?_eq_getElem h]

theorem mvY_grew {a b : List Int} {q x s : Nat} {K N : List Int} (hM : K.length = 2 ^ q) (hs : s < K.length) (h0 : 0 ≤ at_ K s) (h : Grew a b q x K N) {y : Nat} (hy : y < q) :
    Grew a b q x K (mvY a b x s (at_ K s) N y) ∧ (∀ j, at_ N j ≤ at_ (mvY a b x s (at_ K s) N y) j) ∧ (s.testBit y = false → at_ K s + cmn a b x y ≤ at_ (mvY a b x s (at_ K s) N y) (s ||| 2 ^ y)) := by
  by_cases hb : s.testBit y = false
  · have hi : s ||| 2 ^ y < N.length := by rw [h.len, hM]; rw [hM] at hs; exact Nat.or_lt_two_pow hs (Nat.pow_lt_pow_right (by omega) hy)
    have e : mvY a b x s (at_ K s) N y = N.set (s ||| 2 ^ y) (max (at_ N (s ||| 2 ^ y)) (at_ K s + cmn a b x y)) := by
      unfold mvY; rw [if_pos (bit_clear.2 hb), getD_at hi]
    rw [e]
    have hmono : ∀ j, at_ N j ≤ at_ (N.set (s ||| 2 ^ y) (max (at_ N (s ||| 2 ^ y)) (at_ K s + cmn a b x y))) j := by
      intro j; rw [at_set _ _ _ _ hi]; split
      · rename_i e; rw [← e]; omega
      · exact Int.le_refl _
    refine ⟨⟨by rw [List.length_set, h.len], fun j => Int.le_trans (h.ge j) (hmono j), fun w => ?_⟩, hmono, fun _ => ?_⟩
    · rw [at_set _ _ _ _ hi]
      split
      · rename_i e; subst e
        rcases Int.le_total (at_ N (s ||| 2 ^ y)) (at_ K s + cmn a b x y) with hle | hle
        · exact .inr ⟨s, y, hs, hy, h0, hb, rfl, by rw [Int.max_eq_right hle]⟩
        · rw [Int.max_eq_left hle]; exact h.met _
      · exact h.met w
    · rw [at_set _ _ _ _ hi, if_pos rfl]; omega
  · have e : mvY a b x s (at_ K s) N y = N := by unfold mvY; rw [if_neg (fun h => hb (bit_clear.1 h))]
    rw [e]
    exact ⟨h, fun _ => Int.le_refl _, fun h => absurd h hb⟩

theorem mvYs_grew {a b : List Int} {q x s : Nat} {K : List Int} (hM : K.length = 2 ^ q) (hs : s < K.length) (h0 : 0 ≤ at_ K s) (k : Nat) (hk : k ≤ q) (N : List Int) (h : Grew a b q x K N) :
    Grew a b q x K ((List.range k).foldl (mvY a b x s (at_ K s)) N) ∧ (∀ j, at_ N j ≤ at_ ((List.range k).foldl (mvY a b x s (at_ K s)) N) j) ∧
      (∀ y, y < k → s.testBit y = false → at_ K s + cmn a b x y ≤ at_ ((List.range k).foldl (mvY a b x s (at_ K s)) N) (s ||| 2 ^ y)) := by
  induction k with
  | zero => exact ⟨h, fun _ => Int.le_refl _, fun y hy => absurd hy (by omega)⟩
  | succ k ih =>
    obtain ⟨g1, g2, g3⟩ := ih (by omega)
    obtain ⟨k1, k2, k3⟩ := mvY_grew hM hs h0 g1 (y := k) (by omega)
    rw [foldl_range_succ]
    refine ⟨k1, fun j => Int.le_trans (g2 j) (k2 j), fun y hy hb => ?_⟩
    by_cases e : y = k
    · subst e; exact k3 hb
    · exact Int.le_trans (g3 y (by omega) hb) (k2 _)

theorem mvSets_grew {a b : List Int} {q x : Nat} {K : List Int} (hM : K.length = 2 ^ q) (k : Nat) (hk : k ≤ K.length) :
    Grew a b q x K ((List.range k).foldl (mvSet a b q x K) K) ∧
      (∀ s y, s < k → y < q → 0 ≤ at_ K s → s.testBit y = false → at_ K s + cmn a b x y ≤ at_ ((List.range k).foldl (mvSet a b q x K) K) (s ||| 2 ^ y)) := by
  induction k with
  | zero => exact ⟨Grew.refl .., fun s y h => absurd h (by omega)⟩
  | succ k ih =>
    obtain ⟨g1, g2⟩ := ih (by omega)
    rw [foldl_range_succ]
    generalize (List.range k).foldl (mvSet a b q x K) K = N at g1 g2
    by_cases h0 : 0 ≤ at_ K k
    · have e : mvSet a b q x K N k = (List.range q).foldl (mvY a b x k (at_ K k)) N := by
        unfold mvSet; rw [getD_at (by omega), if_neg (by omega)]
      rw [e]
      obtain ⟨k1, k2, k3⟩ := mvYs_grew hM (show k < K.length by omega) h0 q (Nat.le_refl _) N g1
      refine ⟨k1, fun s y hs hy hs0 hb => ?_⟩
      by_cases e : s = k
      · subst e; exact k3 y hy hb
      · exact Int.le_trans (g2 s y (by omega) hy hs0 hb) (k2 _)
    · have e : mvSet a b q x K N k = N := by unfold mvSet; rw [getD_at (by omega), if_pos (by omega)]
      rw [e]
      refine ⟨g1, fun s y hs hy hs0 hb => ?_⟩
      by_cases e : s = k
      · subst e; exact absurd hs0 h0
      · exact g2 s y (by omega) hy hs0 hb

/-- what may still come to: v at most, and v is reached -/
structure Goal (a b : List Int) (nb : Int) (q f : Nat) (K : List Int) (v : Int) : Prop where
  len : K.length = 2 ^ q
  le : ∀ s, s < K.length → 0 ≤ at_ K s → at_ K s + stay a b nb f (bitsOf q s) ≤ v
  met : ∃ s, s < K.length ∧ 0 ≤ at_ K s ∧ at_ K s + stay a b nb f (bitsOf q s) = v

theorem Goal.step {a b : List Int} {nb : Nat} {q f : Nat} {K : List Int} {v : Int} (hf : f < nb) (h : Goal a b nb q (f + 1) K v) : Goal a b nb q f (mvX a b q (2 ^ q) K (nb - (f + 1))) v := by
  have hx : ((nb : Int) - ((f + 1 : Nat) : Int)) = ((nb - (f + 1) : Nat) : Int) := by omega
  unfold mvX
  rw [← h.len]
  obtain ⟨g, gc⟩ := mvSets_grew (a := a) (b := b) (x := nb - (f + 1)) h.len K.length (Nat.le_refl _)
  generalize (List.range K.length).foldl (mvSet a b q (nb - (f + 1)) K) K = N at g gc
  have hle : ∀ s, s < N.length → 0 ≤ at_ N s → at_ N s + stay a b nb f (bitsOf q s) ≤ v := by
    intro w hw h0
    rcases g.met w with e | ⟨s, y, hs, hy, hs0, hb, rfl, e⟩
    · have h1 := h.le w (by rw [← g.len]; exact hw) (by omega)
      have h2 := stay_skip a b nb f (bitsOf q w)
      omega
    · have h1 := h.le s hs hs0
      rw [e, bitsOf_or hy]
      rcases Int.lt_or_le 0 (cmn a b ((nb - (f + 1) : Nat) : Int) y) with hc | hc
      · have h2 := stay_take a b nb f (bitsOf q s) y (by rw [hx]; exact hc) (by rw [List.getD_eq_getElem?_getD, bitsOf_get hy, hb]; rfl)
        rw [hx] at h2
        omega
      · have h2 := stay_skip a b nb f (bitsOf q s)
        have h3 := stay_less a b nb f _ _ (Less.of_set (bitsOf q s) y)
        omega
  refine ⟨by rw [g.len, h.len], hle, ?_⟩
  obtain ⟨s, hs, h0, e⟩ := h.met
  rcases stay_met a b nb f (bitsOf q s) with e2 | ⟨y, hc, ht, e2⟩
  · refine ⟨s, by rw [g.len]; exact hs, Int.le_trans h0 (g.ge s), ?_⟩
    have h1 := hle s (by rw [g.len]; exact hs) (Int.le_trans h0 (g.ge s))
    have h2 := g.ge s
    omega
  · have hy : y < q := by have := getD_lt ht; rwa [bitsOf_length] at this
    have hb : s.testBit y = false := by rw [List.getD_eq_getElem?_getD, bitsOf_get hy] at ht; exact ht
    rw [hx] at hc e2
    have h1 := gc s y hs hy h0 hb
    have hi : s ||| 2 ^ y < N.length := by rw [g.len, h.len]; rw [h.len] at hs; exact Nat.or_lt_two_pow hs (Nat.pow_lt_pow_right (by omega) hy)
    have h2 := hle (s ||| 2 ^ y) hi (by omega)
    refine ⟨s ||| 2 ^ y, hi, by omega, ?_⟩
    rw [bitsOf_or hy] at h2 ⊢
    omega

theorem Goal.start (a b : List Int) (nb : Int) (q : Nat) : Goal a b nb q nb.toNat ((fillM (2 ^ q) (2 ^ q)).set 0 0) (stay a b nb nb.toNat (List.replicate q false)) := by
  have hp : 0 < 2 ^ q := Nat.two_pow_pos q
  have hl : (fillM (2 ^ q) (2 ^ q)).length = 2 ^ q := by simp [fillM]
  have hat : ∀ s, at_ ((fillM (2 ^ q) (2 ^ q)).set 0 0) s = if 0 = s then 0 else -1 := by
    intro s
    rw [at_set _ _ _ _ (by omega)]
    split
    · rfl
    · unfold at_ fillM
      rw [List.getD_eq_getElem?_getD]
      simp only [Nat.sub_self, List.replicate_zero, List.append_nil, List.getElem?_replicate]
      split <;> rfl
  refine ⟨by simp [hl], fun s hs h0 => ?_, 0, by simp [hl, hp], by rw [hat]; simp, by rw [hat, bitsOf_zero]; simp⟩
  rw [hat] at h0 ⊢
  split at h0
  · rename_i e; subst e; rw [bitsOf_zero]; simp
  · omega

theorem mx_ge (a : Int) (l : List Int) : a ≤ mx a l ∧ ∀ v ∈ l, v ≤ mx a l := by
  induction l generalizing a with
  | nil => exact ⟨Int.le_refl _, by simp⟩
  | cons x l ih =>
    obtain ⟨h1, h2⟩ := ih (max a x)
    refine ⟨Int.le_trans (by omega) h1, fun v hv => ?_⟩
    rcases List.mem_cons.1 hv with rfl | hv
    · exact Int.le_trans (by omega) h1
    · exact h2 v hv
theorem Goal.end_ {a b : List Int} {nb : Int} {q : Nat} {K : List Int} {v : Int} (h : Goal a b nb q 0 K v) : mxL K = v := by
  have hp : 0 < 2 ^ q := Nat.two_pow_pos q
  cases K with
  | nil => have := h.len; simp at this; omega
  | cons x l =>
    have hge := mx_ge x l
    have hall : ∀ s, s < (x :: l).length → at_ (x :: l) s ≤ mx x l := by
      intro s hs
      have hm : at_ (x :: l) s ∈ x :: l := by
        unfold at_; rw [List.getD_eq_getElem?_getD, List.getElem?_eq_getElem hs]; exact List.getElem_mem hs
      rcases List.mem_cons.1 hm with e | e
      · rw [e]; exact hge.1
      · exact hge.2 _ e
    obtain ⟨s, hs, h0, e⟩ := h.met
    simp only [stay] at e
    have h1 := hall s hs
    have hmem : mx x l ∈ x :: l := by
      rcases mx_mem_or x l with e | e
      · rw [e]; exact List.mem_cons_self ..
      · exact List.mem_cons_of_mem _ e
    obtain ⟨j, hj, ej⟩ := List.getElem_of_mem hmem
    have haj : at_ (x :: l) j = mx x l := by
      unfold at_; rw [List.getD_eq_getElem?_getD, List.getElem?_eq_getElem hj]; exact ej
    have h2 := h.le j hj (by omega)
    simp only [stay] at h2
    show mx x l = v
    omega

theorem Goal.run (a b : List Int) (nb q : Nat) (x : Nat) (hx : x ≤ nb) : Goal a b nb q (nb - x) (mvTo a b q (2 ^ q) x) (stay a b nb nb (List.replicate q false)) := by
  induction x with
  | zero => exact Goal.start a b nb q
  | succ x ih =>
    have h := ih (by omega)
    rw [show nb - x = (nb - (x + 1)) + 1 by omega] at h
    have h2 := h.step (by omega)
    rw [show nb - (nb - (x + 1) + 1) = x by omega] at h2
    rw [mvTo_succ]
    exact h2

theorem moves_eq (l r : List Int) : movesP l r = movesR l r := by
  unfold movesP movesR
  by_cases h0 : chk2 l r = 0
  · rw [if_neg (by omega), if_neg (by omega)]
    obtain ⟨k1, k2, _⟩ := chk2_ok h0
    have b1 := blk_le9 k1
    obtain ⟨p, hp⟩ : ∃ p : Nat, blk l = p := ⟨(blk l).toNat, by omega⟩
    rw [hp, Int.toNat_natCast]
    have h := Goal.run l r p (blk r).toNat p (Nat.le_refl _)
    rw [Nat.sub_self] at h
    rw [h.end_]
  · rw [if_pos h0, if_pos h0]
end Go.Proofs.YtooepkpgffpcjaaDoor
