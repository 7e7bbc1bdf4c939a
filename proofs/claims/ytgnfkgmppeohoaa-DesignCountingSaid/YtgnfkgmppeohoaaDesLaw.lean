/- Plain law: the ways of a partition: with kinds that are taken, with kinds in another order, and one packet more. -/
import Derived.Test.YtgnfkgmppeohoaaDes
namespace Go.Proofs.Ytgnfkgmppeohoaa
open Go.RowKit

/-! ### Kinds that are taken -/
def chanceR (c : List Int) : List Int → List Bool → Int
  | [], _ => 1
  | s :: ss, t => (List.range c.length).foldl (fun n k => if (t.getD k false || decide (c.getD k 0 < s)) = true then n else n + fallN (c.getD k 0) s.toNat * chanceR c ss (t.set k true)) 0
def chStepR (c : List Int) (s : Int) (ss : List Int) (t : List Bool) (n : Int) (k : Nat) : Int := if (t.getD k false || decide (c.getD k 0 < s)) = true then n else n + fallN (c.getD k 0) s.toNat * chanceR c ss (t.set k true)
def chanceRTo (c : List Int) (s : Int) (ss : List Int) (t : List Bool) (k : Nat) : Int := (List.range k).foldl (chStepR c s ss t) 0
theorem chanceRTo_succ (c : List Int) (s : Int) (ss : List Int) (t : List Bool) (k : Nat) : chanceRTo c s ss t (k + 1) = chStepR c s ss t (chanceRTo c s ss t k) k := foldl_range_succ _ _ _
theorem chanceR_cons (c : List Int) (s : Int) (ss : List Int) (t : List Bool) : chanceR c (s :: ss) t = chanceRTo c s ss t c.length := rfl
def maskL (c : List Int) (t : List Bool) : List Int := (List.range c.length).map fun k => if t.getD k false = true then 0 else c.getD k 0
theorem maskL_get (c : List Int) (t : List Bool) {k : Nat} (h : k < c.length) : (maskL c t).getD k 0 = if t.getD k false = true then 0 else c.getD k 0 := by
  refine getD_of_get ?_
  unfold maskL
  rw [List.getElem?_map, List.getElem?_range h]; rfl
theorem maskL_len (c : List Int) (t : List Bool) : (maskL c t).length = c.length := by simp [maskL]
theorem getDB_set {t : List Bool} {k j : Nat} (h : k < t.length) : (t.set k true).getD j false = if j = k then true else t.getD j false := by
  simp only [List.getD_eq_getElem?_getD, List.getElem?_set]
  by_cases e : k = j
  · subst e; simp [h]
  · rw [if_neg e, if_neg (by omega)]
theorem maskL_set {c : List Int} {t : List Bool} {k : Nat} (h : k < c.length) (ht : t.length = c.length) : (maskL c t).set k 0 = maskL c (t.set k true) := by
  apply List.ext_getElem?
  intro j
  rw [List.getElem?_set, maskL_len]
  unfold maskL
  rw [List.getElem?_map, List.getElem?_map]
  by_cases hj : j < c.length
  · rw [List.getElem?_range hj]
    simp only [Option.map_some]
    rw [getDB_set (by omega)]
    by_cases e : k = j
    · subst e; simp [h]
    · rw [if_neg e, if_neg (show ¬j = k from fun h => e h.symm)]
  · rw [List.getElem?_eq_none (by simp; omega)]
    by_cases e : k = j
    · omega
    · rw [if_neg e]; rfl
theorem chance_taken (c : List Int) (z : Nat) : ∀ (ss : List Int) (t : List Bool), (∀ s ∈ ss, 1 ≤ s) → t.length = c.length → chanceR c ss t = chanceP ss (maskL c t ++ List.replicate z 0) := by
  intro ss
  induction ss with
  | nil => intro t _ _; rfl
  | cons s ss ih =>
    intro t hs ht
    have hs1 := hs s (by simp)
    rw [chanceR_cons, chanceP_cons]
    have h1 : ∀ k, k ≤ c.length → chanceRTo c s ss t k = chanceTo s ss (maskL c t ++ List.replicate z 0) k := by
      intro k
      induction k with
      | zero => intro _; rfl
      | succ k ihk =>
        intro hk
        rw [chanceRTo_succ, chanceTo_succ, ihk (by omega)]
        have hg : (maskL c t ++ List.replicate z 0).getD k 0 = if t.getD k false = true then 0 else c.getD k 0 := by
          rw [← maskL_get c t (by omega)]
          simp only [List.getD_eq_getElem?_getD]
          rw [List.getElem?_append_left (by rw [maskL_len]; omega)]
        have hst : (maskL c t ++ List.replicate z 0).set k 0 = maskL c (t.set k true) ++ List.replicate z 0 := by
          rw [← maskL_set (by omega) ht, List.set_append_left _ _ (by rw [maskL_len]; omega)]
        unfold chStepR chStep
        rw [hg, hst, ← ih (t.set k true) (fun x hx => hs x (by simp [hx])) (by rw [List.length_set]; exact ht)]
        cases t.getD k false
        · by_cases hc : c.getD k 0 < s
          · rw [if_pos (show (false || decide (c.getD k 0 < s)) = true by rw [Bool.false_or]; exact decide_eq_true hc), if_neg (show ¬s ≤ (if false = true then 0 else c.getD k 0) by rw [if_neg (by decide)]; omega)]
          · rw [if_neg (show ¬(false || decide (c.getD k 0 < s)) = true by rw [Bool.false_or, decide_eq_true_eq]; exact hc), if_pos (show s ≤ (if false = true then 0 else c.getD k 0) by rw [if_neg (by decide)]; omega), if_neg (by decide)]
        · rw [if_pos (by simp), if_neg (show ¬s ≤ (if true = true then 0 else c.getD k 0) by rw [if_pos rfl]; omega)]
    have h2 : ∀ m, m ≤ z → chanceTo s ss (maskL c t ++ List.replicate z 0) (c.length + m) = chanceTo s ss (maskL c t ++ List.replicate z 0) c.length := by
      intro m
      induction m with
      | zero => intro _; rfl
      | succ m ihm =>
        intro hm
        rw [show c.length + (m + 1) = c.length + m + 1 by omega, chanceTo_succ, ihm (by omega)]
        have hg : (maskL c t ++ List.replicate z 0).getD (c.length + m) 0 = 0 := by
          refine getD_of_get ?_
          rw [List.getElem?_append_right (by rw [maskL_len]; omega), maskL_len, List.getElem?_replicate, if_pos (by omega)]
        unfold chStep
        rw [hg, if_neg (by omega)]
    rw [h1 _ (Nat.le_refl _), List.length_append, maskL_len, List.length_replicate, h2 z (Nat.le_refl _)]
theorem maskL_none (c : List Int) : maskL c (List.replicate c.length false) = c := by
  apply List.ext_getElem?
  intro j
  unfold maskL
  rw [List.getElem?_map]
  by_cases hj : j < c.length
  · rw [List.getElem?_range hj]
    simp only [Option.map_some]
    have : (List.replicate c.length false).getD j false = false := by rw [List.getD_eq_getElem?_getD, List.getElem?_replicate, if_pos hj]; rfl
    rw [this, if_neg (by simp), get_getD hj]
  · rw [List.getElem?_eq_none (by simp; omega), List.getElem?_eq_none (by omega)]; rfl
theorem chance_ref {c ss : List Int} (hs : ∀ s ∈ ss, 1 ≤ s) : chanceR c ss (List.replicate c.length false) = chanceP ss (pad6 c) := by
  rw [chance_taken c (6 - c.length) ss _ hs (by simp), maskL_none]; rfl

/-! ### Kinds in another order -/
def sumAt (h : Int → List Int → Int) : List Int → Int
  | [] => 0
  | a :: l => h a (0 :: l) + sumAt (fun x m => h x (a :: m)) l
theorem sumAt_range (l : List Int) : ∀ h : Int → List Int → Int, (List.range l.length).foldl (fun n k => n + h (l.getD k 0) (l.set k 0)) 0 = sumAt h l := by
  have shift : ∀ (f : Nat → Int) (m : Nat) (a : Int), (List.range m).foldl (fun n k => n + f k) a = a + (List.range m).foldl (fun n k => n + f k) 0 := by
    intro f m
    induction m with
    | zero => intro a; simp
    | succ m ih => intro a; rw [List.range_succ, List.foldl_append, List.foldl_append, ih a]; simp; omega
  have split : ∀ (f : Nat → Int) (m : Nat), (List.range (m + 1)).foldl (fun n k => n + f k) 0 = f 0 + (List.range m).foldl (fun n k => n + f (k + 1)) 0 := by
    intro f m
    induction m with
    | zero => simp
    | succ m ih => rw [List.range_succ, List.foldl_append, ih, List.range_succ (n := m), List.foldl_append]; simp; omega
  induction l with
  | nil => intro h; rfl
  | cons a l ih =>
    intro h
    rw [List.length_cons, split (fun k => h ((a :: l).getD k 0) ((a :: l).set k 0)) l.length]
    simp only [sumAt]
    rw [← ih (fun x m => h x (a :: m))]
    rfl
def PermInv (h : Int → List Int → Int) : Prop := ∀ x m m', m.Perm m' → h x m = h x m'
theorem sumAt_perm {l l' : List Int} (hp : l.Perm l') : ∀ h, PermInv h → sumAt h l = sumAt h l' := by
  induction hp with
  | nil => intro h _; rfl
  | cons a _ ih =>
    rename_i l1 l2 hp
    intro h hh
    simp only [sumAt]
    rw [hh a (0 :: l1) (0 :: l2) (hp.cons 0), ih _ (fun x m m' hm => hh x _ _ (hm.cons a))]
  | swap a b l =>
    intro h hh
    simp only [sumAt]
    have e1 : h b (0 :: a :: l) = h b (a :: 0 :: l) := hh b _ _ (List.Perm.swap a 0 l)
    have e2 : h a (b :: 0 :: l) = h a (0 :: b :: l) := hh a _ _ (List.Perm.swap 0 b l)
    have e3 : (fun x m => h x (b :: a :: m)) = (fun x m => h x (a :: b :: m)) := by
      funext x m; exact hh x _ _ (List.Perm.swap a b m)
    rw [e1, e2, e3]; omega
  | trans _ _ ih1 ih2 => intro h hh; rw [ih1 h hh, ih2 h hh]
theorem chanceP_sumAt (s : Int) (ss l : List Int) : chanceP (s :: ss) l = sumAt (fun x m => if s ≤ x then fallN x s.toNat * chanceP ss m else 0) l := by
  rw [← sumAt_range, chanceP_cons]
  unfold chanceTo
  congr 1
  funext n k
  unfold chStep
  split <;> omega
theorem chanceP_perm : ∀ (ss : List Int) {l l' : List Int}, l.Perm l' → chanceP ss l = chanceP ss l' := by
  intro ss
  induction ss with
  | nil => intro l l' _; rfl
  | cons s ss ih =>
    intro l l' h
    rw [chanceP_sumAt, chanceP_sumAt]
    refine sumAt_perm h _ fun x m m' hm => ?_
    show (if s ≤ x then fallN x s.toNat * chanceP ss m else 0) = if s ≤ x then fallN x s.toNat * chanceP ss m' else 0
    rw [ih hm]
theorem waysOf_perm {c c' : List Int} (h : c.Perm c') (p : List Int) : waysOf c p = waysOf c' p := by
  unfold waysOf pad6
  rw [h.length_eq]
  exact chanceP_perm _ (h.append_right _)
theorem sumI_perm {c c' : List Int} (h : c.Perm c') : sumI c = sumI c' := by
  have key : ∀ (a : Int), c.foldl (· + ·) a = c'.foldl (· + ·) a := by
    induction h with
    | nil => intro a; rfl
    | cons x _ ih => intro a; exact ih _
    | swap x y l => intro a; simp only [List.foldl_cons]; rw [show a + y + x = a + x + y by omega]
    | trans _ _ ih1 ih2 => intro a; rw [ih1, ih2]
  exact key 0
theorem okCounts_perm {c c' : List Int} (h : c.Perm c') : okCounts c = okCounts c' := by
  unfold okCounts
  exact h.all_eq
theorem chkS_perm {c c' : List Int} (h : c.Perm c') (d : Int) : chkS c d = chkS c' d := by
  unfold chkS; rw [h.length_eq, okCounts_perm h, sumI_perm h]
theorem shapesE_perm {c c' : List Int} (h : c.Perm c') (d : Int) : shapesE c d = shapesE c' d := by
  unfold shapesE shapedC shapesTo
  rw [chkS_perm h]
  simp only [fun p => waysOf_perm h p]
theorem bestTo_perm {c c' : List Int} (h : c.Perm c') (n k : Nat) : bestTo c n k = bestTo c' n k := by
  unfold bestTo
  congr 1
  funext s r
  unfold bestStep
  rw [waysOf_perm h]

/-! ### The best -/
structure BestOk (c : List Int) (n k : Nat) (s : List Int × Int) : Prop where
  most : ∀ r, r < k → waysOf c (pr n r) ≤ s.2
  pos : 0 ≤ s.2
  at_ : s.2 = 0 ∧ s.1 = [] ∨ 0 < s.2 ∧ ∃ r, r < k ∧ s = (pr n r, waysOf c (pr n r)) ∧ ∀ j, j < r → waysOf c (pr n j) < s.2
theorem best_ok (c : List Int) (n k : Nat) : BestOk c n k (bestTo c n k) := by
  induction k with
  | zero => exact ⟨fun r hr => by omega, Int.le_refl _, .inl ⟨rfl, rfl⟩⟩
  | succ k ih =>
    rw [bestTo_succ]
    unfold bestStep
    by_cases h : (bestTo c n k).2 < waysOf c (pr n k)
    · rw [if_pos h]
      have hp := ih.pos
      refine ⟨fun r hr => ?_, by simp only; omega, .inr ⟨by simp only; omega, k, by omega, rfl, fun j hj => ?_⟩⟩
      · simp only
        by_cases e : r = k
        · subst e; omega
        · have := ih.most r (by omega); omega
      · have := ih.most j hj; simp only; omega
    · rw [if_neg h]
      refine ⟨fun r hr => ?_, ih.pos, ?_⟩
      · by_cases e : r = k
        · subst e; omega
        · exact ih.most r (by omega)
      · rcases ih.at_ with h1 | ⟨h1, r, h2, h3, h4⟩
        · exact .inl h1
        · exact .inr ⟨h1, r, by omega, h3, h4⟩

/-! ### One packet more -/
theorem fall_zero {f : Int} (h0 : 0 ≤ f) (k : Nat) (hk : f < k) : fallN f k = 0 := by
  induction k with
  | zero => omega
  | succ k ih =>
    show fallN f k * (f - k) = 0
    by_cases e : f = k
    · rw [e, Int.sub_self, Int.mul_zero]
    · rw [ih (by omega), Int.zero_mul]
end Go.Proofs.Ytgnfkgmppeohoaa
