/- Plain law: stocks, and in how many ways a partition comes. -/
import Derived.Test.YtgnfkgmppeohoaaAllLaw
namespace Go.Proofs.Ytgnfkgmppeohoaa
open Go.RowKit

def sumI (l : List Int) : Int := l.foldl (· + ·) 0
@[simp] theorem sumI_nil : sumI [] = 0 := rfl
theorem sumI_snoc (l : List Int) (v : Int) : sumI (l ++ [v]) = sumI l + v := by unfold sumI; rw [List.foldl_append]; rfl
theorem sumI_bd {B : Int} (l : List Int) (h : ∀ x ∈ l, 0 ≤ x ∧ x ≤ B) : 0 ≤ sumI l ∧ sumI l ≤ l.length * B := by
  have key : ∀ (l : List Int) (a : Int), (∀ x ∈ l, 0 ≤ x ∧ x ≤ B) → a ≤ l.foldl (· + ·) a ∧ l.foldl (· + ·) a ≤ a + l.length * B := by
    intro l
    induction l with
    | nil => intro a _; simp
    | cons x l ih =>
      intro a h
      have hx := h x (by simp)
      have := ih (a + x) (fun y hy => h y (by simp [hy]))
      simp only [List.foldl_cons, List.length_cons]
      have e : ((l.length + 1 : Nat) : Int) * B = l.length * B + B := by rw [Int.natCast_add, Int.add_mul]; simp
      omega
  have := key l 0 h
  unfold sumI; omega
theorem sumI_take_bd {B : Int} {l : List Int} (h : ∀ x ∈ l, 0 ≤ x ∧ x ≤ B) (k : Nat) : 0 ≤ sumI (l.take k) ∧ sumI (l.take k) ≤ (l.take k).length * B := sumI_bd _ fun x hx => h x (List.mem_of_mem_take hx)

/-- the error of a stock -/
def okCounts (c : List Int) : Bool := c.all fun x => decide (1 ≤ x) && decide (x ≤ 9)
def chkS (c : List Int) (d : Int) : Int :=
  if c.length = 0 then 6 else if 6 < c.length then 8 else if okCounts c = false then 2 else if 1 ≤ d ∧ d ≤ min 9 (sumI c) then 0 else 2
theorem okCounts_mem {c : List Int} (h : okCounts c = true) : ∀ x ∈ c, 1 ≤ x ∧ x ≤ 9 := by
  unfold okCounts at h
  rw [List.all_eq_true] at h
  intro x hx
  simpa using h x hx
theorem okCounts_sum {c : List Int} (h : okCounts c = true) (h6 : c.length ≤ 6) : 0 ≤ sumI c ∧ sumI c ≤ 54 := by
  have := sumI_bd (B := 9) c (fun x hx => by have := okCounts_mem h x hx; omega)
  omega
theorem chkS_ok {c : List Int} {d : Int} (h : chkS c d = 0) : 1 ≤ c.length ∧ c.length ≤ 6 ∧ okCounts c = true ∧ 1 ≤ d ∧ d ≤ 9 ∧ d ≤ sumI c ∧ sumI c ≤ 54 := by
  unfold chkS at h
  by_cases h1 : c.length = 0
  · rw [if_pos h1] at h; omega
  · rw [if_neg h1] at h
    by_cases h2 : 6 < c.length
    · rw [if_pos h2] at h; omega
    · rw [if_neg h2] at h
      cases h3 : okCounts c with
      | false => rw [if_pos h3] at h; omega
      | true =>
        rw [if_neg (by rw [h3]; simp)] at h
        have := okCounts_sum h3 (by omega)
        by_cases h4 : 1 ≤ d ∧ d ≤ min 9 (sumI c)
        · exact ⟨by omega, by omega, rfl, by omega, by omega, by omega, by omega⟩
        · rw [if_neg h4] at h; omega

/-! ### Choices, one after the other -/
def fallN (f : Int) : Nat → Int
  | 0 => 1
  | k + 1 => fallN f k * (f - k)
theorem fallN_bd {f B : Int} (hf : f ≤ B) (k : Nat) (hk : (k : Int) ≤ f) : 1 ≤ fallN f k ∧ fallN f k ≤ B ^ k := by
  induction k with
  | zero => simp [fallN]
  | succ k ih =>
    have h := ih (by omega)
    have h1 : (1 : Int) ≤ f - k := by omega
    have h2 : f - k ≤ B := by omega
    constructor
    · calc (1 : Int) = 1 * 1 := rfl
        _ ≤ fallN f k * (f - k) := Int.mul_le_mul h.1 h1 (by omega) (by omega)
    · show fallN f k * (f - k) ≤ B ^ (k + 1)
      rw [Int.pow_succ]
      exact Int.mul_le_mul h.2 h2 (by omega) (by omega)
theorem fallN_54 {f : Int} (hf : f ≤ 54) (k : Nat) (hk : (k : Int) ≤ f) (h9 : k ≤ 9) : 1 ≤ fallN f k ∧ fallN f k ≤ 3904305912313344 := by
  have h := fallN_bd hf k hk
  refine ⟨h.1, Int.le_trans h.2 ?_⟩
  have : (54 : Int) ^ k ≤ 54 ^ 9 := by
    have e : ((54 ^ k : Nat) : Int) ≤ ((54 ^ 9 : Nat) : Int) := Int.ofNat_le.2 (Nat.pow_le_pow_right (by omega) h9)
    simpa using e
  refine Int.le_trans this ?_
  decide

def sumN (l : List Int) : Nat := (l.map Int.toNat).foldr (· + ·) 0
theorem sumN_cons (a : Int) (l : List Int) : sumN (a :: l) = a.toNat + sumN l := rfl
theorem sumN_nil : sumN [] = 0 := rfl

/-- in how many ways blocks of these sizes come, each of a kind of its own: what there is of each kind -/
def chanceP : List Int → List Int → Int
  | [], _ => 1
  | s :: ss, l => (List.range l.length).foldl (fun n k => if s ≤ l.getD k 0 then n + fallN (l.getD k 0) s.toNat * chanceP ss (l.set k 0) else n) 0
def chStep (s : Int) (ss l : List Int) (n : Int) (k : Nat) : Int := if s ≤ l.getD k 0 then n + fallN (l.getD k 0) s.toNat * chanceP ss (l.set k 0) else n
def chanceTo (s : Int) (ss l : List Int) (k : Nat) : Int := (List.range k).foldl (chStep s ss l) 0
theorem chanceTo_succ (s : Int) (ss l : List Int) (k : Nat) : chanceTo s ss l (k + 1) = chStep s ss l (chanceTo s ss l k) k := foldl_range_succ _ _ _
theorem chanceP_cons (s : Int) (ss l : List Int) : chanceP (s :: ss) l = chanceTo s ss l l.length := rfl

def chBd (ss : List Int) : Nat := 6 ^ ss.length * 9 ^ sumN ss
theorem chBd_cons (s : Int) (ss : List Int) : chBd (s :: ss) = 6 * (9 ^ s.toNat * chBd ss) := by
  unfold chBd
  rw [sumN_cons, List.length_cons, Nat.pow_succ, Nat.pow_add]
  rw [Nat.mul_comm (6 ^ ss.length) 6, Nat.mul_assoc, Nat.mul_left_comm (6 ^ ss.length)]
theorem chBd_9 {ss : List Int} (h1 : ss.length ≤ 9) (h2 : sumN ss ≤ 9) : chBd ss ≤ 3904305912313344 := by
  unfold chBd
  calc 6 ^ ss.length * 9 ^ sumN ss ≤ 6 ^ 9 * 9 ^ 9 := Nat.mul_le_mul (Nat.pow_le_pow_right (by omega) h1) (Nat.pow_le_pow_right (by omega) h2)
    _ ≤ _ := by decide
/-- what there is of each kind: 0 to 9 -/
def Kinds (l : List Int) : Prop := l.length ≤ 6 ∧ ∀ x ∈ l, 0 ≤ x ∧ x ≤ 9
theorem Kinds.set {l : List Int} (h : Kinds l) (k : Nat) : Kinds (l.set k 0) := by
  refine ⟨by rw [List.length_set]; exact h.1, fun x hx => ?_⟩
  rcases List.mem_or_eq_of_mem_set hx with hx | rfl
  · exact h.2 x hx
  · omega
theorem Kinds.at_ {l : List Int} (h : Kinds l) (k : Nat) : 0 ≤ l.getD k 0 ∧ l.getD k 0 ≤ 9 := by
  rw [List.getD_eq_getElem?_getD]
  cases e : l[k]? with
  | none => simp
  | some v => exact h.2 v (List.mem_of_getElem? e)
theorem chance_term {s v : Int} (hs : 0 ≤ s) (hv : s ≤ v) (h9 : v ≤ 9) {x : Int} {B : Nat} (hx : 0 ≤ x ∧ x ≤ B) : 0 ≤ fallN v s.toNat * x ∧ fallN v s.toNat * x ≤ ((9 ^ s.toNat * B : Nat) : Int) := by
  have h := fallN_bd h9 s.toNat (by omega)
  refine ⟨Int.mul_nonneg (by omega) hx.1, ?_⟩
  rw [Int.natCast_mul]
  refine Int.mul_le_mul ?_ hx.2 hx.1 (Int.natCast_nonneg _)
  have e : ((9 ^ s.toNat : Nat) : Int) = (9 : Int) ^ s.toNat := by simp
  rw [e]; exact h.2
theorem chanceP_bd : ∀ (ss l : List Int), (∀ s ∈ ss, 0 ≤ s) → Kinds l → 0 ≤ chanceP ss l ∧ chanceP ss l ≤ (chBd ss : Int) := by
  intro ss
  induction ss with
  | nil => intro l _ _; exact (show (0 : Int) ≤ 1 ∧ (1 : Int) ≤ ((chBd [] : Nat) : Int) from ⟨by decide, by decide⟩)
  | cons s ss ih =>
    intro l hs hl
    rw [chanceP_cons]
    have key : ∀ k : Nat, 0 ≤ chanceTo s ss l k ∧ chanceTo s ss l k ≤ ((k * (9 ^ s.toNat * chBd ss) : Nat) : Int) := by
      intro k
      induction k with
      | zero => exact ⟨Int.le_refl _, by simp [chanceTo]⟩
      | succ k ihk =>
        rw [chanceTo_succ]
        have e : (k + 1) * (9 ^ s.toNat * chBd ss) = k * (9 ^ s.toNat * chBd ss) + 9 ^ s.toNat * chBd ss := Nat.succ_mul _ _
        unfold chStep
        by_cases h : s ≤ l.getD k 0
        · rw [if_pos h]
          have h1 := chance_term (hs s (by simp)) h (hl.at_ k).2 (ih (l.set k 0) (fun x hx => hs x (by simp [hx])) (hl.set k))
          omega
        · rw [if_neg h]
          omega
    have h := key l.length
    refine ⟨h.1, Int.le_trans h.2 ?_⟩
    rw [chBd_cons]
    exact Int.ofNat_le.2 (Nat.mul_le_mul_right _ hl.1)
theorem chanceTo_bd {s : Int} {ss l : List Int} (hs : ∀ x ∈ s :: ss, 0 ≤ x) (hl : Kinds l) (k : Nat) (hk : k ≤ l.length) : 0 ≤ chanceTo s ss l k ∧ chanceTo s ss l k ≤ (chBd (s :: ss) : Int) := by
  have key : ∀ k : Nat, 0 ≤ chanceTo s ss l k ∧ chanceTo s ss l k ≤ ((k * (9 ^ s.toNat * chBd ss) : Nat) : Int) := by
    intro k
    induction k with
    | zero => exact ⟨Int.le_refl _, by simp [chanceTo]⟩
    | succ k ihk =>
      rw [chanceTo_succ]
      have e : (k + 1) * (9 ^ s.toNat * chBd ss) = k * (9 ^ s.toNat * chBd ss) + 9 ^ s.toNat * chBd ss := Nat.succ_mul _ _
      unfold chStep
      by_cases h : s ≤ l.getD k 0
      · rw [if_pos h]
        have h1 := chance_term (hs s (by simp)) h (hl.at_ k).2 (chanceP_bd ss (l.set k 0) (fun x hx => hs x (by simp [hx])) (hl.set k))
        omega
      · rw [if_neg h]
        omega
  have h := key k
  refine ⟨h.1, Int.le_trans h.2 ?_⟩
  rw [chBd_cons]
  exact Int.ofNat_le.2 (Nat.mul_le_mul_right _ (by have := hl.1; omega))

/-! ### The sizes of the blocks -/
def sizeStep (l : List Int) (b : Int) : List Int := l.set b.toNat (l.getD b.toNat 0 + 1)
def sizesTo (p : List Int) (m k : Nat) : List Int := (p.take k).foldl sizeStep (List.replicate m 0)
def sizesOf (p : List Int) : List Int := sizesTo p (blk p).toNat p.length
theorem sizesTo_succ {p : List Int} {m k : Nat} {v : Int} (h : p[k]? = some v) : sizesTo p m (k + 1) = sizeStep (sizesTo p m k) v := by
  unfold sizesTo; rw [take_of_get h, List.foldl_append]; rfl
theorem sumN_set {l : List Int} {k : Nat} {v : Int} (h : l[k]? = some v) (h0 : 0 ≤ v) : sumN (l.set k (v + 1)) = sumN l + 1 := by
  induction l generalizing k with
  | nil => simp at h
  | cons a l ih =>
    cases k with
    | zero => simp at h; subst h; simp only [List.set_cons_zero, sumN_cons]; omega
    | succ k => simp at h; simp only [List.set_cons_succ, sumN_cons, ih h]; omega
theorem sumN_zero (m : Nat) : sumN (List.replicate m 0) = 0 := by
  induction m with
  | zero => rfl
  | succ m ih => rw [List.replicate_succ, sumN_cons, ih]; rfl
/-- what the counting of the sizes keeps -/
structure SizesOk (m k : Nat) (l : List Int) : Prop where
  len : l.length = m
  sum : sumN l = k
  pos : ∀ x ∈ l, 0 ≤ x ∧ x ≤ k
theorem sizes_ok {p : List Int} {m : Nat} (hp : ∀ v ∈ p, 0 ≤ v ∧ v < m) (k : Nat) (hk : k ≤ p.length) : SizesOk m k (sizesTo p m k) := by
  induction k with
  | zero => exact ⟨by simp [sizesTo], by simp [sizesTo, sumN_zero], fun x hx => by simp [sizesTo] at hx; omega⟩
  | succ k ih =>
    have ih := ih (by omega)
    have hv := get_getD (l := p) (i := k) (by omega)
    have hb := hp _ (getD_mem (l := p) (i := k) (by omega))
    obtain ⟨u, hu⟩ : ∃ u, (sizesTo p m k)[(p.getD k 0).toNat]? = some u := ⟨_, get_getD (by rw [ih.len]; omega)⟩
    have hu0 := ih.pos u (List.mem_of_getElem? hu)
    rw [sizesTo_succ hv]
    unfold sizeStep
    rw [getD_of_get hu]
    refine ⟨by rw [List.length_set]; exact ih.len, by rw [sumN_set hu hu0.1, ih.sum], fun x hx => ?_⟩
    rcases List.mem_or_eq_of_mem_set hx with hx | rfl
    · have := ih.pos x hx; omega
    · omega
theorem sizesOf_ok {p : List Int} (h : chk p = 0) : SizesOk (blk p).toNat p.length (sizesOf p) := by
  have h9 := blk_le9 h
  exact sizes_ok (fun v hv => by have h1 := (chk_ok h).2.2.1 v hv; have h2 := lt_blk hv; omega) p.length (Nat.le_refl _)

/-- what there is of each kind, for six kinds -/
def pad6 (c : List Int) : List Int := c ++ List.replicate (6 - c.length) 0
theorem pad6_len {c : List Int} (h : c.length ≤ 6) : (pad6 c).length = 6 := by unfold pad6; simp; omega
theorem pad6_kinds {c : List Int} (h : c.length ≤ 6) (hc : okCounts c = true) : Kinds (pad6 c) := by
  refine ⟨by rw [pad6_len h]; exact Nat.le_refl _, fun x hx => ?_⟩
  unfold pad6 at hx
  rcases List.mem_append.1 hx with hx | hx
  · have := okCounts_mem hc x hx; omega
  · rw [(List.mem_replicate.1 hx).2]; omega

/-- in how many ways a partition comes -/
def waysOf (c p : List Int) : Int := chanceP (sizesOf p) (pad6 c)
theorem waysOf_bd {c p : List Int} (h6 : c.length ≤ 6) (hc : okCounts c = true) (h : chk p = 0) : 0 ≤ waysOf c p ∧ waysOf c p ≤ 3904305912313344 := by
  have hs := sizesOf_ok h
  have h9 := blk_le9 h
  have hp := chk_ok h
  have h1 := chanceP_bd (sizesOf p) (pad6 c) (fun s hs' => (hs.pos s hs').1) (pad6_kinds h6 hc)
  have h2 := chBd_9 (ss := sizesOf p) (by rw [hs.len]; omega) (by rw [hs.sum]; exact hp.2.1)
  unfold waysOf
  omega

/-! ### The answers of the program -/
def waysE (c : List Int) (d : Int) : Int × Int := if chkS c d ≠ 0 then (0, chkS c d) else (fallN (sumI c) d.toNat, 0)
def chanceE (c : List Int) (d : Int) (p : List Int) : Int × Int :=
  if chkS c d ≠ 0 then (0, chkS c d) else if chk p ≠ 0 then (0, chk p) else if (p.length : Int) ≠ d then (0, 3) else (waysOf c p, 0)
def shapedC (c : List Int) (d : Int) : Int := if chkS c d ≠ 0 then chkS c d else if 6 < d then 8 else 0
def shapesTo (c : List Int) (n k : Nat) : List Int := (List.range k).map fun r => waysOf c (pr n r)
def shapesE (c : List Int) (d : Int) : List Int × Int := if shapedC c d ≠ 0 then ([], shapedC c d) else (shapesTo c d.toNat (countR d.toNat).toNat, 0)
/-- the best of the first k partitions, and in how many ways it comes -/
def bestStep (c : List Int) (n : Nat) (s : List Int × Int) (r : Nat) : List Int × Int := if s.2 < waysOf c (pr n r) then (pr n r, waysOf c (pr n r)) else s
def bestTo (c : List Int) (n k : Nat) : List Int × Int := (List.range k).foldl (bestStep c n) ([], 0)
theorem bestTo_succ (c : List Int) (n k : Nat) : bestTo c n (k + 1) = bestStep c n (bestTo c n k) k := foldl_range_succ _ _ _
theorem shapesTo_succ (c : List Int) (n k : Nat) : shapesTo c n (k + 1) = shapesTo c n k ++ [waysOf c (pr n k)] := by
  unfold shapesTo; rw [List.range_succ, List.map_append]; rfl
end Go.Proofs.Ytgnfkgmppeohoaa
