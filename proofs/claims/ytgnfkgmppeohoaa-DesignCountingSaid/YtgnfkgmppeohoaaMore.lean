/- Plain law: one packet more: all partitions together have all ways. -/
import Derived.Test.YtgnfkgmppeohoaaDesLaw
namespace Go.Proofs.Ytgnfkgmppeohoaa
open Go.RowKit

/-! ### Sums -/
def sumR (f : Nat → Int) (k : Nat) : Int := (List.range k).foldl (fun n i => n + f i) 0
theorem sumR_zero (f : Nat → Int) : sumR f 0 = 0 := rfl
theorem sumR_succ (f : Nat → Int) (k : Nat) : sumR f (k + 1) = sumR f k + f k := foldl_range_succ _ _ _
theorem sumR_congr {f g : Nat → Int} {k : Nat} (h : ∀ i, i < k → f i = g i) : sumR f k = sumR g k := by
  induction k with
  | zero => rfl
  | succ k ih => rw [sumR_succ, sumR_succ, ih (fun i hi => h i (by omega)), h k (by omega)]
theorem sumR_add (f g : Nat → Int) (k : Nat) : sumR (fun i => f i + g i) k = sumR f k + sumR g k := by
  induction k with
  | zero => rfl
  | succ k ih => simp only [sumR_succ, ih]; omega
theorem sumR_mul (a : Int) (f : Nat → Int) (k : Nat) : sumR (fun i => a * f i) k = a * sumR f k := by
  induction k with
  | zero => simp [sumR]
  | succ k ih => simp only [sumR_succ, ih, Int.mul_add]
theorem sumR_mul' (a : Int) (f : Nat → Int) (k : Nat) : sumR (fun i => f i * a) k = sumR f k * a := by
  rw [Int.mul_comm, ← sumR_mul]; exact sumR_congr fun i _ => Int.mul_comm _ _
theorem sumR_cons (f : Nat → Int) (k : Nat) : sumR f (k + 1) = f 0 + sumR (fun i => f (i + 1)) k := by
  induction k with
  | zero => simp [sumR_succ, sumR_zero]
  | succ k ih => rw [sumR_succ, ih, sumR_succ]; omega
theorem sumR_const0 (k : Nat) : sumR (fun _ => 0) k = 0 := by
  induction k with
  | zero => rfl
  | succ k ih => rw [sumR_succ, ih]; rfl
theorem sumR_swap (f : Nat → Nat → Int) (n m : Nat) : sumR (fun i => sumR (fun j => f i j) m) n = sumR (fun j => sumR (fun i => f i j) n) m := by
  induction n with
  | zero => simp only [sumR_zero]; exact (sumR_const0 m).symm
  | succ n ih => simp only [sumR_succ]; rw [sumR_add, ih]
theorem sumI_cons (x : Int) (l : List Int) : sumI (x :: l) = x + sumI l := by
  have key : ∀ (l : List Int) (a : Int), l.foldl (· + ·) a = a + sumI l := by
    intro l
    induction l with
    | nil => intro a; simp
    | cons y l ih => intro a; rw [List.foldl_cons, ih, show sumI (y :: l) = l.foldl (· + ·) (0 + y) from rfl, ih]; omega
  show l.foldl (· + ·) (0 + x) = _
  rw [key]; omega
theorem sumI_append (a b : List Int) : sumI (a ++ b) = sumI a + sumI b := by
  induction a with
  | nil => simp
  | cons x a ih => rw [List.cons_append, sumI_cons, sumI_cons, ih]; omega
theorem sumI_zeros (m : Nat) : sumI (List.replicate m 0) = 0 := by
  induction m with
  | zero => rfl
  | succ m ih => rw [List.replicate_succ, sumI_cons, ih]; rfl
theorem sumI_sumR (l : List Int) : sumI l = sumR (fun k => l.getD k 0) l.length := by
  induction l with
  | nil => rfl
  | cons x l ih => rw [sumI_cons, List.length_cons, sumR_cons, ih]; rfl
theorem sumI_set {l : List Int} {k : Nat} (h : k < l.length) (v : Int) : sumI (l.set k v) = sumI l - l.getD k 0 + v := by
  induction l generalizing k with
  | nil => simp at h
  | cons x l ih =>
    cases k with
    | zero => rw [List.set_cons_zero, sumI_cons, sumI_cons]; simp; omega
    | succ k =>
      rw [List.set_cons_succ, sumI_cons, sumI_cons, ih (by simpa using h)]
      simp; omega
theorem sumI_pad (c : List Int) : sumI (pad6 c) = sumI c := by unfold pad6; rw [sumI_append, sumI_zeros]; omega

/-! ### One packet more -/
theorem chanceP_sumR (s : Int) (ss l : List Int) : chanceP (s :: ss) l = sumR (fun k => if s ≤ l.getD k 0 then fallN (l.getD k 0) s.toNat * chanceP ss (l.set k 0) else 0) l.length := by
  rw [chanceP_cons]
  unfold chanceTo sumR
  congr 1
  funext n k
  show chStep s ss l n k = n + if s ≤ l.getD k 0 then fallN (l.getD k 0) s.toNat * chanceP ss (l.set k 0) else 0
  unfold chStep
  by_cases h : s ≤ l.getD k 0
  · rw [if_pos h, if_pos h]
  · rw [if_neg h, if_neg h]; omega
def incAt (ss : List Int) (i : Nat) : List Int := ss.set i (ss.getD i 0 + 1)
theorem chance_more : ∀ (ss l : List Int), (∀ s ∈ ss, 0 ≤ s) → (∀ x ∈ l, 0 ≤ x) → sumR (fun i => chanceP (incAt ss i) l) ss.length + chanceP (ss ++ [1]) l = chanceP ss l * (sumI l - sumI ss) := by
  intro ss
  induction ss with
  | nil =>
    intro l _ hl
    rw [List.length_nil, sumR_zero, List.nil_append, chanceP_sumR, sumI_nil]
    rw [show chanceP [] l = 1 from rfl, sumI_sumR l]
    rw [sumR_congr (g := fun k => l.getD k 0)]
    · omega
    · intro k hk
      have h0 := hl _ (getD_mem hk)
      by_cases h : 1 ≤ l.getD k 0
      · rw [if_pos h]; show 1 * (l.getD k 0 - 0) * 1 = _; omega
      · rw [if_neg h]; omega
  | cons s ss ih =>
    intro l hs hl
    have hs0 := hs s (by simp)
    have hss : ∀ x ∈ ss, 0 ≤ x := fun x hx => hs x (by simp [hx])
    rw [List.length_cons, sumR_cons]
    have e0 : chanceP (incAt (s :: ss) 0) l = chanceP ((s + 1) :: ss) l := rfl
    have e1 : sumR (fun i => chanceP (incAt (s :: ss) (i + 1)) l) ss.length = sumR (fun i => chanceP (s :: incAt ss i) l) ss.length := rfl
    have e2 : sumR (fun i => chanceP (s :: incAt ss i) l) ss.length = sumR (fun k => sumR (fun i => if s ≤ l.getD k 0 then fallN (l.getD k 0) s.toNat * chanceP (incAt ss i) (l.set k 0) else 0) ss.length) l.length := by
      rw [← sumR_swap]
      exact sumR_congr fun i _ => chanceP_sumR _ _ _
    rw [e0, e1, e2, List.cons_append, chanceP_sumR (s + 1), chanceP_sumR s (ss ++ [1]), chanceP_sumR s ss, ← sumR_mul', Int.add_assoc, ← sumR_add, ← sumR_add]
    refine sumR_congr fun k hk => ?_
    have ih := ih (l.set k 0) hss (fun x hx => by
      rcases List.mem_or_eq_of_mem_set hx with hx | rfl
      · exact hl x hx
      · omega)
    rw [sumI_set hk] at ih
    rw [sumI_cons]
    by_cases h : s ≤ l.getD k 0
    · simp only [if_pos h]
      rw [sumR_mul]
      generalize sumR (fun i => chanceP (incAt ss i) (l.set k 0)) ss.length = X at ih ⊢
      generalize chanceP (ss ++ [1]) (l.set k 0) = Y at ih ⊢
      generalize chanceP ss (l.set k 0) = Z at ih ⊢
      have hf : (if s + 1 ≤ l.getD k 0 then fallN (l.getD k 0) (s + 1).toNat * Z else 0) = fallN (l.getD k 0) s.toNat * (l.getD k 0 - s) * Z := by
        have et : (s + 1).toNat = s.toNat + 1 := by omega
        have e3 : fallN (l.getD k 0) (s.toNat + 1) = fallN (l.getD k 0) s.toNat * (l.getD k 0 - s) := by
          show fallN (l.getD k 0) s.toNat * (l.getD k 0 - (s.toNat : Int)) = _
          rw [show ((s.toNat : Nat) : Int) = s by omega]
        by_cases h2 : s + 1 ≤ l.getD k 0
        · rw [if_pos h2, et, e3]
        · rw [if_neg h2, show l.getD k 0 - s = 0 by omega]; simp
      rw [hf]
      generalize fallN (l.getD k 0) s.toNat = F
      generalize l.getD k 0 = v at ih ⊢
      have : X + Y = Z * (sumI l - v + 0 - sumI ss) := ih
      have hy : Y = Z * (sumI l - v + 0 - sumI ss) - X := by omega
      rw [hy]
      simp only [Int.mul_add, Int.mul_sub, Int.add_mul, Int.sub_mul, Int.mul_assoc, Int.mul_zero, Int.mul_comm, Int.mul_left_comm]
      omega
    · simp only [if_neg h, if_neg (show ¬ s + 1 ≤ l.getD k 0 by omega)]
      rw [sumR_const0]; simp

/-! ### The sizes of a partition that goes on -/
theorem sizesTo_take (p : List Int) (x : Int) (m k : Nat) (hk : k ≤ p.length) : sizesTo (p ++ [x]) m k = sizesTo p m k := by
  unfold sizesTo; rw [List.take_append_of_le_length hk]
theorem sizesTo_wide {p : List Int} {m : Nat} (hp : ∀ v ∈ p, 0 ≤ v ∧ v < m) (k : Nat) (hk : k ≤ p.length) : sizesTo p (m + 1) k = sizesTo p m k ++ [0] := by
  induction k with
  | zero => simp [sizesTo, List.replicate_succ']
  | succ k ih =>
    have hv := get_getD (l := p) (i := k) (by omega)
    have hb := hp _ (getD_mem (l := p) (i := k) (by omega))
    have hok := sizes_ok hp k (by omega)
    rw [sizesTo_succ hv, sizesTo_succ hv, ih (by omega)]
    unfold sizeStep
    have hl : (p.getD k 0).toNat < (sizesTo p m k).length := by rw [hok.len]; omega
    rw [List.set_append_left _ _ hl]
    congr 2
    simp only [List.getD_eq_getElem?_getD]
    rw [List.getElem?_append_left (by simpa using hl)]
theorem sizes_more {q : List Int} (h : chk q = 0) {b : Nat} (hb : (b : Int) ≤ blk q) : sizesOf (q ++ [(b : Int)]) = if (b : Int) < blk q then incAt (sizesOf q) b else sizesOf q ++ [1] := by
  have h9 := blk_le9 h
  have hm : ∀ v ∈ q, 0 ≤ v ∧ v < ((blk q).toNat : Int) := fun v hv => by have h1 := (chk_ok h).2.2.1 v hv; have h2 := lt_blk hv; omega
  unfold sizesOf
  rw [blk_snoc]
  have hget : (q ++ [(b : Int)])[q.length]? = some (b : Int) := by rw [List.getElem?_append_right (Nat.le_refl _), Nat.sub_self]; rfl
  rw [show (q ++ [(b : Int)]).length = q.length + 1 by simp, sizesTo_succ hget, sizesTo_take _ _ _ _ (Nat.le_refl _)]
  by_cases hlt : (b : Int) < blk q
  · rw [if_pos hlt, show (max (blk q) ((b : Int) + 1)).toNat = (blk q).toNat by omega]
    unfold sizeStep incAt
    rw [Int.toNat_natCast]
  · rw [if_neg hlt, show (max (blk q) ((b : Int) + 1)).toNat = (blk q).toNat + 1 by omega, sizesTo_wide hm _ (Nat.le_refl _)]
    have hl := (sizes_ok hm q.length (Nat.le_refl _)).len
    unfold sizeStep
    rw [Int.toNat_natCast, show b = (blk q).toNat by omega]
    rw [List.set_append_right _ _ (by omega)]
    simp [hl]
theorem ways_more {c q : List Int} (hc : okCounts c = true) (h6 : c.length ≤ 6) (h : chk q = 0) : sumR (fun b => waysOf c (q ++ [(b : Int)])) ((blk q).toNat + 1) = waysOf c q * (sumI c - q.length) := by
  have h9 := blk_le9 h
  have hs := sizesOf_ok h
  have hsum : sumI (sizesOf q) = q.length := by
    have key : ∀ l : List Int, (∀ x ∈ l, 0 ≤ x) → sumI l = (sumN l : Int) := by
      intro l
      induction l with
      | nil => intro _; rfl
      | cons x l ih => intro hl; have := hl x (by simp); rw [sumI_cons, sumN_cons, ih (fun y hy => hl y (by simp [hy]))]; omega
    rw [key _ (fun x hx => (hs.pos x hx).1), hs.sum]
  have hm := chance_more (sizesOf q) (pad6 c) (fun s hs' => (hs.pos s hs').1) (fun x hx => ((pad6_kinds h6 hc).2 x hx).1)
  rw [sumI_pad, hsum, hs.len] at hm
  unfold waysOf
  rw [← hm, sumR_succ]
  congr 1
  · refine sumR_congr fun b hb => ?_
    rw [sizes_more h (by omega), if_pos (by omega)]
  · rw [sizes_more h (by omega), if_neg (by omega)]

/-! ### All partitions -/
def sumOn (L : List (List Int)) (f : List Int → Int) : Int := (L.map f).foldr (· + ·) 0
theorem sumOn_cons (a : List Int) (L : List (List Int)) (f : List Int → Int) : sumOn (a :: L) f = f a + sumOn L f := rfl
theorem sumOn_append (A B : List (List Int)) (f : List Int → Int) : sumOn (A ++ B) f = sumOn A f + sumOn B f := by
  induction A with
  | nil => simp [sumOn]
  | cons a A ih => rw [List.cons_append, sumOn_cons, sumOn_cons, ih]; omega
theorem sumOn_congr {L : List (List Int)} {f g : List Int → Int} (h : ∀ q ∈ L, f q = g q) : sumOn L f = sumOn L g := by
  induction L with
  | nil => rfl
  | cons a L ih => rw [sumOn_cons, sumOn_cons, h a (by simp), ih (fun q hq => h q (by simp [hq]))]
theorem sumOn_mul (L : List (List Int)) (f : List Int → Int) (a : Int) : sumOn L (fun q => f q * a) = sumOn L f * a := by
  induction L with
  | nil => simp [sumOn]
  | cons x L ih => rw [sumOn_cons, sumOn_cons, ih, Int.add_mul]
theorem sumOn_range (g : Nat → List Int) (f : List Int → Int) (k : Nat) : sumOn ((List.range k).map g) f = sumR (fun b => f (g b)) k := by
  induction k with
  | zero => rfl
  | succ k ih => rw [List.range_succ, List.map_append, sumOn_append, ih, sumR_succ]; simp [sumOn]
def goOn (q : List Int) : List (List Int) := (List.range ((blk q).toNat + 1)).map fun (b : Nat) => q ++ [(b : Int)]
theorem sumOn_goOn (L : List (List Int)) (f : List Int → Int) : sumOn (L.flatMap goOn) f = sumOn L fun q => sumR (fun b => f (q ++ [(b : Int)])) ((blk q).toNat + 1) := by
  induction L with
  | nil => rfl
  | cons a L ih => rw [List.flatMap_cons, sumOn_append, sumOn_cons, ih]; unfold goOn; rw [sumOn_range]
def allP (n : Nat) : List (List Int) := (List.range (countR n).toNat).map (pr n)
theorem allP_1 : allP 1 = [[0]] := by decide +kernel
theorem allP_2 : allP 2 = (allP 1).flatMap goOn := by decide +kernel
theorem allP_3 : allP 3 = (allP 2).flatMap goOn := by decide +kernel
theorem allP_4 : allP 4 = (allP 3).flatMap goOn := by decide +kernel
theorem allP_5 : allP 5 = (allP 4).flatMap goOn := by decide +kernel
theorem allP_6 : allP 6 = (allP 5).flatMap goOn := by decide +kernel
theorem allP_next {n : Nat} (h1 : 1 ≤ n) (h5 : n ≤ 5) : allP (n + 1) = (allP n).flatMap goOn := by
  match n, h1, h5 with
  | 1, _, _ => exact allP_2
  | 2, _, _ => exact allP_3
  | 3, _, _ => exact allP_4
  | 4, _, _ => exact allP_5
  | 5, _, _ => exact allP_6
theorem allP_mem {n : Nat} (h1 : 1 ≤ n) (h7 : n ≤ 7) {q : List Int} (h : q ∈ allP n) : chk q = 0 ∧ q.length = n := by
  unfold allP at h
  rw [List.mem_map] at h
  obtain ⟨r, _, rfl⟩ := h
  exact ⟨pr_chk h1 h7 r, pr_len n r⟩
/-- ALL WAYS: those of all partitions together. -/
theorem ways_all {c : List Int} (hc : okCounts c = true) (h6 : c.length ≤ 6) : ∀ n, 1 ≤ n → n ≤ 6 → sumOn (allP n) (waysOf c) = fallN (sumI c) n := by
  intro n
  induction n with
  | zero => intro h; omega
  | succ n ih =>
    intro _ h
    by_cases h0 : n = 0
    · subst h0
      rw [allP_1]
      have h1 : waysOf c [0] = sumI c := by
        have hm := chance_more [] (pad6 c) (by simp) (fun x hx => ((pad6_kinds h6 hc).2 x hx).1)
        rw [sumI_pad] at hm
        have hs : sizesOf [0] = [1] := by decide +kernel
        unfold waysOf
        rw [hs]
        simp only [List.length_nil, sumR_zero, List.nil_append, sumI_nil] at hm
        rw [show chanceP [] (pad6 c) = 1 from rfl] at hm
        omega
      rw [sumOn_cons, h1]
      show sumI c + 0 = 1 * (sumI c - ((0 : Nat) : Int))
      simp
    · rw [allP_next (by omega) (by omega), sumOn_goOn, sumOn_congr (g := fun q => waysOf c q * (sumI c - n))]
      · rw [sumOn_mul, ih (by omega) (by omega)]; rfl
      · intro q hq
        obtain ⟨h1, h2⟩ := allP_mem (by omega) (by omega) hq
        rw [ways_more hc h6 h1, h2]
theorem sumOn_pos {L : List (List Int)} {f : List Int → Int} (h : 0 < sumOn L f) : ∃ q ∈ L, 0 < f q := by
  induction L with
  | nil => simp [sumOn] at h
  | cons a L ih =>
    rw [sumOn_cons] at h
    by_cases h1 : 0 < f a
    · exact ⟨a, by simp, h1⟩
    · obtain ⟨q, hq, h2⟩ := ih (by omega)
      exact ⟨q, by simp [hq], h2⟩
/-- SOME PARTITION HAS A WAY: the best one has. -/
theorem best_pos {c : List Int} {n : Nat} (hc : okCounts c = true) (h6 : c.length ≤ 6) (h54 : sumI c ≤ 54) (h1 : 1 ≤ n) (hn : n ≤ 6) (hle : (n : Int) ≤ sumI c) : 0 < (bestTo c n (countR n).toNat).2 := by
  have hw := ways_all hc h6 n h1 hn
  have hf := (fallN_54 h54 n hle (by omega)).1
  obtain ⟨q, hq, h2⟩ := sumOn_pos (L := allP n) (f := waysOf c) (by omega)
  unfold allP at hq
  rw [List.mem_map] at hq
  obtain ⟨r, hr, rfl⟩ := hq
  have := (best_ok c n (countR n).toNat).most r (by simpa using hr)
  omega
end Go.Proofs.Ytgnfkgmppeohoaa
