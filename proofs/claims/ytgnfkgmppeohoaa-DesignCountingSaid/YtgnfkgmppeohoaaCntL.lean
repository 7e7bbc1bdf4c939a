/- Plain law: what counting tells. -/
import Derived.Test.YtgnfkgmppeohoaaMore
namespace Go.Proofs.Ytgnfkgmppeohoaa
open Go.RowKit

/-! ### The most that counting tells -/
def mxC (l : List Int) : Int := l.foldl max 0
theorem mxC_snoc (l : List Int) (v : Int) : mxC (l ++ [v]) = max (mxC l) v := by unfold mxC; rw [List.foldl_append]; rfl
theorem mxC_mx {a : Int} (r : List Int) (h : 0 ≤ a) : mx a r = mxC (a :: r) := by unfold mx mxC; rw [List.foldl_cons, show max 0 a = a by omega]
theorem foldl_max_ge (l : List Int) : ∀ a : Int, a ≤ l.foldl max a ∧ (∀ v ∈ l, v ≤ l.foldl max a) ∧ (l.foldl max a = a ∨ l.foldl max a ∈ l) := by
  induction l with
  | nil => intro a; exact ⟨Int.le_refl _, by simp, .inl rfl⟩
  | cons x l ih =>
    intro a
    obtain ⟨h1, h2, h3⟩ := ih (max a x)
    rw [List.foldl_cons]
    refine ⟨by omega, fun v hv => ?_, ?_⟩
    · rcases List.mem_cons.1 hv with rfl | hv
      · omega
      · exact h2 v hv
    · rcases h3 with h3 | h3
      · by_cases hx : a ≤ x
        · right; rw [h3, show max a x = x by omega]; simp
        · left; rw [h3]; omega
      · right; simp [h3]
theorem mxC_ge {l : List Int} {v : Int} (h : v ∈ l) : v ≤ mxC l := (foldl_max_ge l 0).2.1 v h
theorem mxC_nn (l : List Int) : 0 ≤ mxC l := (foldl_max_ge l 0).1
theorem mxC_mem {l : List Int} (h : 0 < l.length) (hp : ∀ v ∈ l, 0 ≤ v) : mxC l ∈ l := by
  rcases (foldl_max_ge l 0).2.2 with h1 | h1
  · match l, h with
    | a :: l, _ =>
      have := mxC_ge (l := a :: l) (v := a) (by simp)
      have h0 := hp a (by simp)
      unfold mxC at this ⊢
      rw [h1] at this ⊢
      have : a = 0 := by omega
      subst this; simp
  · exact h1
def mostN (c : List Int) (d : Int) : Int := max 0 (d - sumI c + mxC c)
def cntV (m d : Int) : Int := if m = d then 1 else if m = 0 then 2 else 3
/-- what Counted answers: the verdict, the most, the error -/
def countedE (c : List Int) (d : Int) : Int × Int × Int := if chkS c d ≠ 0 then (0, 0, chkS c d) else (cntV (mostN c d) d, mostN c d, 0)
def mostTo (c : List Int) (d : Int) (k : Nat) : Int := (List.range k).foldl (fun m j => max m (d - (sumI c - c.getD j 0))) 0
theorem mostTo_succ (c : List Int) (d : Int) (k : Nat) : mostTo c d (k + 1) = max (mostTo c d k) (d - (sumI c - c.getD k 0)) := foldl_range_succ _ _ _
theorem mostTo_take {c : List Int} {d : Int} (h : d ≤ sumI c) (k : Nat) (hk : k ≤ c.length) : mostTo c d k = max 0 (d - sumI c + mxC (c.take k)) := by
  induction k with
  | zero => simp [mostTo, mxC]; omega
  | succ k ih =>
    rw [mostTo_succ, ih (by omega), take_of_get (get_getD (l := c) (i := k) (by omega)), mxC_snoc]
    omega
theorem mostTo_all {c : List Int} {d : Int} (h : d ≤ sumI c) : mostTo c d c.length = mostN c d := by
  rw [mostTo_take h _ (Nat.le_refl _), List.take_length]; rfl
theorem sumI_nonneg : ∀ c : List Int, (∀ v ∈ c, 0 ≤ v) → 0 ≤ sumI c := by
  intro c
  induction c with
  | nil => intro _; simp
  | cons x c ih => intro h; rw [sumI_cons]; have := h x (by simp); have := ih (fun v hv => h v (by simp [hv])); omega
theorem sum_ge_mem {c : List Int} (hp : ∀ v ∈ c, 0 ≤ v) : ∀ v ∈ c, v ≤ sumI c := by
  induction c with
  | nil => simp
  | cons x c ih =>
    intro v hv
    have hx := hp x (by simp)
    have hs := sumI_nonneg c (fun v hv => hp v (by simp [hv]))
    rw [sumI_cons]
    rcases List.mem_cons.1 hv with rfl | hv
    · omega
    · have := ih (fun v hv => hp v (by simp [hv])) v hv; omega
theorem mostN_bd {c : List Int} {d : Int} (h : chkS c d = 0) : 0 ≤ mostN c d ∧ mostN c d ≤ d := by
  have hk := chkS_ok h
  have hm := mxC_mem (l := c) (by omega) (fun v hv => by have := okCounts_mem hk.2.2.1 v hv; omega)
  have := sum_ge_mem (fun v hv => by have := okCounts_mem hk.2.2.1 v hv; omega) _ hm
  unfold mostN; omega

/-! ### What is left -/
def restStep (l : List Int) (k : Int) : List Int := l.set k.toNat (l.getD k.toNat 0 - 1)
def leftTo (c seen : List Int) (j : Nat) : List Int := (seen.take j).foldl restStep c
def restTo (c seen : List Int) (j : Nat) : List Int := leftTo (pad6 c) seen j
theorem leftTo_succ {c seen : List Int} {j : Nat} {k : Int} (h : seen[j]? = some k) : leftTo c seen (j + 1) = restStep (leftTo c seen j) k := by
  unfold leftTo; rw [take_of_get h, List.foldl_append]; rfl
theorem restStep_len (l : List Int) (k : Int) : (restStep l k).length = l.length := by unfold restStep; simp
theorem leftTo_len (c seen : List Int) (j : Nat) : (leftTo c seen j).length = c.length := by
  unfold leftTo
  generalize seen.take j = s
  induction s generalizing c with
  | nil => rfl
  | cons x s ih => rw [List.foldl_cons, ih, restStep_len]
def inK (c seen : List Int) : Bool := seen.all fun k => decide (0 ≤ k) && decide (k ≤ (c.length : Int) - 1)
theorem inK_mem {c seen : List Int} (h : inK c seen = true) : ∀ k ∈ seen, 0 ≤ k ∧ k < c.length := by
  unfold inK at h
  rw [List.all_eq_true] at h
  intro k hk
  have := h k hk
  simp at this; omega
theorem inK_no {c seen : List Int} {k : Int} (h : k ∈ seen) (hk : k < 0 ∨ (c.length : Int) - 1 < k) : inK c seen = false := by
  cases e : inK c seen with
  | false => rfl
  | true => have := inK_mem e k h; omega
theorem inK_take {c seen : List Int} {j : Nat} {v : Int} (h : seen[j]? = some v) : inK c (seen.take (j + 1)) = (inK c (seen.take j) && (decide (0 ≤ v) && decide (v ≤ (c.length : Int) - 1))) := by
  unfold inK; rw [take_of_get h, List.all_append]; simp
theorem pad_step {c : List Int} {k : Int} (h0 : 0 ≤ k) (hk : k < c.length) : restStep (pad6 c) k = pad6 (restStep c k) := by
  unfold restStep pad6
  have hl : k.toNat < c.length := by omega
  rw [List.set_append_left _ _ hl, List.length_set]
  congr 3
  simp only [List.getD_eq_getElem?_getD]
  rw [List.getElem?_append_left hl]
theorem leftTo_pad {c seen : List Int} (h : inK c seen = true) (j : Nat) : restTo c seen j = pad6 (leftTo c seen j) := by
  unfold restTo leftTo
  have hm : ∀ k ∈ seen.take j, 0 ≤ k ∧ k < c.length := fun k hk => inK_mem h k (List.mem_of_mem_take hk)
  generalize seen.take j = s at hm
  induction s generalizing c with
  | nil => rfl
  | cons x s ih =>
    have hx := hm x (by simp)
    rw [List.foldl_cons, List.foldl_cons, pad_step hx.1 hx.2]
    refine ih ?_ ?_
    · unfold inK at h ⊢; rw [restStep_len]; exact h
    · intro k hk; rw [restStep_len]; exact hm k (by simp [hk])
/-- the numbers of what is left fall -/
theorem restStep_get (l : List Int) (k : Int) (m : Nat) (hm : m < l.length) : (restStep l k).getD m 0 = l.getD m 0 - if k.toNat = m then 1 else 0 := by
  unfold restStep
  simp only [List.getD_eq_getElem?_getD, List.getElem?_set]
  by_cases h : k.toNat = m
  · rw [if_pos h, if_pos (by omega), if_pos h, h]; rfl
  · rw [if_neg h, if_neg h]; omega
theorem left_get {c seen : List Int} (j : Nat) (m : Nat) (hm : m < c.length) : (leftTo c seen j).getD m 0 = c.getD m 0 - ((seen.take j).countP fun k => k.toNat == m) := by
  unfold leftTo
  generalize seen.take j = s
  induction s generalizing c with
  | nil => simp
  | cons x s ih =>
    rw [List.foldl_cons, ih (by rw [restStep_len]; exact hm), restStep_get _ _ _ hm, List.countP_cons]
    by_cases h : x.toNat = m
    · rw [if_pos h, if_pos (by simpa using h)]; omega
    · rw [if_neg h, if_neg (by simpa using h)]; omega
theorem countP_take_le (s : List Int) (m j : Nat) : (s.take j).countP (fun k => k.toNat == m) ≤ s.countP fun k => k.toNat == m :=
  (List.take_sublist j s).countP_le
def negB (l : List Int) : Bool := l.any fun x => decide (x < 0)
theorem negB_no {l : List Int} (h : negB l = false) : ∀ x ∈ l, 0 ≤ x := by
  unfold negB at h
  rw [List.any_eq_false] at h
  intro x hx
  have := h x hx
  simp at this; exact this
theorem negB_at {l : List Int} {m : Nat} (hm : m < l.length) (h : l.getD m 0 < 0) : negB l = true := by
  unfold negB
  rw [List.any_eq_true]
  exact ⟨_, getD_mem hm, by simpa using h⟩
theorem negB_yes {l : List Int} (h : negB l = true) : ∃ m, m < l.length ∧ l.getD m 0 < 0 := by
  unfold negB at h
  rw [List.any_eq_true] at h
  obtain ⟨x, hx, h2⟩ := h
  obtain ⟨m, hm, rfl⟩ := List.getElem_of_mem hx
  refine ⟨m, hm, ?_⟩
  rw [getD_of_get (List.getElem?_eq_getElem hm)]
  simpa using h2
theorem negB_pad {l : List Int} : negB (pad6 l) = negB l := by
  unfold negB pad6
  rw [List.any_append]
  have : (List.replicate (6 - l.length) (0 : Int)).any (fun x => decide (x < 0)) = false := by
    rw [List.any_eq_false]; intro x hx; rw [(List.mem_replicate.1 hx).2]; simp
  rw [this, Bool.or_false]
/-- once below zero, below zero for ever -/
theorem negB_mono {c seen : List Int} {i j : Nat} (hij : i ≤ j) (h : negB (leftTo c seen i) = true) : negB (leftTo c seen j) = true := by
  obtain ⟨m, hm, h1⟩ := negB_yes h
  rw [leftTo_len] at hm
  refine negB_at (m := m) (by rw [leftTo_len]; exact hm) ?_
  rw [left_get _ _ hm] at h1 ⊢
  have : (seen.take i).countP (fun k => k.toNat == m) ≤ (seen.take j).countP fun k => k.toNat == m := by
    have := countP_take_le (seen.take j) m i
    rwa [List.take_take, Nat.min_eq_left hij] at this
  omega

def kindsOf (l : List Int) (j : Nat) : List Int := ((List.range j).filter fun k => decide (0 < l.getD k 0)).map Int.ofNat
theorem kindsOf_succ (l : List Int) (j : Nat) : kindsOf l (j + 1) = if 0 < l.getD j 0 then kindsOf l j ++ [(j : Int)] else kindsOf l j := by
  unfold kindsOf
  rw [List.range_succ, List.filter_append, List.map_append]
  by_cases h : 0 < l.getD j 0
  · rw [if_pos h, List.filter_cons_of_pos (by rw [decide_eq_true_eq]; exact h)]; rfl
  · rw [if_neg h, List.filter_cons_of_neg (by rw [decide_eq_true_eq]; exact h)]; simp
theorem kindsOf_len (l : List Int) (j : Nat) : (kindsOf l j).length ≤ j := by
  unfold kindsOf
  rw [List.length_map]
  exact Nat.le_trans (List.length_filter_le _ _) (by simp)
theorem kindsOf_mem {l : List Int} {j : Nat} {v : Int} : v ∈ kindsOf l j ↔ ∃ k : Nat, k < j ∧ v = k ∧ 0 < l.getD k 0 := by
  unfold kindsOf
  rw [List.mem_map]
  constructor
  · rintro ⟨k, hk, rfl⟩
    rw [List.mem_filter] at hk
    exact ⟨k, by simpa using hk.1, rfl, by simpa using hk.2⟩
  · rintro ⟨k, hk, rfl, h⟩
    exact ⟨k, by rw [List.mem_filter]; exact ⟨by simpa using hk, by simpa using h⟩, rfl⟩
theorem kindsOf_pad {l : List Int} (h : l.length ≤ 6) : kindsOf (pad6 l) 6 = kindsOf l l.length := by
  have h1 : ∀ j, j ≤ l.length → kindsOf (pad6 l) j = kindsOf l j := by
    intro j
    induction j with
    | zero => intro _; rfl
    | succ j ih =>
      intro hj
      have e : (pad6 l).getD j 0 = l.getD j 0 := by unfold pad6; simp only [List.getD_eq_getElem?_getD]; rw [List.getElem?_append_left (by omega)]
      rw [kindsOf_succ, kindsOf_succ, ih (by omega), e]
  have h2 : ∀ m, l.length + m ≤ 6 → kindsOf (pad6 l) (l.length + m) = kindsOf l l.length := by
    intro m
    induction m with
    | zero => intro _; exact h1 _ (Nat.le_refl _)
    | succ m ih =>
      intro hm
      have e : (pad6 l).getD (l.length + m) 0 = 0 := by
        unfold pad6; simp only [List.getD_eq_getElem?_getD]; rw [List.getElem?_append_right (by omega), List.getElem?_replicate]; split <;> rfl
      rw [show l.length + (m + 1) = l.length + m + 1 by omega, kindsOf_succ, e, if_neg (by omega), ih (by omega)]
  have := h2 (6 - l.length) (by omega)
  rwa [show l.length + (6 - l.length) = 6 by omega] at this
/-- what Rest answers: the kinds, for sure, the error -/
def restE (c : List Int) (d : Int) (seen : List Int) : List Int × Int × Int :=
  if chkS c d ≠ 0 then ([], 0, chkS c d)
  else if d < seen.length then ([], 0, 8)
  else if inK c seen = false then ([], 0, 7)
  else if negB (restTo c seen seen.length) = true then ([], 0, 14)
  else if (seen.length : Int) = d then ([], 0, 0)
  else (kindsOf (restTo c seen seen.length) 6, if (kindsOf (restTo c seen seen.length) 6).length = 1 then d - seen.length else 0, 0)
end Go.Proofs.Ytgnfkgmppeohoaa
