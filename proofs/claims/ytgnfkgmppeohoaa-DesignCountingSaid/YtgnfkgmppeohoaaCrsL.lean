/- Plain law: courses, and what counting tells along one. -/
import Derived.Test.YtgnfkgmppeohoaaStock
namespace Go.Proofs.Ytgnfkgmppeohoaa
open Go.RowKit

/-! ### All packets, kind by kind -/
def packTo (c : List Int) : Nat → List Int
  | 0 => []
  | k + 1 => packTo c k ++ List.replicate (c.getD k 0).toNat (k : Int)
theorem packTo_len {c : List Int} (h : ∀ x ∈ c, 0 ≤ x) (k : Nat) (hk : k ≤ c.length) : ((packTo c k).length : Int) = sumI (c.take k) := by
  induction k with
  | zero => simp [packTo]
  | succ k ih =>
    have h0 := h _ (getD_mem (l := c) (i := k) (by omega))
    rw [take_of_get (get_getD (l := c) (i := k) (by omega)), sumI_snoc, ← ih (by omega)]
    simp only [packTo, List.length_append, List.length_replicate]
    omega
theorem packTo_all {c : List Int} (h : ∀ x ∈ c, 0 ≤ x) : ((packTo c c.length).length : Int) = sumI c := by
  rw [packTo_len h _ (Nat.le_refl _), List.take_length]
theorem packTo_count (c : List Int) (m k : Nat) : (packTo c k).countP (fun x => x.toNat == m) = if m < k then (c.getD m 0).toNat else 0 := by
  induction k with
  | zero => simp [packTo]
  | succ k ih =>
    simp only [packTo]
    rw [List.countP_append, ih, List.countP_replicate]
    by_cases h1 : m < k
    · rw [if_pos h1, if_neg (by simp; omega), if_pos (by omega)]; rfl
    · rw [if_neg h1]
      by_cases h2 : k = m
      · subst h2; rw [if_pos (by simp), if_pos (by omega)]; omega
      · rw [if_neg (by simp; omega), if_neg (by omega)]
theorem packTo_mem {c : List Int} {k : Nat} : ∀ x ∈ packTo c k, 0 ≤ x ∧ x < k := by
  induction k with
  | zero => simp [packTo]
  | succ k ih =>
    intro x hx
    simp only [packTo] at hx
    rcases List.mem_append.1 hx with hx | hx
    · have := ih x hx; omega
    · rw [(List.mem_replicate.1 hx).2]; omega

/-- a course: some packets of the stock, in some order -/
structure CourseOk (c : List Int) (d : Nat) (L : List Int) : Prop where
  len : L.length = d
  mem : ∀ k ∈ L, 0 ≤ k ∧ k < c.length
  cnt : ∀ m, L.countP (fun x => x.toNat == m) ≤ (c.getD m 0).toNat
theorem course_ok {c Q : List Int} {d : Nat} (hp : Q.Perm (packTo c c.length)) (hd : d ≤ Q.length) : CourseOk c d (Q.take d) := by
  refine ⟨by simp; omega, fun k hk => ?_, fun m => ?_⟩
  · have := packTo_mem k (hp.mem_iff.1 (List.mem_of_mem_take hk)); omega
  · have h1 : (Q.take d).countP (fun x => x.toNat == m) ≤ Q.countP fun x => x.toNat == m := countP_take_le Q m d
    have h2 := hp.countP_eq (fun x => x.toNat == m)
    rw [packTo_count] at h2
    split at h2 <;> omega
/-- the numbers at the places of an order -/
theorem perm_pick {O l : List Int} (h : O.Perm (rangeI l.length)) : (O.map fun i => l.getD i.toNat 0).Perm l := by
  have h1 := h.map (fun i : Int => l.getD i.toNat 0)
  have h2 : (rangeI l.length).map (fun i : Int => l.getD i.toNat 0) = l := by
    apply List.ext_getElem?
    intro j
    unfold rangeI
    rw [List.map_map, List.getElem?_map]
    by_cases hj : j < l.length
    · rw [List.getElem?_range hj]
      simp only [Option.map_some, Function.comp]
      rw [show (Int.ofNat j).toNat = j from rfl, get_getD hj]
    · rw [List.getElem?_eq_none (by simp; omega), List.getElem?_eq_none (by omega)]; rfl
  rwa [h2] at h1

/-! ### Along a course -/
theorem inK_course {c L : List Int} {d : Nat} (h : CourseOk c d L) (i : Nat) : inK c (L.take i) = true := by
  unfold inK
  rw [List.all_eq_true]
  intro k hk
  have := h.mem k (List.mem_of_mem_take hk)
  simp; omega
theorem left_course {c L : List Int} {d : Nat} (hc : ∀ x ∈ c, 0 ≤ x) (h : CourseOk c d L) (i : Nat) : ∀ x ∈ leftTo c L i, 0 ≤ x := by
  intro x hx
  obtain ⟨m, hm, rfl⟩ := List.getElem_of_mem hx
  rw [leftTo_len] at hm
  have h1 := left_get (seen := L) i m hm
  rw [getD_of_get (List.getElem?_eq_getElem (by rw [leftTo_len]; exact hm))] at h1
  have h2 := countP_take_le L m i
  have h3 := h.cnt m
  have h4 := hc _ (getD_mem hm)
  omega
theorem leftTo_take2 (c L : List Int) (i : Nat) : leftTo c (L.take i) i = leftTo c L i := by unfold leftTo; rw [List.take_take, Nat.min_self]
theorem negB_course {c L : List Int} {d : Nat} (hc : ∀ x ∈ c, 0 ≤ x) (h : CourseOk c d L) (i : Nat) : negB (leftTo c L i) = false := by
  unfold negB
  rw [List.any_eq_false]
  intro x hx
  have := left_course hc h i x hx
  simp; omega
theorem rest_left {c L : List Int} {d : Nat} (h : CourseOk c d L) (i : Nat) : restTo c (L.take i) i = pad6 (leftTo c L i) := by rw [leftTo_pad (inK_course h i), leftTo_take2]
theorem restE_course {c L : List Int} {d i : Nat} (hz : chkS c d = 0) (h : CourseOk c d L) (hi : i < d) :
    restE c d (L.take i) = (kindsOf (leftTo c L i) c.length, if (kindsOf (leftTo c L i) c.length).length = 1 then (d : Int) - i else 0, 0) := by
  have hk := chkS_ok hz
  have hc : ∀ x ∈ c, 0 ≤ x := fun x hx => by have := okCounts_mem hk.2.2.1 x hx; omega
  have hl : (L.take i).length = i := by have := h.len; simp; omega
  have hn : negB (restTo c (L.take i) (L.take i).length) = false := by rw [hl, rest_left h, negB_pad]; exact negB_course hc h i
  have hr : kindsOf (restTo c (L.take i) (L.take i).length) 6 = kindsOf (leftTo c L i) c.length := by
    rw [hl, rest_left h, kindsOf_pad (by rw [leftTo_len]; omega), leftTo_len]
  unfold restE
  rw [if_neg (by omega), if_neg (by omega), if_neg (by rw [inK_course h]; simp), if_neg (by rw [hn]; simp), if_neg (by omega), hr, hl]
theorem restE_course_end {c L : List Int} {d : Nat} (hz : chkS c d = 0) (h : CourseOk c d L) : restE c d (L.take d) = ([], 0, 0) := by
  have hk := chkS_ok hz
  have hc : ∀ x ∈ c, 0 ≤ x := fun x hx => by have := okCounts_mem hk.2.2.1 x hx; omega
  have hl : (L.take d).length = d := by have := h.len; simp; omega
  have hn : negB (restTo c (L.take d) (L.take d).length) = false := by rw [hl, rest_left h, negB_pad]; exact negB_course hc h d
  unfold restE
  rw [if_neg (by omega), if_neg (by omega), if_neg (by rw [inK_course h]; simp), if_neg (by rw [hn]; simp), if_pos (by omega)]
theorem left_sum {c L : List Int} {d : Nat} (h : CourseOk c d L) (i : Nat) (hi : i ≤ d) : sumI (leftTo c L i) = sumI c - i := by
  induction i with
  | zero => simp [leftTo]
  | succ i ih =>
    have hg := get_getD (l := L) (i := i) (by have := h.len; omega)
    have hm := h.mem _ (getD_mem (l := L) (i := i) (by have := h.len; omega))
    rw [leftTo_succ hg]
    unfold restStep
    rw [sumI_set (by rw [leftTo_len]; omega), ih (by omega)]
    omega
theorem kinds_one {l : List Int} (hp : ∀ x ∈ l, 0 ≤ x) (h : (kindsOf l l.length).length = 1) : ∃ k : Nat, k < l.length ∧ sumI l = l.getD k 0 := by
  match hK : kindsOf l l.length, h with
  | [v], _ =>
    obtain ⟨k, hk, rfl, hpos⟩ := kindsOf_mem.1 (show v ∈ kindsOf l l.length by rw [hK]; simp)
    refine ⟨k, hk, ?_⟩
    have hz : ∀ j, j < l.length → j ≠ k → l.getD j 0 = 0 := by
      intro j hj hne
      by_cases h0 : 0 < l.getD j 0
      · have := kindsOf_mem.2 ⟨j, hj, rfl, h0⟩
        rw [hK] at this
        simp at this; omega
      · have := hp _ (getD_mem hj); omega
    rw [sumI_sumR]
    have key : ∀ n, n ≤ l.length → sumR (fun j => l.getD j 0) n = if k < n then l.getD k 0 else 0 := by
      intro n
      induction n with
      | zero => intro _; rfl
      | succ n ih =>
        intro hn
        rw [sumR_succ, ih (by omega)]
        by_cases h1 : k < n
        · rw [if_pos h1, if_pos (by omega), hz n (by omega) (by omega)]; omega
        · rw [if_neg h1]
          by_cases h2 : n = k
          · subst h2; rw [if_pos (by omega)]; omega
          · rw [if_neg (by omega), hz n (by omega) h2]; rfl
    rw [key _ (Nat.le_refl _), if_pos hk]
theorem left_le {c L : List Int} {i : Nat} (m : Nat) (hm : m < c.length) : (leftTo c L i).getD m 0 ≤ c.getD m 0 := by rw [left_get _ _ hm]; omega
theorem sure_le {c L : List Int} {d i : Nat} (hz : chkS c d = 0) (h : CourseOk c d L) (hi : i < d) (h1 : (kindsOf (leftTo c L i) c.length).length = 1) : (d : Int) - i ≤ mostN c d := by
  have hk := chkS_ok hz
  have hc : ∀ x ∈ c, 0 ≤ x := fun x hx => by have := okCounts_mem hk.2.2.1 x hx; omega
  obtain ⟨k, hk1, hk2⟩ := kinds_one (l := leftTo c L i) (left_course hc h i) (by rw [leftTo_len]; exact h1)
  rw [leftTo_len] at hk1
  have h2 := left_le (L := L) (i := i) k hk1
  have h3 := left_sum h i (by omega)
  have h4 := mxC_ge (getD_mem hk1)
  unfold mostN; omega
theorem kinds_all {l : List Int} (hp : ∀ x ∈ l, 1 ≤ x) : ∀ j, j ≤ l.length → (kindsOf l j).length = j := by
  intro j
  induction j with
  | zero => intro _; rfl
  | succ j ih =>
    intro hj
    have := hp _ (getD_mem (l := l) (i := j) (by omega))
    rw [kindsOf_succ, if_pos (by omega), List.length_append, ih (by omega)]; rfl
theorem mx_lt_sum {c : List Int} (h1 : ∀ x ∈ c, 1 ≤ x) (h2 : 2 ≤ c.length) : mxC c + 1 ≤ sumI c := by
  have hm := mxC_mem (l := c) (by omega) (fun x hx => by have := h1 x hx; omega)
  obtain ⟨k, hk, hke⟩ := List.getElem_of_mem hm
  have hg : c.getD k 0 = mxC c := by rw [getD_of_get (List.getElem?_eq_getElem hk)]; exact hke
  have hs := sumI_set hk 0
  obtain ⟨j, hj, hjk⟩ : ∃ j, j < c.length ∧ j ≠ k := by
    by_cases h0 : k = 0
    · exact ⟨1, by omega, by omega⟩
    · exact ⟨0, by omega, by omega⟩
  have hv : (c.set k 0).getD j 0 = c.getD j 0 := by
    simp only [List.getD_eq_getElem?_getD, List.getElem?_set]
    rw [if_neg (by omega)]
  have h3 := sum_ge_mem (c := c.set k 0) (fun x hx => by
    rcases List.mem_or_eq_of_mem_set hx with hx | rfl
    · have := h1 x hx; omega
    · omega) _ (getD_mem (l := c.set k 0) (i := j) (by rw [List.length_set]; exact hj))
  have h4 := h1 _ (getD_mem hj)
  omega
/-- sure from the start, just if one kind is there -/
theorem sure_start {c L : List Int} {d : Nat} (hz : chkS c d = 0) : (mostN c d = d) ↔ (kindsOf (leftTo c L 0) c.length).length = 1 := by
  have hk := chkS_ok hz
  have hc : ∀ x ∈ c, 1 ≤ x := fun x hx => by have := okCounts_mem hk.2.2.1 x hx; omega
  rw [show leftTo c L 0 = c from rfl, kinds_all hc _ (Nat.le_refl _)]
  constructor
  · intro h
    by_cases h2 : 2 ≤ c.length
    · have := mx_lt_sum hc h2; unfold mostN at h; omega
    · omega
  · intro h
    match c, h, hc, hk with
    | [a], _, hc, hk =>
      have ha := hc a (by simp)
      have : sumI [a] = a := by rw [sumI_cons]; simp
      have h2 : mxC [a] = a := by unfold mxC; simp; omega
      unfold mostN; rw [this, h2]; omega

/-! ### All packets of the other kinds -/
def othTo (c : List Int) (k : Nat) : Nat → List Int
  | 0 => []
  | j + 1 => if j = k then othTo c k j else othTo c k j ++ List.replicate (c.getD j 0).toNat (j : Int)
theorem othTo_mem {c : List Int} {k j : Nat} : ∀ x ∈ othTo c k j, 0 ≤ x ∧ x < j := by
  induction j with
  | zero => simp [othTo]
  | succ j ih =>
    intro x hx
    simp only [othTo] at hx
    split at hx
    · have := ih x hx; omega
    · rcases List.mem_append.1 hx with hx | hx
      · have := ih x hx; omega
      · rw [(List.mem_replicate.1 hx).2]; omega
theorem othTo_count (c : List Int) (k m j : Nat) : (othTo c k j).countP (fun x => x.toNat == m) = if m < j ∧ m ≠ k then (c.getD m 0).toNat else 0 := by
  induction j with
  | zero => simp [othTo]
  | succ j ih =>
    simp only [othTo]
    by_cases hj : j = k
    · rw [if_pos hj, ih]
      by_cases h1 : m < j ∧ m ≠ k
      · rw [if_pos h1, if_pos (by omega)]
      · rw [if_neg h1, if_neg (by omega)]
    · rw [if_neg hj, List.countP_append, ih, List.countP_replicate]
      by_cases h1 : m < j ∧ m ≠ k
      · rw [if_pos h1, if_neg (by simp; omega), if_pos (by omega)]; rfl
      · rw [if_neg h1]
        by_cases h2 : j = m
        · subst h2; rw [if_pos (by simp), if_pos (by omega)]; omega
        · rw [if_neg (by simp; omega), if_neg (by omega)]
theorem othTo_len {c : List Int} (h : ∀ x ∈ c, 0 ≤ x) (k j : Nat) (hj : j ≤ c.length) : ((othTo c k j).length : Int) = sumI (c.take j) - if k < j then c.getD k 0 else 0 := by
  induction j with
  | zero => simp [othTo]
  | succ j ih =>
    have h0 := h _ (getD_mem (l := c) (i := j) (by omega))
    rw [take_of_get (get_getD (l := c) (i := j) (by omega)), sumI_snoc]
    have ih := ih (by omega)
    simp only [othTo]
    by_cases hjk : j = k
    · subst hjk
      rw [if_neg (by omega)] at ih
      rw [if_pos rfl, if_pos (by omega), ih]; omega
    · rw [if_neg hjk, List.length_append, List.length_replicate]
      by_cases h1 : k < j
      · rw [if_pos h1] at ih
        rw [if_pos (by omega)]; omega
      · rw [if_neg h1] at ih
        rw [if_neg (by omega)]; omega
theorem othTo_all {c : List Int} (h : ∀ x ∈ c, 0 ≤ x) {k : Nat} (hk : k < c.length) : ((othTo c k c.length).length : Int) = sumI c - c.getD k 0 := by
  rw [othTo_len h k _ (Nat.le_refl _), List.take_length, if_pos hk]
theorem restE_oth {c : List Int} {d k : Nat} (hz : chkS c d = 0) (hk : k < c.length) (hle : sumI c - c.getD k 0 ≤ d) : ∃ K, restE c d (othTo c k c.length) = (K, (d : Int) - (sumI c - c.getD k 0), 0) := by
  have hok := chkS_ok hz
  have hc1 : ∀ x ∈ c, 1 ≤ x := fun x hx => by have := okCounts_mem hok.2.2.1 x hx; omega
  have hc : ∀ x ∈ c, 0 ≤ x := fun x hx => by have := hc1 x hx; omega
  have hl := othTo_all hc hk
  generalize hS : othTo c k c.length = S at hl
  have hcnt : ∀ m, S.countP (fun x => x.toNat == m) = if m < c.length ∧ m ≠ k then (c.getD m 0).toNat else 0 := fun m => by rw [← hS]; exact othTo_count c k m c.length
  have hin : inK c S = true := by
    unfold inK
    rw [List.all_eq_true]
    intro x hx
    rw [← hS] at hx
    have := othTo_mem x hx
    simp; omega
  have hget : ∀ m, m < c.length → (leftTo c S S.length).getD m 0 = if m = k then c.getD m 0 else 0 := by
    intro m hm
    rw [left_get _ _ hm, List.take_length, hcnt]
    have := hc _ (getD_mem hm)
    by_cases h1 : m = k
    · rw [if_pos h1, if_neg (by omega)]; omega
    · rw [if_neg h1, if_pos (by omega)]; omega
  have hneg : negB (restTo c S S.length) = false := by
    rw [leftTo_pad hin, negB_pad]
    cases e : negB (leftTo c S S.length) with
    | false => rfl
    | true =>
      obtain ⟨m, hm, h1⟩ := negB_yes e
      rw [leftTo_len] at hm
      rw [hget m hm] at h1
      have := hc _ (getD_mem hm)
      split at h1 <;> omega
  by_cases he : (S.length : Int) = d
  · refine ⟨[], ?_⟩
    unfold restE
    rw [if_neg (by omega), if_neg (by omega), if_neg (by rw [hin]; simp), if_neg (by rw [hneg]; simp), if_pos he]
    congr 2; omega
  · have hK : kindsOf (restTo c S S.length) 6 = [(k : Int)] := by
      rw [leftTo_pad hin, kindsOf_pad (by rw [leftTo_len]; omega), leftTo_len]
      have key : ∀ j, j ≤ c.length → kindsOf (leftTo c S S.length) j = if k < j then [(k : Int)] else [] := by
        intro j
        induction j with
        | zero => intro _; rfl
        | succ j ih =>
          intro hj
          have := hc1 _ (getD_mem (l := c) (i := j) (by omega))
          rw [kindsOf_succ, hget j (by omega), ih (by omega)]
          by_cases h1 : j = k
          · subst h1; rw [if_pos rfl, if_pos (by omega), if_neg (by omega), if_pos (by omega)]; rfl
          · rw [if_neg h1, if_neg (by omega)]
            by_cases h2 : k < j
            · rw [if_pos h2, if_pos (by omega)]
            · rw [if_neg h2, if_neg (by omega)]
      rw [key _ (Nat.le_refl _), if_pos hk]
    refine ⟨[(k : Int)], ?_⟩
    unfold restE
    rw [if_neg (by omega), if_neg (by omega), if_neg (by rw [hin]; simp), if_neg (by rw [hneg]; simp), if_neg he, hK, if_pos (show [(k : Int)].length = 1 from rfl), hl]

/-! ### A round of the statement -/
structure CountRound (c L : List Int) (d i : Nat) (K : List Int) (S : Int) (T : Nat → Nat) : Prop where
  ans : restE c d (L.take i) = (K, S, 0)
  t0 : T 0 = 0
  ts : ∀ (k : Nat) v, (leftTo c L i)[k]? = some v → T (k + 1) = if 0 < v ∧ i < d then T k + 1 else T k
  tl : ∀ k, T k ≤ k
  tn : T c.length = K.length
  has : ∀ (k : Nat) v, (leftTo c L i)[k]? = some v → K.contains (k : Int) = (decide (0 < v) && decide (i < d))
  sure : S = if T c.length = 1 then (d : Int) - i else 0
  most : 0 ≤ S ∧ S ≤ mostN c d
  start : i = 0 → ((cntV (mostN c d) d == 1) = (S == d))
theorem cntV_one {m d : Int} : (cntV m d == 1) = (m == d) := by
  unfold cntV
  by_cases h : m = d
  · rw [if_pos h]; simp [h]
  · rw [if_neg h]
    by_cases h0 : m = 0
    · rw [if_pos h0]; simp [h]
    · rw [if_neg h0]; simp [h]
theorem cntV_two {m d : Int} (hd : 1 ≤ d) : (cntV m d == 2) = (m == 0) := by
  unfold cntV
  by_cases h : m = d
  · rw [if_pos h]; simp; omega
  · rw [if_neg h]
    by_cases h0 : m = 0
    · rw [if_pos h0]; simp [h0]
    · rw [if_neg h0]; simp [h0]
theorem count_round {c L : List Int} {d i : Nat} (hz : chkS c d = 0) (h : CourseOk c d L) (hi : i ≤ d) : ∃ K S T, CountRound c L d i K S T := by
  have hk := chkS_ok hz
  have hmb := mostN_bd hz
  by_cases hlt : i < d
  · have hr := restE_course hz h hlt
    refine ⟨kindsOf (leftTo c L i) c.length, _, fun k => (kindsOf (leftTo c L i) k).length, ⟨hr, rfl, ?_, fun k => kindsOf_len _ k, rfl, ?_, rfl, ?_, ?_⟩⟩
    · intro k v hv
      simp only [kindsOf_succ]
      rw [getD_of_get hv]
      by_cases h0 : 0 < v
      · rw [if_pos h0, if_pos ⟨h0, hlt⟩]; simp
      · rw [if_neg h0, if_neg (by omega)]
    · intro k v hv
      have hkl : k < c.length := by have := (List.getElem?_eq_some_iff.1 hv).1; rwa [leftTo_len] at this
      rw [decide_eq_true hlt, Bool.and_true, Bool.eq_iff_iff, List.contains_iff_mem, decide_eq_true_eq, kindsOf_mem]
      constructor
      · rintro ⟨j, hj, e, h0⟩
        have : j = k := by omega
        subst this
        rwa [getD_of_get hv] at h0
      · intro h0
        exact ⟨k, hkl, rfl, by rw [getD_of_get hv]; exact h0⟩
    · by_cases h1 : (kindsOf (leftTo c L i) c.length).length = 1
      · rw [if_pos h1]
        have := sure_le hz h hlt h1
        omega
      · rw [if_neg h1]; omega
    · intro h0
      subst h0
      rw [cntV_one]
      have hs := sure_start (L := L) (d := d) hz
      by_cases h1 : (kindsOf (leftTo c L 0) c.length).length = 1
      · rw [if_pos h1, hs.2 h1]; simp
      · rw [if_neg h1]
        have : ¬ mostN c d = d := fun e => h1 (hs.1 e)
        rw [Bool.eq_iff_iff]; simp only [beq_iff_eq]; omega
  · obtain rfl : i = d := by omega
    have hr := restE_course_end hz h
    refine ⟨[], 0, fun _ => 0, ⟨hr, rfl, ?_, fun k => Nat.zero_le _, rfl, ?_, ?_, by omega, fun h0 => by omega⟩⟩
    · intro k v _; rw [if_neg (by omega)]
    · intro k v _; rw [decide_eq_false hlt, Bool.and_false]; rfl
    · rw [if_neg (by omega)]
end Go.Proofs.Ytgnfkgmppeohoaa
