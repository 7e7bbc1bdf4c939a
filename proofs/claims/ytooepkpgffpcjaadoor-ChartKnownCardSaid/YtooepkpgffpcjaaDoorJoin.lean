/- Plain law: what is joined: the program's way, and the reference's way. -/
import Derived.Test.YtooepkpgffpcjaaDoorLat
namespace Go.Proofs.YtooepkpgffpcjaaDoor
open Go.RowKit

/-- all labels that are one become another one -/
def relb (f t : Int) (o : List Int) : List Int := o.map fun z => if z = f then t else z
theorem relb_length (f t : Int) (o : List Int) : (relb f t o).length = o.length := by simp [relb]
theorem relb_get (f t : Int) {o : List Int} {x : Nat} (hx : x < o.length) : (relb f t o).getD x 0 = if o.getD x 0 = f then t else o.getD x 0 := by
  refine getD_of_get ?_
  unfold relb
  rw [List.getElem?_map, get_getD hx]; rfl
def joinStep (b : List Int) (i : Nat) (o : List Int) (k : Nat) : List Int := if b.getD i 0 = b.getD k 0 then relb (o.getD i 0) (o.getD k 0) o else o
def joinRow (b : List Int) (o : List Int) (i : Nat) : List Int := (List.range i).foldl (joinStep b i) o
def joinTo (a b : List Int) (k : Nat) : List Int := (List.range k).foldl (joinRow b) a

structure JInv (a b o : List Int) (i k : Nat) : Prop where
  len : o.length = a.length
  sound : ∀ x y, x < a.length → y < a.length → o.getD x 0 = o.getD y 0 → Hang a b x y
  keepA : ∀ x y, x < a.length → y < a.length → a.getD x 0 = a.getD y 0 → o.getD x 0 = o.getD y 0
  keepB : ∀ x y, x < a.length → y < x → (x < i ∨ x = i ∧ y < k) → b.getD x 0 = b.getD y 0 → o.getD x 0 = o.getD y 0
theorem JInv.step {a b o : List Int} {i k : Nat} (h : JInv a b o i k) (hi : i < a.length) (hk : k < i) : JInv a b (joinStep b i o k) i (k + 1) := by
  unfold joinStep
  by_cases e : b.getD i 0 = b.getD k 0
  · rw [if_pos e]
    have hl := h.len
    have hg : ∀ x, x < a.length → (relb (o.getD i 0) (o.getD k 0) o).getD x 0 = if o.getD x 0 = o.getD i 0 then o.getD k 0 else o.getD x 0 := fun x hx => relb_get _ _ (by omega)
    have hik : Hang a b i k := Hang.one hi (by omega) (.inr e)
    have hmono : ∀ x y, x < a.length → y < a.length → o.getD x 0 = o.getD y 0 → (relb (o.getD i 0) (o.getD k 0) o).getD x 0 = (relb (o.getD i 0) (o.getD k 0) o).getD y 0 := fun x y hx hy exy => by
      rw [hg x hx, hg y hy, exy]
    refine ⟨by rw [relb_length, h.len], fun x y hx hy hxy => ?_, fun x y hx hy hxy => hmono x y hx hy (h.keepA x y hx hy hxy), fun x y hx hy hp hxy => ?_⟩
    · rw [hg x hx, hg y hy] at hxy
      split at hxy
      · rename_i e1
        split at hxy
        · rename_i e2
          exact h.sound x y hx hy (e1.trans e2.symm)
        · exact ((h.sound x i hx hi e1).trans hik).trans (h.sound k y (by omega) hy hxy)
      · split at hxy
        · rename_i e2
          exact ((h.sound x k hx (by omega) hxy).trans hik.symm).trans (h.sound i y hi hy e2.symm)
        · exact h.sound x y hx hy hxy
    · rcases hp with hp | ⟨rfl, hp⟩
      · exact hmono x y hx (by omega) (h.keepB x y hx hy (.inl hp) hxy)
      · rcases Nat.lt_or_ge y k with hlt | hge
        · exact hmono x y hx (by omega) (h.keepB x y hx hy (.inr ⟨rfl, hlt⟩) hxy)
        · obtain rfl : y = k := by omega
          rw [hg x hx, hg y (by omega), if_pos rfl]
          split
          · rfl
          · rfl
  · rw [if_neg e]
    refine ⟨h.len, h.sound, h.keepA, fun x y hx hy hp hxy => ?_⟩
    rcases hp with hp | ⟨rfl, hp⟩
    · exact h.keepB x y hx hy (.inl hp) hxy
    · rcases Nat.lt_or_ge y k with hlt | hge
      · exact h.keepB x y hx hy (.inr ⟨rfl, hlt⟩) hxy
      · obtain rfl : y = k := by omega
        exact absurd hxy e
theorem JInv.row {a b o : List Int} {i : Nat} (h : JInv a b o i 0) (hi : i < a.length) : JInv a b (joinRow b o i) (i + 1) 0 := by
  have key : ∀ k, k ≤ i → JInv a b ((List.range k).foldl (joinStep b i) o) i k := by
    intro k
    induction k with
    | zero => intro _; exact h
    | succ k ih => intro hk; rw [foldl_range_succ]; exact (ih (by omega)).step hi (by omega)
  have g := key i (Nat.le_refl _)
  refine ⟨g.len, g.sound, g.keepA, fun x y hx hy hp hxy => g.keepB x y hx hy ?_ hxy⟩
  rcases hp with hp | ⟨rfl, hp⟩
  · rcases Nat.lt_or_ge x i with h1 | h1
    · exact .inl h1
    · exact .inr ⟨by omega, by omega⟩
  · omega
theorem joinTo_inv (a b : List Int) (k : Nat) (hk : k ≤ a.length) : JInv a b (joinTo a b k) k 0 := by
  induction k with
  | zero => exact ⟨rfl, fun x y hx hy e => Hang.one hx hy (.inl e), fun _ _ _ _ e => e, fun x y _ _ hp => by omega⟩
  | succ k ih =>
    have e : joinTo a b (k + 1) = joinRow b (joinTo a b k) k := foldl_range_succ _ _ _
    rw [e]; exact (ih (by omega)).row (by omega)
theorem join_prog (a b : List Int) : Joined a b (joinTo a b a.length) := by
  have h := joinTo_inv a b a.length (Nat.le_refl _)
  refine ⟨h.len, fun i j hi hj => ⟨h.sound i j hi hj, fun hh => hang_eq h.keepA (fun x y hx hy e => ?_) hh⟩⟩
  rcases Nat.lt_trichotomy x y with hlt | rfl | hgt
  · exact (h.keepB y x hy hlt (.inl hy) e.symm).symm
  · rfl
  · exact h.keepB x y hx hgt (.inl hx) e
theorem relb_small {f t : Int} {o : List Int} {M : Int} (ho : ∀ v ∈ o, 0 ≤ v ∧ v < M) (ht : 0 ≤ t ∧ t < M) : ∀ v ∈ relb f t o, 0 ≤ v ∧ v < M := by
  intro v hv
  obtain ⟨z, hz, rfl⟩ := List.mem_map.1 hv
  split
  · exact ht
  · exact ho z hz

/-! ### The reference's way -/
def sm (L : List Int) : Nat := (L.map Int.toNat).sum
theorem sm_set {L : List Int} {k : Nat} {v : Int} (hk : k < L.length) (h : v.toNat < (L.getD k 0).toNat) : sm (L.set k v) < sm L := by
  induction L generalizing k with
  | nil => simp at hk
  | cons x L ih =>
    cases k with
    | zero =>
      simp only [List.set_cons_zero, sm, List.map_cons, List.sum_cons]
      have : (List.getD (x :: L) 0 0) = x := rfl
      rw [this] at h; omega
    | succ k =>
      have h' : v.toNat < (L.getD k 0).toNat := by simpa using h
      have := ih (k := k) (by simpa using hk) h'
      simp only [List.set_cons_succ, sm, List.map_cons, List.sum_cons] at this ⊢
      omega
/-- labels that are equal only where packets hang together -/
structure JRef (a b L : List Int) : Prop where
  len : L.length = a.length
  sound : ∀ x y, x < a.length → y < a.length → L.getD x 0 = L.getD y 0 → Hang a b x y
  small : ∀ v ∈ L, 0 ≤ v ∧ v < 9
theorem getD_set_i {l : List Int} {k : Nat} {v : Int} (hk : k < l.length) (x : Nat) : (l.set k v).getD x 0 = if k = x then v else l.getD x 0 := by
  simp only [List.getD_eq_getElem?_getD]
  by_cases e : k = x
  · subst e; rw [if_pos rfl, List.getElem?_set_self hk]; rfl
  · rw [if_neg e, List.getElem?_set_ne e]
theorem JRef.set_ {a b L : List Int} (h : JRef a b L) {i k : Nat} (hi : i < a.length) (hk : k < a.length) (e : a.getD i 0 = a.getD k 0 ∨ b.getD i 0 = b.getD k 0) : JRef a b (L.set k (L.getD i 0)) := by
  have hg : ∀ x, (L.set k (L.getD i 0)).getD x 0 = if k = x then L.getD i 0 else L.getD x 0 := getD_set_i (by rw [h.len]; exact hk)
  have hik := Hang.one hi hk e
  refine ⟨by rw [List.length_set, h.len], fun x y hx hy hxy => ?_, fun v hv => ?_⟩
  · rw [hg, hg] at hxy
    split at hxy
    · rename_i e1; subst e1
      split at hxy
      · rename_i e2; subst e2; exact .refl _
      · exact hik.symm.trans (h.sound i y hi hy hxy)
    · split at hxy
      · rename_i e2; subst e2; exact (h.sound x i hx hi hxy).trans hik
      · exact h.sound x y hx hy hxy
  · rcases List.mem_or_eq_of_mem_set hv with h1 | rfl
    · exact h.small v h1
    · exact h.small _ (getD_mem (by rw [h.len]; exact hi))
/-- nothing is to be done before (i, k) -/
def Still_ (a b L : List Int) (i k : Nat) : Prop := ∀ x y, x < a.length → y < a.length → (x < i ∨ x = i ∧ y < k) → (a.getD x 0 = a.getD y 0 ∨ b.getD x 0 = b.getD y 0) → ¬ L.getD x 0 < L.getD y 0
theorem join_ref {a b L : List Int} (h : JRef a b L) (hs : Still_ a b L a.length 0) : Joined a b L := by
  have key : ∀ x y, x < a.length → y < a.length → (a.getD x 0 = a.getD y 0 ∨ b.getD x 0 = b.getD y 0) → L.getD x 0 = L.getD y 0 := fun x y hx hy e => by
    have h1 := hs x y hx hy (.inl hx) e
    have h2 := hs y x hy hx (.inl hy) (by rcases e with e | e; exact .inl e.symm; exact .inr e.symm)
    omega
  exact ⟨h.len, fun i j hi hj => ⟨h.sound i j hi hj, fun hh => hang_eq (fun x y hx hy e => key x y hx hy (.inl e)) (fun x y hx hy e => key x y hx hy (.inr e)) hh⟩⟩
theorem JRef.start {a b : List Int} (ha : chk a = 0) : JRef a b a := ⟨rfl, fun _ _ hx hy e => Hang.one hx hy (.inl e), (chk_ok ha).2.2.1⟩
/-- Join's answer -/
noncomputable def joinE (a b : List Int) : List Int × Int := if chk2 a b ≠ 0 then ([], chk2 a b) else (joinL a b, 0)
/-- Meet's answer -/
def meetE (a b : List Int) : List Int × Int := if chk2 a b ≠ 0 then ([], chk2 a b) else (meetL a b, 0)
/-- Finer's answer -/
def finE (a b : List Int) : Bool × Int := if chk2 a b ≠ 0 then (false, chk2 a b) else (finB a b, 0)
theorem joinedL_length (a b : List Int) : (joinedL a b).length = a.length := (joinedL_of (join_prog a b)).1
theorem joinL_length (a b : List Int) : (joinL a b).length = a.length := by unfold joinL; rw [ofL_length, joinedL_length]
theorem chk_join {a b : List Int} (ha : chk a = 0) : chk (joinL a b) = 0 := by
  have := chk_ok ha
  exact chk_ofL (by rw [joinedL_length]; omega) (by rw [joinedL_length]; omega)
theorem joinL_eq (a b : List Int) {i j : Nat} (hi : i < a.length) (hj : j < a.length) : (joinL a b).getD i 0 = (joinL a b).getD j 0 ↔ Hang a b i j := by
  have h := joinedL_of (join_prog a b)
  rw [← h.2 i j hi hj]
  exact ((pat_ofL (joinedL a b)).2 i j (by rw [h.1]; exact hi) (by rw [h.1]; exact hj)).symm
end Go.Proofs.YtooepkpgffpcjaaDoor
