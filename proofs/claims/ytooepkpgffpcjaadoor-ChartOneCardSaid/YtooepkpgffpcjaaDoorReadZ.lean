/- Plain law: the chart of a partition is read as this partition; what is read is drawn as it was. -/
import Derived.Test.YtooepkpgffpcjaaDoorReadW
import Derived.Test.YtooepkpgffpcjaaDoorLawRows
namespace Go.Proofs.YtooepkpgffpcjaaDoor
open Go.RowKit

theorem trim_nl (x : List UInt8) : Lib.trimSuffix (x ++ [10]) [10] = x := by
  unfold Lib.trimSuffix
  have h : Lib.hasSuffix (x ++ [10]) [10] = true := by
    unfold Lib.hasSuffix
    rw [List.isSuffixOf_iff_suffix]
    exact ⟨x, rfl⟩
  rw [if_pos h]
  simp
theorem cutNl_text {l : List Int} (L : List Bar) (h0 : 1 ≤ l.length) (k : Nat) : cutNl (Lib.trimSuffix (textTo l L (k + 1)) [10]) = (List.range (k + 1)).map (fun (r : Nat) => rowTo l L ((r : Int) + 1) l.length) := by
  rw [textTo_succ, ← List.append_assoc, trim_nl]
  have hr := (rowTo_get (l := l) L ((k : Int) + 1) l.length (Nat.le_refl _) h0).2.2
  have h1 := rowsF_text (l := l) L h0 k
  have h2 : rowsF (textTo l L k ++ rowTo l L ((k : Int) + 1) l.length) = (((List.range k).map (fun (r : Nat) => rowTo l L ((r : Int) + 1) l.length)), rowTo l L ((k : Int) + 1) l.length) := by
    unfold rowsF at h1 ⊢
    rw [List.foldl_append, h1, rowsF_run _ hr]; simp
  unfold cutNl
  rw [h2, List.range_succ, List.map_append]; rfl
theorem most_bd {p : List Int} (h : chk p = 0) : 0 ≤ mostOf (barsTo p p.length) ∧ mostOf (barsTo p p.length) ≤ 9 := by
  obtain ⟨most, h9, _, hR, _⟩ := rows_are h
  have := hR.deep
  unfold levL at this
  rw [deep_most] at this
  omega
theorem draw_rows {p : List Int} (h : chk p = 0) : cutNl (Lib.trimSuffix (drawT p) [10]) = rowsL p ∧ (drawT p).length ≤ 400 := by
  have hn := chk_ok h
  have hm := most_bd h
  refine ⟨cutNl_text _ hn.1 _, ?_⟩
  have h1 := textTo_len p (barsTo p p.length) ((mostOf (barsTo p p.length)).toNat + 1)
  have h2 : ((mostOf (barsTo p p.length)).toNat + 1) * (2 * p.length + 1) ≤ 10 * 19 := Nat.mul_le_mul (by omega) (by omega)
  show (textTo p _ _).length ≤ 400
  omega
theorem draw_190 {p : List Int} (h : chk p = 0) : (drawT p).length ≤ 190 := by
  have hn := chk_ok h
  have hm := most_bd h
  have h1 := textTo_len p (barsTo p p.length) ((mostOf (barsTo p p.length)).toNat + 1)
  have h2 : ((mostOf (barsTo p p.length)).toNat + 1) * (2 * p.length + 1) ≤ 10 * 19 := Nat.mul_le_mul (by omega) (by omega)
  show (textTo p _ _).length ≤ 190
  omega
theorem readP_chart {p : List Int} (h : chk p = 0) : readP (drawT p) = (p, 0) := by
  obtain ⟨h1, h2⟩ := draw_rows h
  have hn := chk_ok h
  have hl : (rowsL p).length = (mostOf (barsTo p p.length)).toNat + 1 := by unfold rowsL; simp
  have hS : ∀ S ∈ rowsL p, S.length = 2 * p.length - 1 := by
    intro S hS
    obtain ⟨j, hj, e⟩ := List.getElem_of_mem hS
    exact (rowsL_get h (by rw [List.getElem?_eq_getElem hj, e])).len
  have h0 : ((rowsL p).getD 0 []).length = 2 * p.length - 1 := by
    obtain ⟨S, hS0⟩ : ∃ S, (rowsL p)[0]? = some S := ⟨(rowsL p)[0]'(by omega), List.getElem?_eq_getElem _⟩
    rw [List.getD_eq_getElem?_getD, hS0]
    exact hS S (List.mem_of_getElem? hS0)
  unfold readP
  rw [if_neg (by omega)]
  simp only
  rw [h1, h0, if_neg (by omega), if_neg (by rintro ⟨S, hm, hne⟩; exact hne (hS S hm)), show (2 * p.length - 1 + 1) / 2 = p.length by omega]
  obtain ⟨L, hL, _⟩ := labsF_chart h p.length (Nat.le_refl _)
  rw [hL]
  simp only
  have := labs_pat h hL
  have e : L.map en = L.map fun x => x.1 * 1000 + x.2 := rfl
  rw [e, this, if_pos rfl]
theorem labsF_len {RL : List (List UInt8)} : ∀ {n : Nat} {L : List (Int × Int)}, labsF RL n = some L → L.length = n := by
  intro n
  induction n with
  | zero => intro L h; unfold labsF at h; injection h with h; subst h; rfl
  | succ n ih =>
    intro L h
    unfold labsF at h
    split at h
    · cases h
    · rename_i l hl
      split at h
      · cases h
      · injection h with h
        subst h
        simp [ih hl]
/-- what the program's reader answers -/
theorem readP_says (t : List UInt8) : (∃ p, chk p = 0 ∧ drawT p = t ∧ readP t = (p, 0)) ∨ (readP t = ([], 3) ∧ t.length ≤ 400) ∨ (readP t = ([], 5) ∧ 400 < t.length) := by
  unfold readP
  by_cases h1 : 400 < t.length
  · rw [if_pos h1]; exact .inr (.inr ⟨rfl, h1⟩)
  rw [if_neg h1]
  simp only
  split
  · exact .inr (.inl ⟨rfl, by omega⟩)
  rename_i hw
  split
  · exact .inr (.inl ⟨rfl, by omega⟩)
  split
  · exact .inr (.inl ⟨rfl, by omega⟩)
  · rename_i L hL
    have hl := labsF_len hL
    by_cases h2 : drawT (ofL (L.map en)) = t
    · rw [if_pos h2]
      exact .inl ⟨_, chk_ofL (by rw [List.length_map]; omega) (by rw [List.length_map]; omega), h2, rfl⟩
    · rw [if_neg h2]; exact .inr (.inl ⟨rfl, by omega⟩)
theorem drawT_inj {p q : List Int} (hp : chk p = 0) (hq : chk q = 0) (h : drawT p = drawT q) : p = q := by
  have h1 := readP_chart hp
  rw [h, readP_chart hq] at h1
  injection h1 with h1
  exact h1.symm
end Go.Proofs.YtooepkpgffpcjaaDoor
