/- Walk: slices.Reverse, of the end of a block of numbers. -/
import Derived.Test.YtcmacejpoihhlaaMgF
import Derived.Test.YtcmacejpoihhlaaMgC
namespace Go.Proofs.Ytcmacejpoihhlaa
open Go.RowKit

def revAt (l : List Int) (o k : Nat) : List Int := (List.range k).foldl (fun r i => swapAt r (o + i) (l.length - 1 - i)) l
theorem revAt_succ (l : List Int) (o k : Nat) : revAt l o (k + 1) = swapAt (revAt l o k) (o + k) (l.length - 1 - k) := foldl_range_succ _ _ _
theorem revAt_len (l : List Int) (o k : Nat) : (revAt l o k).length = l.length := by
  induction k with
  | zero => rfl
  | succ k ih => rw [revAt_succ, swapAt_len, ih]
theorem revAt_get (l : List Int) (o k : Nat) (hk : 2 * k + o ≤ l.length) (m : Nat) (hm : m < l.length) : (revAt l o k).getD m 0 = if (o ≤ m ∧ m < o + k) ∨ l.length - k ≤ m then l.getD (o + (l.length - 1 - m)) 0 else l.getD m 0 := by
  induction k generalizing m with
  | zero => rw [if_neg (by omega)]; rfl
  | succ k ih =>
    have ih := ih (by omega)
    rw [revAt_succ, swapAt_get _ _ _ _ (by rw [revAt_len]; omega) (by rw [revAt_len]; omega)]
    by_cases h1 : l.length - 1 - k = m
    · rw [if_pos h1, if_pos (by omega), ih (o + k) (by omega), if_neg (by omega)]
      congr 1; omega
    · rw [if_neg h1]
      by_cases h2 : o + k = m
      · subst h2
        rw [if_pos rfl, if_pos (by omega), ih _ (by omega), if_neg (by omega)]
        congr 1; omega
      · rw [if_neg h2, ih m hm]
        by_cases h3 : (o ≤ m ∧ m < o + k) ∨ l.length - k ≤ m
        · rw [if_pos h3, if_pos (by omega)]
        · rw [if_neg h3, if_neg (by omega)]
theorem revAt_all (l : List Int) (o k : Nat) (ho : o ≤ l.length) (hk : 2 * k + o ≤ l.length) (hk2 : l.length ≤ 2 * k + 1 + o) : revAt l o k = l.take o ++ (l.drop o).reverse := by
  refine ext_getD2 (by rw [revAt_len, List.length_append, List.length_reverse, List.length_take, List.length_drop]; omega) fun m hm => ?_
  rw [revAt_len] at hm
  rw [revAt_get l o k hk m hm]
  have hr : (l.take o ++ (l.drop o).reverse).getD m 0 = if m < o then l.getD m 0 else l.getD (o + (l.length - 1 - m)) 0 := by
    simp only [List.getD_eq_getElem?_getD]
    by_cases h : m < o
    · rw [if_pos h, List.getElem?_append_left (by rw [List.length_take]; omega), List.getElem?_take, if_pos h]
    · rw [if_neg h, List.getElem?_append_right (by rw [List.length_take]; omega), List.length_take, List.getElem?_reverse (by rw [List.length_drop]; omega), List.getElem?_drop, List.length_drop]
      congr 2; omega
  rw [hr]
  by_cases h : (o ≤ m ∧ m < o + k) ∨ l.length - k ≤ m
  · rw [if_pos h]
    by_cases h2 : m < o
    · omega
    · rw [if_neg h2]
  · rw [if_neg h]
    by_cases h2 : m < o
    · rw [if_pos h2]
    · rw [if_neg h2]; congr 1; omega

set_option maxHeartbeats 1000000 in
theorem reverseB_any (g o n c : Nat) (l : List Int) (w : World) (h : Blk w g 3 (ints l).toArray) (hl : l.length = o + n) (hn : n ≤ 1000) (hi : ∀ v ∈ l, I64 v) :
    Calls Try.prog 105 #[.slice (some ⟨g, o, none⟩) n c] w fun e w' => e = .returned (.tuple #[]) ∧ Blk w' g 3 (ints (l.take o ++ (l.drop o).reverse)).toArray ∧ w.grownBy w' (some g) := by
  have HL := Lib.hid hl
  have HO := Lib.hid h
  clear h hl
  go_enter Try.func105, Try.ntmps105
  go_wp2
  go_loopw [2, 3] (fun a b wr => ∃ k : Nat, 2 * k ≤ n ∧ a = .int .i64 k ∧ b = .int .i64 ((n : Int) - 1 - k) ∧ Blk wr g 3 (ints (revAt l o k)).toArray ∧ w.grownBy wr (some g)) (fun a _ _ => n - (intOf a).toNat)
  case atStart => exact ⟨0, by omega, rfl, by simp, HO.out, World.grownBy.refl _ _⟩
  case round =>
    obtain ⟨k, hk, rfl, rfl, hown, hgr⟩ := hrel
    have HO2 := Lib.hid hown
    have HG := Lib.hid hgr
    clear hown hgr HO
    by_cases hlt : (k : Int) < (n : Int) - 1 - k
    · obtain ⟨j, hj⟩ : ∃ j : Nat, j = n - 1 - k := ⟨_, rfl⟩
      have hjI : (n : Int) - 1 - k = j := by omega
      have hrl := revAt_len l o k
      obtain ⟨u, hu⟩ : ∃ u, (revAt l o k)[o + k]? = some u := ⟨_, get_getD (by rw [hrl, HL.out]; omega)⟩
      obtain ⟨v, hv⟩ : ∃ v, (revAt l o k)[o + j]? = some v := ⟨_, get_getD (by rw [hrl, HL.out]; omega)⟩
      have hcu : wr.cell? ⟨g, o + k, none⟩ = some (.int .i64 u) := by rw [HO2.out.cell, ints_arr_get hu]
      have hcv : wr.cell? ⟨g, o + j, none⟩ = some (.int .i64 v) := by rw [HO2.out.cell, ints_arr_get hv]
      have hf1 := HO2.out.frozen (o + k)
      have hf2 := HO2.out.frozen (o + j)
      have HS : Hid (revAt l o (k + 1) = ((revAt l o k).set (o + k) v).set (o + j) u) := Lib.hid (by rw [revAt_succ, HL.out, show o + n - 1 - k = o + j by omega]; unfold swapAt; rw [getD_of_get hu, getD_of_get hv])
      have hne : k ≠ j := by omega
      have hkj : (k : Int) < j := by omega
      have hjn : (j : Int) < n := by omega
      have hk2 : (k : Int) < n := by omega
      have hjn2 : j < n := by omega
      have hkk : 2 * (k + 1) ≤ n ∧ (j : Int) - 1 = (n : Int) - 1 - ((k + 1 : Nat) : Int) := by omega
      have HKK := Lib.hid hkk
      rw [hjI]
      clear hjI hj hlt hu hv hrl hkk
      go_wp2_with fail
      go_region
      go_wp2
      go_roundw
      case rel =>
        have hk3 := HKK.out.1
        refine ⟨k + 1, hk3, by go_num, by rw [HKK.out.2], by rw [HS.out, ← ints_arr_set, ← ints_arr_set]; exact ((HO2.out.set_ (o + k) (.int .i64 v)).set_ (o + j) (.int .i64 u)).drew, ?_⟩
        have h9 := grown_trans (grown_trans HG.out (grown_set wr g (o + k) (.int .i64 v))) (grown_set _ g (o + j) (.int .i64 u))
        exact ⟨h9.os, h9.tape, h9.output, h9.size, h9.block⟩
      case measure => simp [intOf]; omega
    · have HR : Hid (revAt l o k = l.take o ++ (l.drop o).reverse) := Lib.hid (revAt_all l o k (by rw [HL.out]; omega) (by rw [HL.out]; omega) (by rw [HL.out]; omega))
      go_wp2
      go_end0
      exact ⟨rfl, by rw [← HR.out]; exact HO2.out, HG.out⟩
end Go.Proofs.Ytcmacejpoihhlaa
