/- Walk: slices.Reverse, of an own slice of numbers. -/
import Derived.IntWalk
import Derived.Test.YtcmacejpoihhlaaMgB
import Derived.Test.YtcmacejpoihhlaaMgD
namespace Go.Proofs.Ytcmacejpoihhlaa
open Go.RowKit

def swapAt (l : List Int) (i j : Nat) : List Int := (l.set i (l.getD j 0)).set j (l.getD i 0)
def revTo (l : List Int) (k : Nat) : List Int := (List.range k).foldl (fun r i => swapAt r i (l.length - 1 - i)) l
theorem revTo_succ (l : List Int) (k : Nat) : revTo l (k + 1) = swapAt (revTo l k) k (l.length - 1 - k) := foldl_range_succ _ _ _
theorem swapAt_len (l : List Int) (i j : Nat) : (swapAt l i j).length = l.length := by simp [swapAt]
theorem revTo_len (l : List Int) (k : Nat) : (revTo l k).length = l.length := by
  induction k with
  | zero => rfl
  | succ k ih => rw [revTo_succ, swapAt_len, ih]
theorem getD_setV (l : List Int) (i j : Nat) (v : Int) (hi : i < l.length) : (l.set i v).getD j 0 = if i = j then v else l.getD j 0 := by
  simp only [List.getD_eq_getElem?_getD, List.getElem?_set]
  by_cases h : i = j
  · rw [if_pos h, if_pos h, if_pos hi]; rfl
  · rw [if_neg h, if_neg h]
theorem swapAt_get (l : List Int) (i j m : Nat) (hi : i < l.length) (hj : j < l.length) : (swapAt l i j).getD m 0 = if j = m then l.getD i 0 else if i = m then l.getD j 0 else l.getD m 0 := by
  unfold swapAt
  rw [getD_setV _ _ _ _ (by rw [List.length_set]; exact hj), getD_setV _ _ _ _ hi]
theorem revTo_get (l : List Int) (k : Nat) (hk : 2 * k ≤ l.length) (m : Nat) (hm : m < l.length) : (revTo l k).getD m 0 = if m < k ∨ l.length - k ≤ m then l.getD (l.length - 1 - m) 0 else l.getD m 0 := by
  induction k generalizing m with
  | zero => rw [if_neg (by omega)]; rfl
  | succ k ih =>
    have ih := ih (by omega)
    rw [revTo_succ, swapAt_get _ _ _ _ (by rw [revTo_len]; omega) (by rw [revTo_len]; omega)]
    by_cases h1 : l.length - 1 - k = m
    · rw [if_pos h1, if_pos (by omega), ih k (by omega), if_neg (by omega)]
      congr 1; omega
    · rw [if_neg h1]
      by_cases h2 : k = m
      · subst h2
        rw [if_pos rfl, if_pos (by omega), ih _ (by omega), if_neg (by omega)]
      · rw [if_neg h2, ih m hm]
        by_cases h3 : m < k ∨ l.length - k ≤ m
        · rw [if_pos h3, if_pos (by omega)]
        · rw [if_neg h3, if_neg (by omega)]
theorem ext_getD2 {a b : List Int} (h : a.length = b.length) (hg : ∀ m, m < a.length → a.getD m 0 = b.getD m 0) : a = b := by
  apply List.ext_getElem?
  intro m
  by_cases hm : m < a.length
  · rw [get_getD hm, get_getD (l := b) (by omega), hg m hm]
  · rw [List.getElem?_eq_none (by omega), List.getElem?_eq_none (by omega)]
theorem revTo_all (l : List Int) (k : Nat) (hk : 2 * k ≤ l.length) (hk2 : l.length ≤ 2 * k + 1) : revTo l k = l.reverse := by
  refine ext_getD2 (by rw [revTo_len, List.length_reverse]) fun m hm => ?_
  rw [revTo_len] at hm
  rw [revTo_get l k hk m hm]
  have hr : l.reverse.getD m 0 = l.getD (l.length - 1 - m) 0 := by
    simp only [List.getD_eq_getElem?_getD]
    rw [List.getElem?_reverse hm]
  rw [hr]
  by_cases h : m < k ∨ l.length - k ≤ m
  · rw [if_pos h]
  · rw [if_neg h]; congr 1; omega

set_option maxHeartbeats 1000000 in
theorem reverse_any (g n c : Nat) (l : List Int) (w : World) (base : Nat) (h : OwnI w base 3 (some ⟨g, 0, none⟩) n c l) (hn : n ≤ 1000) :
    Calls Try.prog 105 #[.slice (some ⟨g, 0, none⟩) n c] w fun e w' => e = .returned (.tuple #[]) ∧ OwnI w' base 3 (some ⟨g, 0, none⟩) n c l.reverse ∧ w.grownBy w' (some g) := by
  have hlen := h.len
  have HL := Lib.hid hlen
  have HO := Lib.hid h
  clear h hlen
  go_enter Try.func105, Try.ntmps105
  go_wp2
  go_loopw [2, 3] (fun a b wr => ∃ k : Nat, 2 * k ≤ n ∧ a = .int .i64 k ∧ b = .int .i64 ((n : Int) - 1 - k) ∧ OwnI wr base 3 (some ⟨g, 0, none⟩) n c (revTo l k) ∧ w.grownBy wr (some g)) (fun a _ _ => n - (intOf a).toNat)
  case atStart => exact ⟨0, by omega, rfl, by simp, HO.out, World.grownBy.refl _ _⟩
  case round =>
    obtain ⟨k, hk, rfl, rfl, hown, hgr⟩ := hrel
    have HO2 := Lib.hid hown
    have HG := Lib.hid hgr
    have hfz := hown.frozenAt
    clear hown hgr HO
    by_cases hlt : (k : Int) < (n : Int) - 1 - k
    · obtain ⟨j, hj⟩ : ∃ j : Nat, j = n - 1 - k := ⟨_, rfl⟩
      have hjI : (n : Int) - 1 - k = j := by omega
      have hrl := revTo_len l k
      obtain ⟨u, hu⟩ : ∃ u, (revTo l k)[k]? = some u := ⟨_, get_getD (by rw [hrl, HL.out]; omega)⟩
      obtain ⟨v, hv⟩ : ∃ v, (revTo l k)[j]? = some v := ⟨_, get_getD (by rw [hrl, HL.out]; omega)⟩
      have hcu := HO2.out.cellAt hu
      have hcv := HO2.out.cellAt hv
      have hf1 := hfz k
      have hf2 := hfz j
      have HU := Lib.hid (And.intro (HO2.out.2 u (List.mem_of_getElem? hu)) (HO2.out.2 v (List.mem_of_getElem? hv)))
      have HS : Hid (revTo l (k + 1) = ((revTo l k).set k v).set j u) := Lib.hid (by rw [revTo_succ, HL.out, ← hj]; unfold swapAt; rw [getD_of_get hu, getD_of_get hv])
      have hne : k ≠ j := by omega
      have hkj : (k : Int) < j := by omega
      have hjn : (j : Int) < n := by omega
      have hk2 : (k : Int) < n := by omega
      have hjn2 : j < n := by omega
      have hkk : 2 * (k + 1) ≤ n ∧ (j : Int) - 1 = (n : Int) - 1 - ((k + 1 : Nat) : Int) := by omega
      have HKK := Lib.hid hkk
      rw [hjI]
      clear hjI hj hlt hu hv hrl hfz hkk
      go_wp2_with fail
      go_region
      go_wp2
      go_roundw
      case rel =>
        have hk3 := HKK.out.1
        refine ⟨k + 1, hk3, by go_num, by rw [HKK.out.2], by rw [HS.out]; exact ((HO2.out.stored k HU.out.2).stored j HU.out.1).drew, ?_⟩
        have h9 := grown_trans (grown_trans HG.out (grown_set wr g k (.int .i64 v))) (grown_set _ g j (.int .i64 u))
        exact ⟨h9.os, h9.tape, h9.output, h9.size, h9.block⟩
      case measure => simp [intOf]; omega
    · have HR : Hid (revTo l k = l.reverse) := Lib.hid (revTo_all l k (by rw [HL.out]; exact hk) (by rw [HL.out]; omega))
      go_wp2
      go_end0
      exact ⟨rfl, by rw [← HR.out]; exact HO2.out, HG.out⟩
end Go.Proofs.Ytcmacejpoihhlaa
