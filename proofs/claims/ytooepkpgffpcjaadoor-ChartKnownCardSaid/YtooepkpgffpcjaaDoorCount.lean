/- Walks: Count and Parted, of the program and of the reference. -/
import Derived.Test.YtooepkpgffpcjaaDoorParts
import Derived.Test.YtooepkpgffpcjaaDoorRefMoves
namespace Go.Proofs.YtooepkpgffpcjaaDoor
open Go.RowKit

theorem within_any (n lo hi : Int) (w : World) : Calls Tryd.prog 91 #[.int .i64 n, .int .i64 lo, .int .i64 hi] w fun e w' => e = .returned (.bool (decide (lo ≤ n) && decide (n ≤ hi))) ∧ w = w' := by
  by_cases h1 : lo ≤ n
  · go_enter Tryd.func91, Tryd.ntmps91
    go_wp2
    go_ret
    exact ⟨ret_bool (by simp [h1]), rfl⟩
  · go_enter Tryd.func91, Tryd.ntmps91
    go_wp2
    go_ret
    exact ⟨ret_bool (by rw [decide_eq_false (show ¬ lo ≤ n by omega)]; rfl), rfl⟩

set_option maxHeartbeats 400000 in
theorem parted_any (n : Nat) : ∀ (b : Int) (w : World), n ≤ 9 → -100 ≤ b → b ≤ 100 → Calls Tryd.prog 94 #[.int .i64 n, .int .i64 b] w fun e w' => e = .returned (.int .i64 (partedR n b)) ∧ w = w' := by
  induction n with
  | zero =>
    intro b w _ h1 h2
    by_cases hb : b < 1
    · go_enter Tryd.func94, Tryd.ntmps94
      go_wp2
      go_ret
      exact ⟨rfl, rfl⟩
    · go_enter Tryd.func94, Tryd.ntmps94
      go_wp2
      go_ret
      exact ⟨rfl, rfl⟩
  | succ n ih =>
    intro b w hn h1 h2
    have IH := Lib.hid ih
    clear ih
    by_cases hb : b < 1
    · have HV : Hid (partedR (n + 1) b = 0) := by show partedR (n + 1) b = 0; unfold partedR; rw [if_pos (.inl hb)]
      go_enter Tryd.func94, Tryd.ntmps94
      go_wp2
      go_ret
      exact ⟨ret_int HV.out.symm, rfl⟩
    by_cases hb2 : (n : Int) + 1 < b
    · have HV : Hid (partedR (n + 1) b = 0) := by show partedR (n + 1) b = 0; unfold partedR; rw [if_pos (.inr hb2)]
      have g : ((n + 1 : Nat) : Int) < b := by omega
      go_enter Tryd.func94, Tryd.ntmps94
      go_wp2
      go_ret
      exact ⟨ret_int HV.out.symm, rfl⟩
    by_cases h0 : n = 0
    · subst h0
      have HV : Hid (partedR (0 + 1) b = 1) := by show partedR (0 + 1) b = 1; unfold partedR; rw [if_neg (by omega), if_pos rfl]
      have g : ¬ ((0 + 1 : Nat) : Int) < b := by omega
      go_enter Tryd.func94, Tryd.ntmps94
      go_wp2
      go_ret
      exact ⟨ret_int HV.out.symm, rfl⟩
    · have HV : Hid (partedR (n + 1) b = partedR n (b - 1) + b * partedR n b) := by
        show partedR (n + 1) b = _
        rw [partedR, if_neg (by omega), if_neg h0]
      have p1 := parted_bd n (by omega) (b - 1)
      have p2 := parted_bd n (by omega) b
      have hm0 : 0 ≤ b * partedR n b := Int.mul_nonneg (by omega) p2.1
      have hm1 : b * partedR n b ≤ 100 * partedR n b := Int.mul_le_mul_of_nonneg_right h2 p2.1
      have hm2 : b * partedR n b ≤ 100000000 := by omega
      have g : ¬ ((n + 1 : Nat) : Int) < b := by omega
      have g1 : (((n + 1 : Nat) : Int) == 1) = false := by simp; omega
      have g2 : ((n + 1 : Nat) : Int) - 1 = n := by omega
      have hb1 : -100 ≤ b - 1 := by omega
      clear hm1
      go_enter Tryd.func94, Tryd.ntmps94
      go_wp2_with fail
      refine (IH.out (b - 1) w (by omega) (by omega) (by omega)).mono ?_; rintro e w' ⟨rfl, rfl⟩
      go_wp2_with fail
      refine (IH.out b w (by omega) (by omega) (by omega)).mono ?_; rintro e w' ⟨rfl, rfl⟩
      go_wp2
      go_ret
      exact ⟨ret_int HV.out.symm, rfl⟩

set_option maxHeartbeats 400000 in
theorem refcount_any (n : Nat) (hn : n ≤ 9) (w : World) : Calls Tryd.prog 93 #[.int .i64 n] w fun e w' => e = .returned (.int .i64 (countR n)) ∧ w = w' := by
  go_enter Tryd.func93, Tryd.ntmps93
  go_wp2
  go_loop [3, 4] (fun s i => ∃ k : Nat, k ≤ n ∧ i = .int .i64 ((k : Int) + 1) ∧ s = .int .i64 (countTo n k)) (fun _ i => n + 1 - (intOf i).toNat)
  case atStart => exact ⟨0, by omega, rfl, rfl⟩
  case round =>
    obtain ⟨k, hk, rfl, rfl⟩ := hrel
    by_cases hlt : k < n
    · have HS := Lib.hid (countTo_succ n k)
      have hb := countTo_bd (show n < 10 by omega) k
      have hp := parted_bd n (by omega) ((k : Int) + 1)
      generalize countTo n k = s at HS hb ⊢
      have hs0 := hb.1
      have hs1 : s ≤ 10000000 := by omega
      clear hb
      go_wp2_with fail
      refine (parted_any n ((k : Int) + 1) w hn (by omega) (by omega)).mono ?_; rintro e w' ⟨rfl, rfl⟩
      go_wp2
      go_round
      case rel => exact ⟨k + 1, by omega, by go_num, by rw [HS.out]⟩
      case measure => simp [intOf]; omega
    · obtain rfl : k = n := by omega
      go_wp2
      go_ret
      exact ⟨rfl, rfl⟩

set_option maxHeartbeats 400000 in
theorem refCount_any (n : Int) (w : World) : Calls Tryd.prog 40 #[.int .i64 n] w (IntErr (countE n) w) := by
  by_cases h1 : n < 1
  · have HV : Hid (countE n = (0, 2)) := by show countE n = (0, 2); unfold countE; rw [if_pos (.inl h1)]
    go_enter Tryd.func40, Tryd.ntmps40
    go_wp2
    go_ret2
    refine ⟨?_, Below.refl _ _⟩
    rw [HV.out]
    rfl
  by_cases h2 : 9 < n
  · have HV : Hid (countE n = (0, 2)) := by show countE n = (0, 2); unfold countE; rw [if_pos (.inr h2)]
    go_enter Tryd.func40, Tryd.ntmps40
    go_wp2
    go_ret2
    refine ⟨?_, Below.refl _ _⟩
    rw [HV.out]
    rfl
  obtain ⟨m, rfl⟩ : ∃ m : Nat, n = m := ⟨n.toNat, by omega⟩
  have HV : Hid (countE m = (countR m, 0)) := by show countE m = _; unfold countE; rw [if_neg (by omega), Int.toNat_natCast]
  go_enter Tryd.func40, Tryd.ntmps40
  go_wp2_with fail
  refine (refcount_any m (by omega) w).mono ?_; rintro e w' ⟨rfl, rfl⟩
  go_wp2
  go_ret2
  refine ⟨?_, Below.refl _ _⟩
  rw [HV.out]
  rfl

set_option maxHeartbeats 400000 in
theorem refParted_any (n k : Int) (w : World) : Calls Tryd.prog 42 #[.int .i64 n, .int .i64 k] w (IntErr (partedE n k) w) := by
  by_cases h : n < 1 ∨ 9 < n ∨ k < 1 ∨ n < k
  · have HV : Hid (partedE n k = (0, 2)) := by show partedE n k = (0, 2); unfold partedE; rw [if_pos h]
    by_cases h1 : n < 1
    · clear h
      go_enter Tryd.func42, Tryd.ntmps42
      go_wp2
      go_ret2
      refine ⟨?_, Below.refl _ _⟩
      rw [HV.out]
      rfl
    by_cases h2 : 9 < n
    · clear h
      go_enter Tryd.func42, Tryd.ntmps42
      go_wp2
      go_ret2
      refine ⟨?_, Below.refl _ _⟩
      rw [HV.out]
      rfl
    by_cases h3 : k < 1
    · clear h
      go_enter Tryd.func42, Tryd.ntmps42
      go_wp2
      go_ret2
      refine ⟨?_, Below.refl _ _⟩
      rw [HV.out]
      rfl
    have h4 : n < k := by omega
    clear h
    go_enter Tryd.func42, Tryd.ntmps42
    go_wp2
    go_ret2
    refine ⟨?_, Below.refl _ _⟩
    rw [HV.out]
    rfl
  · have h1 : ¬ n < 1 := by omega
    have h2 : ¬ 9 < n := by omega
    have h3 : ¬ k < 1 := by omega
    have h4 : ¬ n < k := by omega
    have HV : Hid (partedE n k = (partedR n.toNat k, 0)) := by show partedE n k = _; unfold partedE; rw [if_neg h]
    clear h
    obtain ⟨m, rfl⟩ : ∃ m : Nat, n = m := ⟨n.toNat, by omega⟩
    go_enter Tryd.func42, Tryd.ntmps42
    go_wp2_with fail
    refine (parted_any m k w (by omega) (by omega) (by omega)).mono ?_; rintro e w' ⟨rfl, rfl⟩
    go_wp2
    go_ret2
    refine ⟨?_, Below.refl _ _⟩
    rw [HV.out]
    rfl

def endRowL (m : Nat) : List Int := (endL.drop (m * 11)).take 11
set_option maxRecDepth 100000 in
theorem endIdx (w : World) : ∀ m : Nat, 1 ≤ m → m < 10 → (Instr.index 90 (.agg (ints endL).toArray) (.int .i64 m)).run Tryd.prog w = .ok (.agg (ints (endRowL m)).toArray) w := by
  intro m h1 h2
  have h : m = 1 ∨ m = 2 ∨ m = 3 ∨ m = 4 ∨ m = 5 ∨ m = 6 ∨ m = 7 ∨ m = 8 ∨ m = 9 := by omega
  clear h1 h2
  rcases h with rfl | rfl | rfl | rfl | rfl | rfl | rfl | rfl | rfl <;> (show _ = _; kernel_rfl)
set_option maxRecDepth 100000 in
theorem endIdx0 (w : World) : ∀ m : Nat, 1 ≤ m → m < 10 → (Instr.index 88 (.agg (ints (endRowL m)).toArray) (.int .i64 0)).run Tryd.prog w = .ok (.int .i64 (countR m)) w := by
  intro m h1 h2
  have h : m = 1 ∨ m = 2 ∨ m = 3 ∨ m = 4 ∨ m = 5 ∨ m = 6 ∨ m = 7 ∨ m = 8 ∨ m = 9 := by omega
  clear h1 h2
  rcases h with rfl | rfl | rfl | rfl | rfl | rfl | rfl | rfl | rfl <;> (show _ = _; kernel_rfl)
set_option maxHeartbeats 1000000 in
set_option maxRecDepth 100000 in
theorem count_any (n : Int) (w : World) : Calls Tryd.prog 39 #[.int .i64 n] w (IntErr (countE n) w) := by
  by_cases h : n < 1 ∨ 9 < n
  · have HV : Hid (countE n = (0, 2)) := by show countE n = (0, 2); unfold countE; rw [if_pos h]
    have hw : (decide ((1 : Int) ≤ n) && decide (n ≤ 9)) = false := by simp; omega
    clear h
    go_enter Tryd.func39, Tryd.ntmps39
    go_wp2_with fail
    refine (within_any n 1 9 w).mono ?_; rintro e w' ⟨rfl, rfl⟩
    rw [hw]
    go_wp2
    go_ret2
    refine ⟨?_, Below.refl _ _⟩
    rw [HV.out]
    rfl
  · have hw : (decide ((1 : Int) ≤ n) && decide (n ≤ 9)) = true := by simp; omega
    obtain ⟨m, rfl⟩ : ∃ m : Nat, n = m := ⟨n.toNat, by omega⟩
    have HV : Hid (countE m = (countR m, 0)) := by show countE m = _; unfold countE; rw [if_neg h, Int.toNat_natCast]
    have hm1 : 1 ≤ m := by omega
    have hm9 : m < 10 := by omega
    clear h
    have HE := Lib.hid (endings_any w)
    have HI1 := Lib.hid fun w => endIdx w m hm1 hm9
    have HI2 := Lib.hid fun w => endIdx0 w m hm1 hm9
    generalize (ints endL).toArray = R at HE HI1
    generalize (ints (endRowL m)).toArray = R2 at HI1 HI2
    go_enter Tryd.func39, Tryd.ntmps39
    go_wp2_with fail
    refine (within_any m 1 9 w).mono ?_; rintro e w' ⟨rfl, rfl⟩
    rw [hw]
    go_wp2_with fail
    refine HE.out.mono ?_
    rintro e w1 ⟨rfl, hb1⟩
    have HB1 := Lib.hid hb1
    clear hb1
    have i1 := HI1.out w1
    have i2 := HI2.out w1
    go_wp2
    go_ret2
    refine ⟨?_, HB1.out⟩
    rw [HV.out]
    rfl
end Go.Proofs.YtooepkpgffpcjaaDoor
