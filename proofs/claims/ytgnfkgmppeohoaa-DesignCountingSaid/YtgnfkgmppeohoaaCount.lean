/- Walks: Count and Parted, of the program and of the reference. -/
import Derived.Test.YtgnfkgmppeohoaaParts
import Derived.Test.YtgnfkgmppeohoaaRefMoves
namespace Go.Proofs.Ytgnfkgmppeohoaa
open Go.RowKit

theorem within_any (n lo hi : Int) (w : World) : Calls Try.prog 106 #[.int .i64 n, .int .i64 lo, .int .i64 hi] w fun e w' => e = .returned (.bool (decide (lo ≤ n) && decide (n ≤ hi))) ∧ w = w' := by
  by_cases h1 : lo ≤ n
  · go_enter Try.func106, Try.ntmps106
    go_wp2
    go_ret
    exact ⟨ret_bool (by simp [h1]), rfl⟩
  · go_enter Try.func106, Try.ntmps106
    go_wp2
    go_ret
    exact ⟨ret_bool (by rw [decide_eq_false (show ¬ lo ≤ n by omega)]; rfl), rfl⟩

def endRowL (m : Nat) : List Int := (endL.drop (m * 11)).take 11
set_option maxRecDepth 100000 in
theorem endIdx (w : World) : ∀ m : Nat, 1 ≤ m → m < 10 → (Instr.index 116 (.agg (ints endL).toArray) (.int .i64 m)).run Try.prog w = .ok (.agg (ints (endRowL m)).toArray) w := by
  intro m h1 h2
  have h : m = 1 ∨ m = 2 ∨ m = 3 ∨ m = 4 ∨ m = 5 ∨ m = 6 ∨ m = 7 ∨ m = 8 ∨ m = 9 := by omega
  clear h1 h2
  rcases h with rfl | rfl | rfl | rfl | rfl | rfl | rfl | rfl | rfl <;> (show _ = _; kernel_rfl)
set_option maxRecDepth 100000 in
theorem endIdx0 (w : World) : ∀ m : Nat, 1 ≤ m → m < 10 → (Instr.index 114 (.agg (ints (endRowL m)).toArray) (.int .i64 0)).run Try.prog w = .ok (.int .i64 (countR m)) w := by
  intro m h1 h2
  have h : m = 1 ∨ m = 2 ∨ m = 3 ∨ m = 4 ∨ m = 5 ∨ m = 6 ∨ m = 7 ∨ m = 8 ∨ m = 9 := by omega
  clear h1 h2
  rcases h with rfl | rfl | rfl | rfl | rfl | rfl | rfl | rfl | rfl <;> (show _ = _; kernel_rfl)
set_option maxHeartbeats 1000000 in
set_option maxRecDepth 100000 in
theorem count_any (n : Int) (w : World) : Calls Try.prog 50 #[.int .i64 n] w (IntErr (countE n) w) := by
  by_cases h : n < 1 ∨ 9 < n
  · have HV : Hid (countE n = (0, 2)) := by show countE n = (0, 2); unfold countE; rw [if_pos h]
    have hw : (decide ((1 : Int) ≤ n) && decide (n ≤ 9)) = false := by simp; omega
    clear h
    go_enter Try.func50, Try.ntmps50
    go_wp2_with fail
    refine (within_any n 1 9 w).mono ?_; rintro e w' ⟨rfl, rfl⟩
    rw [hw]
    go_wp2
    go_ret2
    refine ⟨?_, Below.refl _ _⟩
    rw [HV.out]
    rfl
  · have hw : (decide ((1 : Int) ≤ n) && decide (n ≤ 9)) = true := by simp; omega
    obtain ⟨m, rfl⟩ : ∃ m : Nat, n = m := ⟨n.toNat, by omega⟩
    have HV : Hid (countE m = (countR m, 0)) := by show countE m = _; unfold countE; rw [if_neg h, Int.toNat_natCast]
    have hm1 : 1 ≤ m := by omega
    have hm9 : m < 10 := by omega
    clear h
    have HE := Lib.hid (endings_any w)
    have HI1 := Lib.hid fun w => endIdx w m hm1 hm9
    have HI2 := Lib.hid fun w => endIdx0 w m hm1 hm9
    generalize (ints endL).toArray = R at HE HI1
    generalize (ints (endRowL m)).toArray = R2 at HI1 HI2
    go_enter Try.func50, Try.ntmps50
    go_wp2_with fail
    refine (within_any m 1 9 w).mono ?_; rintro e w' ⟨rfl, rfl⟩
    rw [hw]
    go_wp2_with fail
    refine HE.out.mono ?_
    rintro e w1 ⟨rfl, hb1⟩
    have HB1 := Lib.hid hb1
    clear hb1
    have i1 := HI1.out w1
    have i2 := HI2.out w1
    go_wp2
    go_ret2
    refine ⟨?_, HB1.out⟩
    rw [HV.out]
    rfl
end Go.Proofs.Ytgnfkgmppeohoaa
