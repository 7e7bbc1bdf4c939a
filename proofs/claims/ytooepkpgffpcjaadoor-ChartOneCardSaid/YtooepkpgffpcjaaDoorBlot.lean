/- Walk: a text changed at a place. -/
import Derived.Test.YtooepkpgffpcjaaDoorAwake
namespace Go.Proofs.YtooepkpgffpcjaaDoor
open Go.RowKit

theorem fit_val (x n : Int) (_hx : I64 x) (hn : 1 ≤ n) (hn2 : n ≤ 1000000) : ∃ r : Int, (0 ≤ r ∧ r < n) ∧ ∀ w, Calls Tryd.prog 55 #[.int .i64 x, .int .i64 n] w fun e w' => e = .returned (.int .i64 r) ∧ w = w' := by
  by_cases h1 : n < 2
  · refine ⟨0, ⟨by omega, by omega⟩, fun w => ?_⟩
    go_enter Tryd.func55, Tryd.ntmps55
    go_wp2
    go_ret
    exact ⟨rfl, rfl⟩
  have h2 : Int.tmod x n < n := Int.tmod_lt_of_pos x (by omega)
  have h3 : -n < Int.tmod x n := by
    have h := Int.tmod_lt_of_pos (-x) (show (0 : Int) < n by omega)
    rw [Int.neg_tmod] at h
    omega
  have hn0 : n ≠ 0 := by omega
  by_cases h : Int.tmod x n < 0
  · refine ⟨Int.tmod x n + n, ⟨by omega, by omega⟩, fun w => ?_⟩
    go_enter Tryd.func55, Tryd.ntmps55
    go_wp2
    go_ret
    exact ⟨rfl, rfl⟩
  · refine ⟨Int.tmod x n, ⟨by omega, by omega⟩, fun w => ?_⟩
    go_enter Tryd.func55, Tryd.ntmps55
    go_wp2
    go_ret
    exact ⟨rfl, rfl⟩
/-- a text of one byte more at most -/
def Blotted (s : ByteArray) (w : World) (e : Ending) (w' : World) : Prop := ∃ t : ByteArray, e = .returned (.string t) ∧ t.size ≤ s.size + 1 ∧ Below w.heap.size w w'
set_option maxHeartbeats 1000000 in
set_option maxRecDepth 100000 in
theorem blot_any (s : ByteArray) (at_ how c : Int) (w : World) (hs : s.size ≤ 1000) (ha : I64 at_) (hh : I64 how) : Calls Tryd.prog 60 #[.string s, .int .i64 at_, .int .i64 how, .int .u8 c] w (Blotted s w) := by
  by_cases h0 : s.size = 0
  · go_enter Tryd.func60, Tryd.ntmps60
    go_wp2
    go_ret
    exact ⟨s, rfl, by omega, Below.refl _ _⟩
  · have HF := Lib.hid (fit_val at_ s.size ha (by omega) (by omega))
    obtain ⟨r, ⟨hr0, hr1⟩, HF⟩ := HF.out
    have HF1 := Lib.hid HF
    clear HF
    obtain ⟨k, rfl⟩ : ∃ k : Nat, r = k := ⟨r.toNat, by omega⟩
    go_enter Tryd.func60, Tryd.ntmps60
    go_wp2_with fail
    refine (HF1.out w).mono ?_; rintro e w' ⟨rfl, rfl⟩
    go_wp2_with fail
    have hcell : ∀ i, i < 1 → (w.alloc (.cells #[.int .u8 c] 5)).cell? ⟨w.heap.size, 0 + i, none⟩ = some (.int .u8 ([c].getD i 0)) := by
      intro i hi
      obtain rfl : i = 0 := by omega
      simp
    have q := run_convert_bytes_arg (P := Tryd.prog) (w.alloc (.cells #[.int .u8 c] 5)) 99 5 Tryd.underlying99 Tryd.underlying5 w.heap.size 0 1 1 [c] rfl hcell 9 Tryd.underlying9
    rw [q]
    have hm1 : (strOfNums [c]).size = 1 := by simp [strOfNums, ByteArray.size]
    generalize strOfNums [c] = mo at hm1 ⊢
    have HB := Lib.hid ((Below.refl w.heap.size w).alloc (Nat.le_refl _) (.cells #[.int .u8 c] 5))
    clear q hcell
    generalize w.alloc (.cells #[.int .u8 c] 5) = W at HB ⊢
    simp only [Result.andThen]
    rw [Oper.upon_value]
    go_wp2_with fail
    obtain ⟨r, ⟨hr0', hr3⟩, HF⟩ := fit_val how 3 hh (by omega) (by omega)
    refine (HF W).mono ?_; rintro e w' ⟨rfl, rfl⟩
    clear HF
    have hks : (k : Int) ≤ s.size := by omega
    have hks1 : (k : Int) + 1 ≤ s.size := by omega
    by_cases e0 : r = 0
    · subst e0
      go_wp2_with fail
      go_quiet (fail)
      go_wp2
      go_ret
      refine ⟨_, rfl, ?_, below_drewN HB.out _⟩
      simp only [ByteArray.size_append, ByteArray.size_extract, hm1]
      omega
    · by_cases e1 : r = 1
      · subst e1
        go_wp2_with fail
        go_quiet (fail)
        go_wp2
        go_ret
        refine ⟨_, rfl, ?_, below_drewN HB.out _⟩
        simp only [ByteArray.size_append, ByteArray.size_extract]
        omega
      · obtain rfl : r = 2 := by omega
        go_wp2_with fail
        go_quiet (fail)
        go_wp2
        go_ret
        refine ⟨_, rfl, ?_, below_drewN HB.out _⟩
        simp only [ByteArray.size_append, ByteArray.size_extract, hm1]
        omega
end Go.Proofs.YtooepkpgffpcjaaDoor
