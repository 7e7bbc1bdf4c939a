/- Walk: the statement DesignFair. -/
import Derived.Test.YtcmacejpoihhlaaMgR
import Derived.Test.YtcmacejpoihhlaaMgS
import Derived.Test.YtcmacejpoihhlaaMgM
namespace Go.Proofs.Ytcmacejpoihhlaa
open Go.RowKit

theorem fit12_any (x : Int) (w : World) (hx : I64 x) : Calls Try.prog 55 #[.int .i64 x, .int .i64 12] w fun e w' => (∃ r : Int, e = .returned (.int .i64 r) ∧ 0 ≤ r ∧ r < 12) ∧ w = w' := by
  unfold I64 at hx
  have h2 : Int.tmod x 12 < 12 := Int.tmod_lt_of_pos x (by omega)
  have h1 : -12 < Int.tmod x 12 := by
    have h := Int.tmod_lt_of_pos (-x) (show (0 : Int) < 12 by omega)
    rw [Int.neg_tmod] at h
    omega
  by_cases h : Int.tmod x 12 < 0
  · go_enter Try.func55, Try.ntmps55
    go_wp2
    go_ret
    exact ⟨⟨_, rfl, by show 0 ≤ Int.tmod x 12 + 12; omega, by show Int.tmod x 12 + 12 < 12; omega⟩, rfl⟩
  · go_enter Try.func55, Try.ntmps55
    go_wp2
    go_ret
    exact ⟨⟨_, rfl, by show 0 ≤ Int.tmod x 12; omega, by show Int.tmod x 12 < 12; omega⟩, rfl⟩

set_option maxHeartbeats 4000000 in
set_option maxRecDepth 100000 in
theorem designFair_any (x : Int) (w : World) (hx : I64 x) : Calls Try.prog 12 #[.int .i64 x] w fun e w' => e = .returned (.bool true) ∧ Below w.heap.size w w' := by
  have HF := Lib.hid (fit12_any x w hx)
  clear hx
  go_enter Try.func12, Try.ntmps12
  go_wp2_with fail
  refine HF.out.mono ?_; rintro e w' ⟨⟨r, rfl, hr0, hr1⟩, rfl⟩
  obtain ⟨n, hn⟩ : ∃ n : Nat, 1 + r = n := ⟨(1 + r).toNat, by omega⟩
  have hn1 : 1 ≤ n := by omega
  have hn12 : n ≤ 12 := by omega
  obtain ⟨a1, a2⟩ := rds_fair hn1 hn12
  have HRE : Hid (roundsE (n : Int) = (roundsL n, 0)) := Lib.hid (by unfold roundsE; rw [if_neg (by omega), Int.toNat_natCast])
  have HA1 := Lib.hid a1
  have hI := I64.small (v := (n : Int)) (by omega)
  obtain ⟨m, hm⟩ : ∃ m, (roundsL n).length = m := ⟨_, rfl⟩
  rw [hm] at a2
  have HM := Lib.hid hm
  have HN := Lib.hid hn
  have HA2 := Lib.hid a2
  clear a1 hm hn a2
  go_wp2_with fail
  rw [HN.out]
  refine (rounds_any (n : Int) w hI).mono ?_; rintro e w2 ⟨A2, c2, rfl, h2, b2⟩
  rw [HRE.out] at h2 ⊢
  simp only at h2 ⊢
  rw [HM.out] at h2 ⊢
  have HR := Lib.hid h2.rd
  have HB := Lib.hid b2
  clear h2 b2
  go_wp2_with fail
  refine (fairPr_any A2 m c2 (roundsL n) (n : Int) w2 HR.out hI).mono ?_; rintro e w3 ⟨rfl, b3⟩
  rw [HA1.out]
  have HB3 := Lib.hid (HB.out.trans (b3.mono HB.out.size))
  clear b3 HR HB HF
  have hcase : ((n : Int) % 2 = 1 ∧ 1 < n ∧ m = 2 * n) ∨ ((n : Int) % 2 = 0 ∧ m = n) ∨ (n = 1 ∧ m = 1) := by
    have a2 := HA2.out
    by_cases h : n % 2 = 1 ∧ 1 < n
    · rw [if_pos h] at a2; exact .inl ⟨by omega, h.2, a2⟩
    · rw [if_neg h] at a2
      by_cases h2 : n % 2 = 1
      · exact .inr (.inr ⟨by omega, by omega⟩)
      · exact .inr (.inl ⟨by omega, a2⟩)
  clear HA2 HN HM HA1 HRE hr0 hr1
  rcases hcase with ⟨h1, h2, h3⟩ | ⟨h1, h2⟩ | ⟨h1, h2⟩
  · have h2I : (1 : Int) < n := by omega
    have h3I : (m : Int) = 2 * n := by omega
    have g : ((m : Int) == 2 * n) = true := by rw [h3I]; exact beq_self_eq_true _
    clear h3 h3I
    go_wp2_with fail
    refine (awake5_any w3).mono ?_; rintro e w8 ⟨rfl, hb8⟩
    have HBF := Lib.hid (HB3.out.trans (hb8.mono HB3.out.size))
    clear hb8
    go_wp2
    go_ret
    exact ⟨rfl, HBF.out⟩
  · subst h2
    go_wp2_with fail
    refine (awake5_any w3).mono ?_; rintro e w8 ⟨rfl, hb8⟩
    have HBF := Lib.hid (HB3.out.trans (hb8.mono HB3.out.size))
    clear hb8
    go_wp2
    go_ret
    exact ⟨rfl, HBF.out⟩
  · subst h1
    subst h2
    go_wp2_with fail
    refine (awake5_any w3).mono ?_; rintro e w8 ⟨rfl, hb8⟩
    have HBF := Lib.hid (HB3.out.trans (hb8.mono HB3.out.size))
    clear hb8
    go_wp2
    go_ret
    exact ⟨rfl, HBF.out⟩
end Go.Proofs.Ytcmacejpoihhlaa
