/- Walk: the statement DesignGuess. -/
import Derived.Test.YtgnfkgmppeohoaaMgR
import Derived.Test.YtgnfkgmppeohoaaMgM
import Derived.Test.YtgnfkgmppeohoaaMgC
namespace Go.Proofs.Ytgnfkgmppeohoaa
open Go.RowKit

theorem stock_chk {l : List Int} {n d kinds count : Nat} (hlen : l.length = n) (h1 : 1 ≤ n) (h6 : n ≤ 6) (hc : ∀ x ∈ l, 1 ≤ x ∧ x ≤ (count : Int)) (h9 : count ≤ 9) (hd1 : 1 ≤ d) (hd9 : d ≤ 9) (hds : (d : Int) ≤ sumI l) : chkS l d = 0 := by
  have hok : okCounts l = true := by unfold okCounts; rw [List.all_eq_true]; intro x hx; have := hc x hx; simp; omega
  rw [chkS_good (by omega) (by omega) hok, if_pos (by omega)]
theorem shaped_ok {l : List Int} {d : Nat} (h : chkS l d = 0) (h6 : d ≤ 6) : shapedC l d = 0 := by unfold shapedC; rw [if_neg (by omega), if_neg (by omega)]
theorem shapesE_ok {l : List Int} {d : Nat} (h : shapedC l d = 0) : shapesE l d = (shapesTo l d (countR d).toNat, 0) := by unfold shapesE; rw [if_neg (by omega), Int.toNat_natCast]
/-- what the best guess is -/
theorem best_is {l : List Int} {d : Nat} (hz : chkS l d = 0) (h6 : d ≤ 6) : ∃ r : Nat, (r : Int) < countR d ∧ (bestTo l d (countR d).toNat) = (pr d r, waysOf l (pr d r)) ∧ 0 < waysOf l (pr d r) ∧
    (∀ i, i < (countR d).toNat → waysOf l (pr d i) ≤ waysOf l (pr d r)) ∧ ∀ i, i < r → waysOf l (pr d i) < waysOf l (pr d r) := by
  have hk := chkS_ok hz
  have hp := best_pos (n := d) hk.2.2.1 hk.2.1 hk.2.2.2.2.2.2 (by omega) h6 (by omega)
  have hb := best_ok l d (countR d).toNat
  rcases hb.at_ with ⟨h0, _⟩ | ⟨_, r, hr, he, hlt⟩
  · omega
  · have hc := count_pos (d := d) (by omega) h6
    have h2 : (bestTo l d (countR d).toNat).2 = waysOf l (pr d r) := by rw [he]
    exact ⟨r, by omega, he, by rw [← h2]; exact hp, fun i hi => by rw [← h2]; exact hb.most i hi, fun i hi => by rw [← h2]; exact hlt i hi⟩
theorem shapesTo_len (c : List Int) (n k : Nat) : (shapesTo c n k).length = k := by simp [shapesTo]
theorem shapesTo_get {c : List Int} {n k i : Nat} {v : Int} (h : (shapesTo c n k)[i]? = some v) : i < k ∧ v = waysOf c (pr n i) := by
  unfold shapesTo at h
  rw [List.getElem?_map] at h
  by_cases hi : i < k
  · rw [List.getElem?_range hi] at h; simp at h; exact ⟨hi, h.symm⟩
  · rw [List.getElem?_eq_none (by simp; omega)] at h; cases h

set_option maxHeartbeats 4000000 in
set_option maxRecDepth 100000 in
theorem designGuess_any (A0 : Option Addr) (n0 c0 : Nat) (nums : List Int) (w : World) (h : RdI w A0 n0 nums) : Calls Try.prog 6 #[.slice A0 n0 c0] w fun e w' => e = .returned (.bool true) ∧ Below w.heap.size w w' := by
  go_enter Try.func6, Try.ntmps6
  go_wp2_with fail
  refine (boxOf_any A0 n0 c0 nums w h).mono ?_; rintro e w1 ⟨g, rfl, hg, hbox, hb1⟩
  have HBX := Lib.hid hbox
  have HB1 := Lib.hid hb1
  have hgl := hbox.lt
  clear hbox hb1 h
  go_wp2_with fail
  refine (stockOf_any g 5 6 6 w1 HBX.out (by omega) (by omega) (by omega) (by omega) (by omega) (by omega)).mono ?_; rintro e w2 ⟨A, n, c, l, d, rfl, hbd, h4, hown, hsp⟩
  have hd6 : d ≤ 6 := hbd.2.2.2.1
  have hd1 : 1 ≤ d := hbd.2.2.1
  have HZ := Lib.hid (stock_chk (kinds := 5) hown.len hbd.1 (by omega) h4 (by omega) hd1 (by omega) hbd.2.2.2.2)
  have HSC := Lib.hid (shaped_ok HZ.out hd6)
  have HR := Lib.hid (hown.rd.alloc (.cells #[.slice A n c, .int .i64 d] 24))
  have HX := Lib.hid (Blk.new w2 24 #[.slice A n c, .int .i64 d])
  have HB := Lib.hid (HB1.out.trans (((hsp.below hg HB1.out.size)).alloc (Nat.le_trans HB1.out.size hsp.grown.size) (.cells #[.slice A n c, .int .i64 d] 24)))
  clear hown hsp h4 hbd
  go_upto_region 2 with fail
  obtain ⟨q, hq⟩ : ∃ q, w2.heap.size = q := ⟨_, rfl⟩
  rw [hq] at HX ⊢
  generalize w2.alloc (.cells #[.slice A n c, .int .i64 d] 24) = W2 at HR HX HB ⊢
  clear hq HBX HB1
  have c0 : W2.cell? ⟨q, 0, none⟩ = some (.slice A n c) := by rw [HX.out.cell]; rfl
  have c1 : W2.cell? ⟨q, 1, none⟩ = some (.int .i64 d) := by rw [HX.out.cell]; rfl
  go_wp2_with fail
  refine (shapesP_any A n c l d W2 HR.out (I64.small (by omega))).mono ?_; rintro e w3 ⟨A3, c3, rfl, h3, b3⟩
  rw [shapesE_ok HSC.out] at h3 ⊢
  simp only at h3 ⊢
  rw [shapesTo_len] at h3 ⊢
  have hcp := count_pos hd1 hd6
  obtain ⟨m, hm⟩ : ∃ m : Nat, countR d = m := ⟨(countR d).toNat, by omega⟩
  obtain ⟨r, hr, hbe, hr0, hmost, hless⟩ := best_is HZ.out hd6
  rw [hm] at hcp hr hbe hmost
  rw [Int.toNat_natCast] at hbe hmost
  have HCM := Lib.hid hm
  have HSL : Hid (RdI w3 A3 m (shapesTo l d m)) := Lib.hid (by have := h3.rd; rwa [hm, Int.toNat_natCast] at this)
  rw [hm, Int.toNat_natCast]
  have HR3 := Lib.hid (HR.out.below b3)
  have HX3 := Lib.hid (HX.out.below b3)
  have HB3 := Lib.hid (HB.out.trans (b3.mono HB.out.size))
  have c0 : w3.cell? ⟨q, 0, none⟩ = some (.slice A n c) := by rw [HX3.out.cell]; rfl
  have c1 : w3.cell? ⟨q, 1, none⟩ = some (.int .i64 d) := by rw [HX3.out.cell]; rfl
  have HPR : Hid (rankF (pr d r) = ((r : Int), 0)) := Lib.hid (by unfold rankF; rw [pr_chk hd1 (by omega) r, if_neg (by omega), rank_pr hd1 (by omega) (by rw [hm]; exact hr)])
  have HPL := Lib.hid (pr_len d r)
  have HBE := Lib.hid hbe
  have HRR : Hid (∀ i v, (shapesTo l d m)[i]? = some v → i < m ∧ v ≤ waysOf l (pr d r) ∧ (i < r → v < waysOf l (pr d r))) := Lib.hid (fun i v hv => by
    obtain ⟨h1, rfl⟩ := shapesTo_get hv
    exact ⟨h1, hmost i h1, hless i⟩)
  have HAT : Hid ((shapesTo l d m)[r]? = some (waysOf l (pr d r))) := Lib.hid (by
    unfold shapesTo; rw [List.getElem?_map, List.getElem?_range (by omega)]; rfl)
  clear h3 b3 HR HX HB hm hbe hmost hless hr0
  go_wp2_with fail
  refine (guessP_any A n c l d w3 HR3.out (I64.small (by omega))).mono ?_; rintro e w4 ⟨A4, c4, rfl, h4, b4⟩
  rw [guessE_ok HSC.out, HCM.out, Int.toNat_natCast, HBE.out] at h4 ⊢
  simp only at h4 ⊢
  rw [HPL.out] at h4 ⊢
  have HP4 := Lib.hid h4.rd
  have HS4 := Lib.hid (HSL.out.below b4)
  have HX4 := Lib.hid (HX3.out.below b4)
  have HB4 := Lib.hid (HB3.out.trans (b4.mono HB3.out.size))
  clear h4 b4 HSL HX3 HB3 HR3 c0 c1
  go_wp2_with fail
  refine (RankF_any A4 d c4 (pr d r) w4 HP4.out).mono ?_; rintro e w5 ⟨rfl, b5⟩
  rw [HPR.out]
  have HS5 := Lib.hid (HS4.out.below b5)
  have HX5 := Lib.hid (HX4.out.below b5)
  have HB5 := Lib.hid (HB4.out.trans (b5.mono HB4.out.size))
  have c1 : w5.cell? ⟨q, 1, none⟩ = some (.int .i64 d) := by rw [HX5.out.cell]; rfl
  clear b5 HP4 HS4 HX4 HB4
  have hrm : r < m := by omega
  obtain ⟨sd, x, rfl, _, hsx, hx64, hcx⟩ := HS5.out.at_ hrm
  generalize waysOf l (pr d r) = y at HRR HAT ⊢
  obtain rfl : x = y := by have := hsx.out; rw [HAT.out] at this; injection this with this; exact this.symm
  have g1 : (r : Int) < m := hr
  clear hsx
  go_wp2_with fail
  go_loop [11] (fun i => ∃ k : Nat, k ≤ m ∧ i = .int .i64 k) (fun i => m - (intOf i).toNat)
  case atStart => exact ⟨0, by omega, rfl⟩
  case round =>
    obtain ⟨k, hk, rfl⟩ := hrel
    by_cases hlt : k < m
    · obtain ⟨sd', v, e, _, hv, _, hcv⟩ := HS5.out.at_ hlt
      injection e with e; subst e
      obtain ⟨_, h1, h2⟩ := HRR.out k v hv.out
      by_cases hkr : k < r
      · have h3 := h2 hkr
        have hkI : (k : Int) < r := by omega
        have gv : (v == x) = false := by simp; omega
        clear h2
        go_wp2
        go_round
        case rel => exact ⟨k + 1, by omega, by go_num⟩
        case measure => simp [intOf]; omega
      · have hkI : (r : Int) ≤ k := by omega
        clear h2 hkr
        go_wp2
        go_round
        case rel => exact ⟨k + 1, by omega, by go_num⟩
        case measure => simp [intOf]; omega
    · go_wp2_with fail
      refine (awake5_any w5).mono ?_; rintro e w8 ⟨rfl, hb8⟩
      have HBF := Lib.hid (HB5.out.trans (hb8.mono HB5.out.size))
      clear hb8
      go_wp2
      go_ret
      exact ⟨rfl, HBF.out⟩
end Go.Proofs.Ytgnfkgmppeohoaa
