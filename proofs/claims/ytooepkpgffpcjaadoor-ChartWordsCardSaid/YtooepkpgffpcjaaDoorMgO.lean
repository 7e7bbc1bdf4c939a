/- Walks: the reference's Rank and Next. -/
import Derived.Test.YtooepkpgffpcjaaDoorMgL
import Derived.Test.YtooepkpgffpcjaaDoorMgH
namespace Go.Proofs.YtooepkpgffpcjaaDoor
open Go.RowKit

theorem RdI.take_ {w : World} {A : Option Addr} {n : Nat} {l : List Int} (h : RdI w A n l) {k : Nat} (hk : k ≤ n) : RdI w A k (l.take k) := by
  refine ⟨⟨by have := h.len; simp; omega, by have := h.bd; omega, fun h0 => ?_⟩, fun v hv => h.2 v (List.mem_of_mem_take hv)⟩
  obtain ⟨ad, e, hb, hc⟩ := h.1.2.2 (by omega)
  refine ⟨ad, e, hb, fun j u hu => hc j u ?_⟩
  rw [ints_get] at hu ⊢
  rw [List.getElem?_take] at hu
  split at hu
  · exact hu
  · cases hu
theorem rankRTo_succ (l : List Int) (k : Nat) : rankRTo l (k + 1) = rankRTo l k + l.getD (k + 1) 0 * behindR (l.length - 1 - (k + 1)) (blk (l.take (k + 1))) := foldl_range_succ _ _ _

set_option maxHeartbeats 1000000 in
set_option maxRecDepth 100000 in
theorem refRank_any (A : Option Addr) (n c : Nat) (l : List Int) (w : World) (h : RdI w A n l) (hc : n ≤ c) : Calls Tryd.prog 44 #[.slice A n c] w (IntErr (rankE l) w) := by
  have HC := Lib.hid (refCheck_any A n c l w h)
  by_cases h0 : chk l = 0
  · have HV := Lib.hid (show rankE l = (rankRTo l (l.length - 1), 0) by unfold rankE; rw [if_neg (by omega), rank_eq h0])
    have hln := h.len
    have hn1 : 1 ≤ n := by have := (chk_ok h0).1; omega
    have hn9 : n ≤ 9 := by have := (chk_ok h0).2.1; omega
    have HCK := Lib.hid h0
    have HLN := Lib.hid hln
    have HBD : Hid (∀ k, k + 1 ≤ n → 0 ≤ rankRTo l k ∧ rankRTo l k ≤ 1000000000000) := Lib.hid fun k hk => by
      rw [← rank_eq_to h0 k (by omega)]
      have := rankTo_bd l (chk_ok h0).2.2.1 (k + 1) (by omega)
      omega
    rw [h0] at HC
    clear h0 hln
    go_enter Tryd.func44, Tryd.ntmps44
    go_wp2_with fail
    refine HC.out.mono ?_; rintro e w' ⟨rfl, rfl⟩
    go_wp2_with fail
    go_loopw [5, 6] (fun s i wr => ∃ k : Nat, 1 ≤ k ∧ k ≤ n ∧ i = .int .i64 k ∧ s = .int .i64 (rankRTo l (k - 1)) ∧ Below w.heap.size w wr) (fun _ i _ => n - (intOf i).toNat)
    case atStart => exact ⟨1, by omega, by omega, rfl, rfl, Below.refl _ _⟩
    case round =>
      obtain ⟨k, hk1, hk, rfl, rfl, hbel⟩ := hrel
      have HB := Lib.hid hbel
      clear hbel
      by_cases hkn : k < n
      · obtain ⟨ad, v, rfl, had, hv, _, hcell0⟩ := h.at_ hkn
        rw [← HB.out.cell (by rw [block_of_add]; exact had)] at hcell0
        have hv9 := (chk_ok HCK.out).2.2.1 v (List.mem_of_getElem? hv.out)
        have hb9 := blk_take_le HCK.out k
        obtain ⟨b, hb⟩ : ∃ b : Nat, blk (l.take k) = b := ⟨(blk (l.take k)).toNat, by omega⟩
        have HS : Hid (rankRTo l k = rankRTo l (k - 1) + v * behindR (n - 1 - k) b) := Lib.hid (by
          have e := rankRTo_succ l (k - 1)
          rw [show k - 1 + 1 = k by omega] at e
          rw [e, getD_of_get hv.out, HLN.out, hb])
        have hbb : b ≤ k := by omega
        have hm9 : n - 1 - k < 9 := by omega
        have hm11 : n - 1 - k + b < 11 := by omega
        have HBH := Lib.hid (fun W : World => behind_any (n - 1 - k) b W hm9 hm11)
        have hbh0 := behind_pos (n - 1 - k) b (by omega)
        have hbh1 := behind_bd (n - 1 - k) hm9 b hm11
        generalize behindR (n - 1 - k) (b : Int) = e at HS HBH hbh0 hbh1
        have HT := Lib.hid ((h.below HB.out).take_ (k := k) (by omega))
        have HSM := Lib.hid ((chk_small HCK.out).take k)
        have HBB := Lib.hid hb
        have hbd := HBD.out (k - 1) (by omega)
        have hve0 : 0 ≤ v * e := Int.mul_nonneg hv9.1 (by omega)
        have hve1 : v * e ≤ 9 * e := Int.mul_le_mul_of_nonneg_right (by omega) (by omega)
        have hve2 : v * e ≤ 90000000000 := by omega
        have hs0 : 0 ≤ rankRTo l (k - 1) + v * e := by omega
        have hs1 : rankRTo l (k - 1) + v * e ≤ 10000000000000 := by omega
        have hidx : (n : Int) - 1 - (k : Int) = ((n - 1 - k : Nat) : Int) := by omega
        have hkc : (k : Int) ≤ c := by omega
        have hk0 : (0 : Int) ≤ k := by omega
        have hkI : (k : Int) < n := by omega
        have wr1 : IntKind.i64.wrap ((n : Int) - 1) = (n : Int) - 1 := wrap_smallI (by omega) (by omega)
        have wr2 : IntKind.i64.wrap (((n - 1 - k : Nat) : Int)) = ((n - 1 - k : Nat) : Int) := wrap_smallI (by omega) (by omega)
        have wr3 : IntKind.i64.wrap (v * e) = v * e := wrap_smallI (by omega) (by omega)
        have HNX : Hid (k + 1 - 1 = k) := Lib.hid (by omega)
        clear hve1 hb hb9
        generalize rankRTo l (k - 1) = s at HS hbd hs0 hs1 ⊢
        have wr4 : IntKind.i64.wrap (s + v * e) = s + v * e := by
          have : s + v * e ≤ 1000000000000 + 90000000000 := by omega
          simp only [IntKind.wrap, IntKind.bits, IntKind.signed, Bool.true_and]
          by_cases h : 2 ^ (64 - 1) ≤ (s + v * e) % 2 ^ 64
          · rw [if_pos (by simpa using h)]; omega
          · rw [if_neg (by simpa using h)]; omega
        go_wp2_with fail
        go_region_held3 (fun w' => w'.cell? (ad.add k) = some (.int .i64 v)) (first | exact hcell0) (first
            | (go_at_call 86; refine (refBlocks_any (some ad) k c (l.take k) wr.drew HT.out.drew HSM.out).mono ?_; rintro en w' ⟨rfl, rfl⟩; rw [HBB.out])
            | (go_at_call 96; refine (HBH.out wr.drew).mono ?_; rintro en w' ⟨rfl, rfl⟩))
        all_goals
          go_wp2
          go_roundw
          case rel => exact ⟨k + 1, by omega, by omega, by go_num, by rw [HNX.out, HS.out], HB.out.drew⟩
          case measure => simp [intOf]; omega
      · obtain rfl : k = n := by omega
        have HKL : Hid (rankRTo l (l.length - 1) = rankRTo l (k - 1)) := Lib.hid (by rw [HLN.out])
        go_wp2
        go_ret2
        refine ⟨?_, HB.out⟩
        rw [HV.out, HKL.out]; rfl
  · have HV := Lib.hid (show rankE l = (0, chk l) by unfold rankE; rw [if_pos h0])
    generalize chk l = z at HC h0 HV
    have g1 : (z == 0) = false := by simpa using h0
    have g2 : (z != 0) = true := by simpa using h0
    clear h0
    go_enter Tryd.func44, Tryd.ntmps44
    go_wp2_with fail
    refine HC.out.mono ?_; rintro e w' ⟨rfl, rfl⟩
    go_wp2
    go_ret2
    refine ⟨?_, Below.refl _ _⟩
    rw [HV.out]; rfl
end Go.Proofs.YtooepkpgffpcjaaDoor
