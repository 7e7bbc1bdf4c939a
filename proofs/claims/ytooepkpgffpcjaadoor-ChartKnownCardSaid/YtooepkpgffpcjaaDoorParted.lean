/- Walk: the program's Parted. -/
import Derived.Test.YtooepkpgffpcjaaDoorCount
namespace Go.Proofs.YtooepkpgffpcjaaDoor
open Go.RowKit

theorem partRow_succ (P : List Int) (j : Nat) : partRow P (j + 1) = partIn (partRow P j) j := foldl_range_succ _ _ _

set_option maxHeartbeats 1000000 in
set_option maxRecDepth 100000 in
theorem partedP_any (n k : Int) (w : World) : Calls Tryd.prog 41 #[.int .i64 n, .int .i64 k] w (IntErr (partedE n k) w) := by
  by_cases h1 : n < 1 ∨ 9 < n
  · have HV : Hid (partedE n k = (0, 2)) := by show partedE n k = (0, 2); unfold partedE; rw [if_pos (by omega)]
    have hw : (decide ((1 : Int) ≤ n) && decide (n ≤ 9)) = false := by simp; omega
    clear h1
    go_enter Tryd.func41, Tryd.ntmps41
    go_wp2_with fail
    refine (within_any n 1 9 w).mono ?_; rintro e w' ⟨rfl, rfl⟩
    rw [hw]
    go_wp2
    go_ret2
    refine ⟨?_, Below.refl _ _⟩
    rw [HV.out]
    rfl
  have hw : (decide ((1 : Int) ≤ n) && decide (n ≤ 9)) = true := by simp; omega
  by_cases h2 : k < 1 ∨ n < k
  · have HV : Hid (partedE n k = (0, 2)) := by show partedE n k = (0, 2); unfold partedE; rw [if_pos (by omega)]
    have hw2 : (decide ((1 : Int) ≤ k) && decide (k ≤ n)) = false := by simp; omega
    clear h1 h2
    go_enter Tryd.func41, Tryd.ntmps41
    go_wp2_with fail
    refine (within_any n 1 9 w).mono ?_; rintro e w' ⟨rfl, rfl⟩
    rw [hw]
    go_wp2_with fail
    refine (within_any k 1 n w).mono ?_; rintro e w' ⟨rfl, rfl⟩
    rw [hw2]
    go_wp2
    go_ret2
    refine ⟨?_, Below.refl _ _⟩
    rw [HV.out]
    rfl
  have hw2 : (decide ((1 : Int) ≤ k) && decide (k ≤ n)) = true := by simp; omega
  obtain ⟨m, rfl⟩ : ∃ m : Nat, n = m := ⟨n.toNat, by omega⟩
  obtain ⟨q, rfl⟩ : ∃ q : Nat, k = q := ⟨k.toNat, by omega⟩
  have hm9 : m ≤ 9 := by omega
  have hq9 : q < 10 := by omega
  have HV : Hid (partedE m q = ((partTo m).getD q 0, 0)) := by
    show partedE m q = _
    unfold partedE
    rw [if_neg (by omega), Int.toNat_natCast, parts_eq m (by omega) q hq9 (by omega) (by omega)]
  clear h1 h2
  go_enter Tryd.func41, Tryd.ntmps41
  go_wp2_with fail
  refine (within_any m 1 9 w).mono ?_; rintro e w' ⟨rfl, rfl⟩
  rw [hw]
  go_wp2_with fail
  refine (within_any q 1 m w).mono ?_; rintro e w' ⟨rfl, rfl⟩
  rw [hw2]
  go_wp2_with fail
  go_loopw [19] (fun i wr => ∃ r : Nat, r ≤ m ∧ i = .int .i64 r ∧ Blk wr w.heap.size 92 (ints (partTo r)).toArray ∧ Below w.heap.size w wr) (fun i _ => m - (intOf i).toNat)
  case atStart =>
    refine ⟨0, by omega, rfl, ?_, (Below.refl _ _).alloc (Nat.le_refl _) _⟩
    rw [show (ints (partTo 0)).toArray = #[.int .i64 1, .int .i64 0, .int .i64 0, .int .i64 0, .int .i64 0, .int .i64 0, .int .i64 0, .int .i64 0, .int .i64 0, .int .i64 0] from rfl]
    exact Blk.new w _ _
  case round =>
    obtain ⟨r, hr, rfl, hblk, hbel⟩ := hrel
    have HBK := Lib.hid hblk
    have HBE := Lib.hid hbel
    clear hblk hbel
    by_cases hlt : r < m
    · go_wp2_with fail
      go_loopw [7] (fun i wr => ∃ j : Nat, j ≤ 9 ∧ i = .int .i64 ((9 - j : Nat) : Int) ∧ Blk wr w.heap.size 92 (ints (partRow (partTo r) j)).toArray ∧ Below w.heap.size w wr) (fun i _ => (intOf i).toNat)
      case atStart => exact ⟨0, by omega, rfl, HBK.out, HBE.out⟩
      case round =>
        obtain ⟨j, hj, rfl, hblk, hbel⟩ := hrel
        have HBK2 := Lib.hid hblk
        have HBE2 := Lib.hid hbel
        clear hblk hbel HBK HBE
        have hok := okParts_all r (by omega) j (by omega)
        by_cases hlt2 : j < 9
        · have HS := Lib.hid (partRow_succ (partTo r) j)
          generalize partRow (partTo r) j = E at HBK2 hok HS
          obtain ⟨b, hb⟩ : ∃ b : Nat, b = 9 - j := ⟨_, rfl⟩
          have hb1 : 1 ≤ b := by omega
          have hb9 : b ≤ 9 := by omega
          obtain ⟨x, hx⟩ := getE (okParts_len hok) (show b < 10 by omega)
          obtain ⟨y, hy⟩ := getE (okParts_len hok) (show b - 1 < 10 by omega)
          have HE : Hid (partRow (partTo r) (j + 1) = E.set b (b * x + y)) := by
            show partRow (partTo r) (j + 1) = _
            rw [HS.out]; unfold partIn
            rw [← hb, getD_of_get hx, show 8 - j = b - 1 by omega, getD_of_get hy]
          rw [← hb]
          have hnx : 9 - (j + 1) = b - 1 := by omega
          have HJ := Lib.hid hnx
          have c1 : wr.cell? ⟨w.heap.size, b, none⟩ = some (.int .i64 x) := by rw [HBK2.out.cell, ints_arr_get hx]
          have c2 : wr.cell? ⟨w.heap.size, b - 1, none⟩ = some (.int .i64 y) := by rw [HBK2.out.cell, ints_arr_get hy]
          have f3 := HBK2.out.frozen b
          have bx := okParts_bd hok hx
          have bY := okParts_bd hok hy
          have hm0 : 0 ≤ (b : Int) * x := Int.mul_nonneg (by omega) bx.1
          have hm1 : (b : Int) * x ≤ 100000000000 := by
            have h1 : (b : Int) * x ≤ 10 * x := Int.mul_le_mul_of_nonneg_right (by omega) bx.1
            omega
          have s0 : 0 ≤ (b : Int) * x + y := by omega
          have s1 : (b : Int) * x + y ≤ 200000000000 := by omega
          have e1 : ((b : Int) - 1).toNat = b - 1 := by omega
          clear hx hy hok HS hb hnx
          go_wp2_with fail
          go_region
          all_goals go_wp2
          go_roundw
          case rel => exact ⟨j + 1, by omega, by rw [HJ.out]; congr 1; omega, by rw [HE.out, ← ints_arr_set]; exact (HBK2.out.set_ _ _).drew, (HBE2.out.setCell (p := ⟨w.heap.size, b, none⟩) (Nat.le_refl _) _).drew⟩
          case measure => simp [intOf]; omega
        · obtain rfl : j = 9 := by omega
          have HE : Hid (partTo (r + 1) = (partRow (partTo r) 9).set 0 0) := Lib.hid rfl
          generalize partRow (partTo r) 9 = E at HBK2 hok HE
          obtain ⟨x, hx⟩ := getE (okParts_len hok) (show 0 < 10 by omega)
          have c1 : wr.cell? ⟨w.heap.size, 0, none⟩ = some (.int .i64 x) := by rw [HBK2.out.cell, ints_arr_get hx]
          have f3 := HBK2.out.frozen 0
          clear hx hok
          go_wp2
          go_roundw
          case rel => exact ⟨r + 1, by omega, by go_num, by rw [HE.out, ← ints_arr_set]; exact HBK2.out.set_ _ _, HBE2.out.setCell (p := ⟨w.heap.size, 0, none⟩) (Nat.le_refl _) _⟩
          case measure => simp [intOf]; omega
    · obtain rfl : r = m := by omega
      have hok := okParts_all r (by omega) 0 (by omega)
      have hok' : okParts (partTo r) = true := hok
      obtain ⟨x, hx⟩ := getE (okParts_len hok') (show q < 10 by omega)
      have HX := Lib.hid (getD_of_get (d := 0) hx)
      have c1 : wr.cell? ⟨w.heap.size, q, none⟩ = some (.int .i64 x) := by rw [HBK.out.cell, ints_arr_get hx]
      clear hx hok hok'
      go_wp2
      go_ret2
      refine ⟨?_, HBE.out⟩
      rw [HV.out, HX.out]
      rfl
end Go.Proofs.YtooepkpgffpcjaaDoor
