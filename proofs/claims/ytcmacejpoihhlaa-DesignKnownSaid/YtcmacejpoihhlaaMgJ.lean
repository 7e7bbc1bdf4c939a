/- Walks: stocks: their sum, their check, choices one after the other, Ways. Walk: Rounds: the orders that are fair. -/
import Derived.Deep.DeepCutAuto
import Derived.IntWalk
import Derived.BigQuiet
import Derived.Test.YtcmacejpoihhlaaMgB
import Derived.Test.YtcmacejpoihhlaaMgE
import Derived.Test.YtcmacejpoihhlaaMgF
namespace Go.Proofs.Ytcmacejpoihhlaa
open Go.RowKit

/-- a number, and only draws -/
def Num (v : Int) (w : World) (e : Ending) (w' : World) : Prop := e = .returned (.int .i64 v) ∧ w' = w

set_option maxHeartbeats 400000 in
theorem sumD_any (A : Option Addr) (n c : Nat) (l : List Int) (w : World) (h : RdI w A n l) (hb : ∀ x ∈ l, 0 ≤ x ∧ x ≤ 1000) (hn : n ≤ 1000) : Calls Try.prog 80 #[.slice A n c] w (Num (sumI l) w) := by
  have hlen := h.len
  have HL := Lib.hid hlen
  have HBD := Lib.hid hb
  clear hb hlen
  go_enter Try.func80, Try.ntmps80
  go_wp2
  go_loop [3, 8] (fun s i => ∃ k : Nat, k ≤ n ∧ i = .int .i64 k ∧ s = .int .i64 (sumI (l.take k))) (fun _ i => n - (intOf i).toNat)
  case atStart => exact ⟨0, by omega, rfl, rfl⟩
  case round =>
    obtain ⟨k, hk, rfl, rfl⟩ := hrel
    have hs := sumI_take_bd HBD.out k
    have hs2 : (l.take k).length = k := by rw [List.length_take, HL.out]; omega
    rw [hs2] at hs
    obtain ⟨s, hse⟩ : ∃ s, sumI (l.take k) = s := ⟨_, rfl⟩
    rw [hse] at hs ⊢
    by_cases hlt : k < n
    · obtain ⟨ad, v, rfl, _, hv, _, hcell⟩ := h.at_ hlt
      have hv2 := HBD.out v (List.mem_of_getElem? hv.out)
      have HT : Hid (sumI (l.take (k + 1)) = s + v) := Lib.hid (by rw [take_of_get hv.out, sumI_snoc, hse])
      clear hse hs2
      go_wp2
      go_round
      case rel => exact ⟨k + 1, by omega, by go_num, by rw [HT.out]⟩
      case measure => simp [intOf]; omega
    · have HT : Hid (sumI l = s) := Lib.hid (by rw [← hse, List.take_of_length_le (by rw [HL.out]; omega)])
      clear hse hs2
      go_wp2
      go_ret
      exact ⟨ret_int HT.out.symm, rfl⟩

set_option maxHeartbeats 400000 in
theorem falling_any (f : Int) (d : Nat) (w : World) (hd : d ≤ 9) (hf : (d : Int) ≤ f) (h54 : f ≤ 54) : Calls Try.prog 79 #[.int .i64 f, .int .i64 d] w (Num (fallN f d) w) := by
  go_enter Try.func79, Try.ntmps79
  go_wp2
  go_loop [5, 8] (fun s i => ∃ k : Nat, k ≤ d ∧ i = .int .i64 k ∧ s = .int .i64 (fallN f k)) (fun _ i => d - (intOf i).toNat)
  case atStart => exact ⟨0, by omega, rfl, rfl⟩
  case round =>
    obtain ⟨k, hk, rfl, rfl⟩ := hrel
    by_cases hlt : k < d
    · have h1 := fallN_54 h54 (k + 1) (by omega) (by omega)
      have HE : Hid (fallN f (k + 1) = fallN f k * (f - k)) := rfl
      have hw : IntKind.i64.wrap (fallN f k * (f - k)) = fallN f k * (f - k) := by
        rw [← HE.out]
        exact IntWalk.i64_in _ (by omega)
      clear h1
      go_wp2
      go_round
      case rel => exact ⟨k + 1, by omega, by go_num, by rw [HE.out]⟩
      case measure => simp [intOf]; omega
    · obtain rfl : k = d := by omega
      go_wp2
      go_ret
      exact ⟨rfl, rfl⟩

/-- a number, and new memory -/
def NumM (v : Int) (w : World) (e : Ending) (w' : World) : Prop := e = .returned (.int .i64 v) ∧ Below w.heap.size w w'

theorem okCounts_take {c : List Int} {k : Nat} {v : Int} (h : c[k]? = some v) : okCounts (c.take (k + 1)) = (okCounts (c.take k) && (decide (1 ≤ v) && decide (v ≤ 9))) := by
  unfold okCounts; rw [take_of_get h, List.all_append]; simp
theorem okCounts_no {c : List Int} {k : Nat} {v : Int} (h : c[k]? = some v) (hv : v < 1 ∨ 9 < v) : okCounts c = false := by
  cases e : okCounts c with
  | false => rfl
  | true => have := okCounts_mem e v (List.mem_of_getElem? h); omega
theorem chkS_short {l : List Int} {d : Int} (h : l.length = 0) : chkS l d = 6 := by unfold chkS; rw [if_pos h]
theorem chkS_full {l : List Int} {d : Int} (h : 6 < l.length) : chkS l d = 8 := by unfold chkS; rw [if_neg (by omega), if_pos h]
theorem chkS_bad {l : List Int} {d : Int} (h0 : 0 < l.length) (h : l.length ≤ 6) (hc : okCounts l = false) : chkS l d = 2 := by unfold chkS; rw [if_neg (by omega), if_neg (by omega), if_pos hc]
theorem chkS_good {l : List Int} {d : Int} (h0 : 0 < l.length) (h : l.length ≤ 6) (hc : okCounts l = true) : chkS l d = if 1 ≤ d ∧ d ≤ min 9 (sumI l) then 0 else 2 := by
  unfold chkS; rw [if_neg (by omega), if_neg (by omega), if_neg (by rw [hc]; simp)]

set_option maxHeartbeats 400000 in
theorem withinD_any (n lo hi : Int) (w : World) : Calls Try.prog 88 #[.int .i64 n, .int .i64 lo, .int .i64 hi] w fun e w' => e = .returned (.bool (decide (lo ≤ n) && decide (n ≤ hi))) ∧ w' = w := by
  by_cases h : lo ≤ n
  · have g : decide (lo ≤ n) = true := decide_eq_true h
    go_enter Try.func88, Try.ntmps88
    go_wp2
    go_ret
    exact ⟨ret_bool (by rw [g, Bool.true_and]), rfl⟩
  · have g : decide (lo ≤ n) = false := decide_eq_false h
    go_enter Try.func88, Try.ntmps88
    go_wp2
    go_ret
    exact ⟨ret_bool (by simp), rfl⟩
theorem within_yes {lo n hi : Int} (h1 : lo ≤ n) (h2 : n ≤ hi) : (decide (lo ≤ n) && decide (n ≤ hi)) = true := by simp [h1, h2]
theorem within_no {lo n hi : Int} (h : n < lo ∨ hi < n) : (decide (lo ≤ n) && decide (n ≤ hi)) = false := by
  rw [Bool.and_eq_false_iff, decide_eq_false_iff_not, decide_eq_false_iff_not]; omega

set_option maxHeartbeats 1000000 in
set_option maxRecDepth 100000 in
theorem checkS_any (A : Option Addr) (n c : Nat) (l : List Int) (d : Int) (w : World) (h : RdI w A n l) (_hd : I64 d) : Calls Try.prog 32 #[.agg #[.slice A n c, .int .i64 d]] w (NumM (chkS l d) w) := by
  have hlen := h.len
  have hn := h.bd
  go_enter Try.func32, Try.ntmps32
  go_upto_region 1 with fail
  have HA := Lib.hid (h.alloc (.cells #[.slice A n c, .int .i64 d] 24))
  have HB := Lib.hid ((Below.refl _ w).alloc (Nat.le_refl _) (.cells #[.slice A n c, .int .i64 d] 24))
  have hbx := Blk.new w 24 #[.slice A n c, .int .i64 d]
  have HX := Lib.hid hbx
  clear hbx h
  generalize w.alloc (.cells #[.slice A n c, .int .i64 d] 24) = W at HA HB HX ⊢
  have c0 : W.cell? ⟨w.heap.size, 0, none⟩ = some (.slice A n c) := by rw [HX.out.cell]; rfl
  have c1 : W.cell? ⟨w.heap.size, 1, none⟩ = some (.int .i64 d) := by rw [HX.out.cell]; rfl
  clear HX
  by_cases h0 : n = 0
  · have HC := Lib.hid (chkS_short (l := l) (d := d) (by omega)); clear hlen
    subst h0
    go_wp2
    go_ret
    exact ⟨ret_int HC.out.symm, HB.out⟩
  by_cases h6 : 6 < n
  · have HC := Lib.hid (chkS_full (l := l) (d := d) (by omega)); clear hlen
    have g0 : ((n : Int) == 0) = false := by simp; omega
    go_wp2
    go_ret
    exact ⟨ret_int HC.out.symm, HB.out⟩
  have g0 : ((n : Int) == 0) = false := by simp; omega
  have g6 : (n : Int) ≤ 6 := by omega
  have hn0 : 0 < n := by omega
  have HL := Lib.hid hlen
  clear hlen
  go_wp2_with fail
  go_loop [18] (fun i => ∃ k : Nat, k ≤ n ∧ i = .int .i64 k ∧ Hid (okCounts (l.take k) = true)) (fun i => n - (intOf i).toNat)
  case atStart => exact ⟨0, by omega, rfl, rfl⟩
  case round =>
    obtain ⟨k, hk, rfl, HK⟩ := hrel
    by_cases hlt : k < n
    · obtain ⟨ad, v, rfl, _, hv, _, hcell⟩ := HA.out.at_ hlt
      by_cases hr : v < 1 ∨ 9 < v
      · have HC := Lib.hid (chkS_bad (d := d) (by rw [HL.out]; exact hn0) (by rw [HL.out]; omega) (okCounts_no hv.out hr))
        have HW := Lib.hid (within_no hr)
        clear hr
        go_wp2_with fail
        refine (withinD_any v 1 9 W).mono ?_; rintro e w' ⟨rfl, rfl⟩
        rw [HW.out]
        go_wp2
        go_ret
        exact ⟨ret_int HC.out.symm, HB.out⟩
      · have hv1 : 1 ≤ v := by omega
        have hv9 : v ≤ 9 := by omega
        have HT : Hid (okCounts (l.take (k + 1)) = true) := Lib.hid (by rw [okCounts_take hv.out, HK.out]; simp; omega)
        have HW := Lib.hid (within_yes hv1 hv9)
        clear hr
        go_wp2_with fail
        refine (withinD_any v 1 9 W).mono ?_; rintro e w' ⟨rfl, rfl⟩
        rw [HW.out]
        go_wp2
        go_round
        case rel => exact ⟨k + 1, by omega, by go_num, HT⟩
        case measure => simp [intOf]; omega
    · obtain rfl : k = n := by omega
      have hok : okCounts l = true := by have := HK.out; rwa [List.take_of_length_le (by rw [HL.out]; omega)] at this
      have HC := Lib.hid (chkS_good (d := d) (by rw [HL.out]; exact hn0) (by rw [HL.out]; omega) hok)
      have hs := okCounts_sum hok (by rw [HL.out]; omega)
      have HM := Lib.hid (okCounts_mem hok)
      obtain ⟨s, hse⟩ : ∃ s, sumI l = s := ⟨_, rfl⟩
      rw [hse] at hs HC
      have HS := Lib.hid hse
      clear hok hse HK
      go_upto_region 11 with fail
      have HSL : Hid (∀ x ∈ l, 0 ≤ x ∧ x ≤ 1000) := Lib.hid (fun x hx => by have := HM.out x hx; omega)
      have hk6 : k ≤ 1000 := by omega
      have HQ : Hid (∀ W', RdI W' A k l → Calls Try.prog 80 #[.slice A k c] W' (Num s W')) := Lib.hid (fun W' h' => by rw [← HS.out]; exact sumD_any A k c l W' h' HSL.out hk6)
      obtain ⟨y, hy⟩ : ∃ y, (decide (1 ≤ d) && decide (d ≤ min 9 s)) = y := ⟨_, rfl⟩
      have HW : Hid (∀ W', Calls Try.prog 88 #[.int .i64 d, .int .i64 1, .int .i64 (if s < 9 then s else 9)] W' fun e w' => e = .returned (.bool y) ∧ w' = W') := Lib.hid (fun W' => by rw [int_min, ← hy]; exact withinD_any d 1 (min 9 s) W')
      have HR : Hid (chkS l d = if y = true then 0 else 2) := Lib.hid (by rw [HC.out, ← hy]; simp only [Bool.and_eq_true, decide_eq_true_eq])
      clear hy HM HC HSL
      go_quiet (first
        | (go_at_call 80; exact Calls.quiet_of_same (HQ.out _ (HA.out.drewN _)))
        | (go_at_call 88; exact Calls.quiet_of_same (HW.out _)))
      cases y
      · go_wp2
        all_goals go_ret
        all_goals exact ⟨ret_int HR.out.symm, below_drewN HB.out _⟩
      · go_wp2
        all_goals go_ret
        all_goals exact ⟨ret_int HR.out.symm, below_drewN HB.out _⟩

/-- two numbers, and new memory -/
def Num2M (v : Int × Int) (w : World) (e : Ending) (w' : World) : Prop := e = .returned (.tuple #[.int .i64 v.1, .int .i64 v.2]) ∧ Below w.heap.size w w'

set_option maxHeartbeats 1000000 in
set_option maxRecDepth 100000 in
theorem ways_any (A : Option Addr) (n c : Nat) (l : List Int) (d : Int) (w : World) (h : RdI w A n l) (hd : I64 d) : Calls Try.prog 28 #[.agg #[.slice A n c, .int .i64 d]] w (Num2M (waysE l d) w) := by
  have hlen := h.len
  go_enter Try.func28, Try.ntmps28
  go_upto_region 1 with fail
  have HA := Lib.hid (h.alloc (.cells #[.slice A n c, .int .i64 d] 24))
  have HB := Lib.hid ((Below.refl _ w).alloc (Nat.le_refl _) (.cells #[.slice A n c, .int .i64 d] 24))
  have HX := Lib.hid (Blk.new w 24 #[.slice A n c, .int .i64 d])
  clear h
  generalize w.alloc (.cells #[.slice A n c, .int .i64 d] 24) = W at HA HB HX ⊢
  have c0 : W.cell? ⟨w.heap.size, 0, none⟩ = some (.slice A n c) := by rw [HX.out.cell]; rfl
  have c1 : W.cell? ⟨w.heap.size, 1, none⟩ = some (.int .i64 d) := by rw [HX.out.cell]; rfl
  go_wp2_with fail
  refine (checkS_any A n c l d W HA.out hd).mono ?_; rintro e w2 ⟨rfl, hb⟩
  have HA2 := Lib.hid (HA.out.below hb)
  have HX2 := Lib.hid (HX.out.below hb)
  have HB2 := Lib.hid (HB.out.trans (hb.mono HB.out.size))
  have c02 : w2.cell? ⟨w.heap.size, 0, none⟩ = some (.slice A n c) := by rw [HX2.out.cell]; rfl
  have c12 : w2.cell? ⟨w.heap.size, 1, none⟩ = some (.int .i64 d) := by rw [HX2.out.cell]; rfl
  clear hb HX c0 c1 HX2
  by_cases hz : chkS l d = 0
  · have hk := chkS_ok hz
    have hks := okCounts_mem hk.2.2.1
    have HV : Hid (waysE l d = (fallN (sumI l) d.toNat, 0)) := Lib.hid (by unfold waysE; rw [if_neg (by omega)])
    obtain ⟨s, hse⟩ : ∃ s, sumI l = s := ⟨_, rfl⟩
    rw [hse] at hk HV
    obtain ⟨d, rfl⟩ : ∃ d' : Nat, d = d' := ⟨d.toNat, by omega⟩
    rw [Int.toNat_natCast] at HV
    have HQ : Hid (∀ W', RdI W' A n l → Calls Try.prog 80 #[.slice A n c] W' (Num s W')) := Lib.hid (fun W' h' => by rw [← hse]; exact sumD_any A n c l W' h' (fun x hx => by have := hks x hx; omega) (by omega))
    have HF : Hid (∀ W', Calls Try.prog 79 #[.int .i64 s, .int .i64 d] W' (Num (fallN s d) W')) := Lib.hid (fun W' => falling_any s d W' (by omega) (by omega) (by omega))
    clear hk hks hse
    rw [hz]
    clear hz
    go_wp2_with fail
    go_quiet (first
      | (go_at_call 80; exact Calls.quiet_of_same (HQ.out _ (HA2.out.drewN _)))
      | (go_at_call 79; exact Calls.quiet_of_same (HF.out _)))
    go_wp2
    go_ret2
    rw [HV.out]; exact ⟨rfl, below_drewN HB2.out _⟩
  · have HV : Hid (waysE l d = (0, chkS l d)) := Lib.hid (by unfold waysE; rw [if_pos hz])
    have g : (chkS l d != 0) = true := by simpa using hz
    clear hz
    generalize chkS l d = z at g HV ⊢
    go_wp2
    go_ret2
    rw [HV.out]; exact ⟨rfl, HB2.out⟩
end Go.Proofs.Ytcmacejpoihhlaa

namespace Go.Proofs.Ytcmacejpoihhlaa
open Go.RowKit

/-- lists and an error, the callee's own -/
def ListsErr (x : List (List Int) × Int) (w : World) (e : Ending) (w' : World) : Prop :=
  ∃ A c, e = .returned (.tuple #[.slice A x.1.length c, .int .i64 x.2]) ∧ OwnL w' w.heap.size A x.1.length c x.1 ∧ Below w.heap.size w w'

set_option maxHeartbeats 2000000 in
set_option maxRecDepth 100000 in
theorem rounds_any (n : Int) (w : World) (hn : I64 n) : Calls Try.prog 56 #[.int .i64 n] w (ListsErr (roundsE n) w) := by
  by_cases h0 : n < 1 ∨ 12 < n
  · have HV : Hid (roundsE n = ([], 2)) := Lib.hid (by unfold roundsE; rw [if_pos h0])
    have HW := Lib.hid (within_no (lo := 1) (n := n) (hi := 12) h0)
    clear h0
    go_enter Try.func56, Try.ntmps56
    go_wp2_with fail
    refine (withinD_any n 1 12 w).mono ?_; rintro e w ⟨rfl, rfl⟩
    rw [HW.out]
    go_wp2
    go_ret2
    rw [HV.out]
    exact ⟨none, 0, rfl, OwnL.nil_ _ _, Below.refl _ _⟩
  · obtain ⟨n, rfl⟩ : ∃ n' : Nat, n = n' := ⟨n.toNat, by omega⟩
    have h1 : 1 ≤ n := by omega
    have h12 : n ≤ 12 := by omega
    have HV : Hid (roundsE n = (roundsL n, 0)) := Lib.hid (by unfold roundsE; rw [if_neg h0, Int.toNat_natCast])
    have HW := Lib.hid (within_yes (lo := 1) (n := (n : Int)) (hi := 12) (by omega) (by omega))
    clear h0
    go_enter Try.func56, Try.ntmps56
    go_wp2_with fail
    refine (withinD_any n 1 12 w).mono ?_; rintro e w ⟨rfl, rfl⟩
    rw [HW.out]
    go_wp2_with fail
    have HO0 := Lib.hid (OwnI.lit w 3 [0] 1 (by omega) rfl w.heap.size (Nat.le_refl _) (by simp [I64]))
    have HB0 := Lib.hid ((Below.refl _ w).alloc (Nat.le_refl _) (.cells (ints [0]).toArray 3))
    go_loopw [4, 5, 6] (fun f lo hi wr => ∃ (m : Nat) (A : Option Addr) (c : Nat), m ≤ n / 2 ∧ lo = .int .i64 ((1 + m : Nat) : Int) ∧ hi = .int .i64 ((n : Int) - 1 - m) ∧ f = .slice A (zigTo n m).length c ∧ OwnI wr w.heap.size 3 A (zigTo n m).length c (zigTo n m) ∧ Below w.heap.size w wr) (fun _ lo _ _ => n + 1 - (intOf lo).toNat)
    case atStart => exact ⟨0, _, _, by omega, rfl, by simp, rfl, HO0.out, HB0.out⟩
    case round =>
      obtain ⟨m, A, c, hm, rfl, rfl, rfl, hown, hbel⟩ := hrel
      have HO := Lib.hid hown
      have HB := Lib.hid hbel
      clear hown hbel HO0 HB0
      have hzl : (zigTo n m).length ≤ 100 := by rw [zig_len h1 h12 hm]; split <;> omega
      have hsz := HB.out.size
      by_cases hlt : m < n / 2
      · have HZ := Lib.hid (zigTo_succ n m)
        have hlohi : ((1 + m : Nat) : Int) ≤ (n : Int) - 1 - m := by omega
        by_cases hlt2 : 1 + m < n - 1 - m
        · have HZS : Hid (zigTo n (m + 1) = zigTo n m ++ [((1 + m : Nat) : Int)] ++ [((n - 1 - m : Nat) : Int)]) := Lib.hid (by rw [HZ.out]; unfold zigStep; rw [if_pos hlt2])
          obtain ⟨z, hz⟩ : ∃ z, (zigTo n m).length = z := ⟨_, rfl⟩
          obtain ⟨lo, hlo⟩ : ∃ lo : Nat, 1 + m = lo := ⟨_, rfl⟩
          obtain ⟨hi, hhi⟩ : ∃ hi : Nat, n - 1 - m = hi := ⟨_, rfl⟩
          have hhiI : (n : Int) - 1 - m = hi := by omega
          have HLEN : Hid ((zigTo n (m + 1)).length = z + 1 + 1) := Lib.hid (by rw [HZS.out]; simp [hz])
          have HNX : Hid (((1 + (m + 1) : Nat) : Int) = (lo : Int) + 1 ∧ (n : Int) - 1 - ((m + 1 : Nat) : Int) = (hi : Int) - 1 ∧ m + 1 ≤ n / 2 ∧ lo < n + 1) := Lib.hid (by omega)
          rw [hlo, hhi] at HZS
          rw [hz] at HO hzl ⊢
          rw [hlo, hhiI]
          have hz1 : z ≤ 100 := hzl
          have g1 : (lo : Int) ≤ hi := by omega
          have g2 : (lo : Int) < hi := by omega
          have g3 : (hi : Int) ≤ 12 := by omega
          clear hz hhiI hlohi hlt2 hzl hm hlt hlo hhi
          generalize zigTo n m = L at HO HZS
          go_wp2_with (first
            | (at_builtin; refine wpList_appI1 _ rfl (.tmp 27) (.tmp 29) rfl _ rfl rfl HO.out (v := (lo : Int)) (I64.small (by omega)) (by omega) hsz ?_; intro A1 c1 w1 kk; have KK := Lib.hid kk; have hsz1 := Nat.le_trans hsz kk.grown.size; clear kk)
            | (at_builtin; refine wpList_appI1 _ rfl (.tmp 34) (.tmp 36) rfl _ rfl rfl KK.out.own (v := (hi : Int)) (I64.small (by omega)) (by omega) hsz1 ?_; intro A2 c2 w2 kk; have KK2 := Lib.hid kk; clear kk))
          go_roundw
          case rel => exact ⟨m + 1, A2, c2, HNX.out.2.2.1, by rw [HNX.out.1], by rw [HNX.out.2.1], by rw [HLEN.out], by rw [HLEN.out, HZS.out]; exact KK2.out.own, (HB.out.trans KK.out.below).trans KK2.out.below⟩
          case measure => have := HNX.out.2.2.2; simp [intOf]; omega
        · have HZS : Hid (zigTo n (m + 1) = zigTo n m ++ [((1 + m : Nat) : Int)]) := Lib.hid (by rw [HZ.out]; unfold zigStep; rw [if_neg hlt2])
          obtain ⟨z, hz⟩ : ∃ z, (zigTo n m).length = z := ⟨_, rfl⟩
          obtain ⟨lo, hlo⟩ : ∃ lo : Nat, 1 + m = lo := ⟨_, rfl⟩
          have hhiI : (n : Int) - 1 - m = lo := by omega
          have HLEN : Hid ((zigTo n (m + 1)).length = z + 1) := Lib.hid (by rw [HZS.out]; simp [hz])
          have HNX : Hid (((1 + (m + 1) : Nat) : Int) = (lo : Int) + 1 ∧ (n : Int) - 1 - ((m + 1 : Nat) : Int) = (lo : Int) - 1 ∧ m + 1 ≤ n / 2 ∧ lo < n + 1) := Lib.hid (by omega)
          rw [hlo] at HZS
          rw [hz] at HO hzl ⊢
          rw [hlo, hhiI]
          have hz1 : z ≤ 100 := hzl
          have g3 : (lo : Int) ≤ 12 := by omega
          clear hz hhiI hlohi hlt2 hzl hm hlt hlo
          generalize zigTo n m = L at HO HZS
          go_wp2_with (first
            | (at_builtin; refine wpList_appI1 _ rfl (.tmp 27) (.tmp 29) rfl _ rfl rfl HO.out (v := (lo : Int)) (I64.small (by omega)) (by omega) hsz ?_; intro A1 c1 w1 kk; have KK := Lib.hid kk; clear kk))
          go_roundw
          case rel => exact ⟨m + 1, A1, c1, HNX.out.2.2.1, by rw [HNX.out.1], by rw [HNX.out.2.1], by rw [HLEN.out], by rw [HLEN.out, HZS.out]; exact KK.out.own, HB.out.trans KK.out.below⟩
          case measure => have := HNX.out.2.2.2; simp [intOf]; omega
      · obtain rfl : m = n / 2 := by omega
        have hfl := first_len h1 h12
        unfold firstR at hfl
        rw [hfl] at HO ⊢
        have HFM := Lib.hid (zig_mem h1 h12 hm)
        have HFL := Lib.hid hfl
        obtain ⟨lo, hlo⟩ : ∃ lo : Int, ((1 + n / 2 : Nat) : Int) = lo := ⟨_, rfl⟩
        obtain ⟨hi, hhi⟩ : ∃ hi : Int, (n : Int) - 1 - ((n / 2 : Nat) : Int) = hi := ⟨_, rfl⟩
        have hlh : ¬lo ≤ hi := by omega
        rw [hlo, hhi]
        clear hfl hzl hm hlt hlo hhi
        go_wp2_with fail
        clear hlh
        have HRF := Lib.hid HO.out.rd
        obtain ⟨wf, rfl⟩ : ∃ wf : World, wf = wr := ⟨_, rfl⟩
        have hnil := OwnL.nil_ wf wf.heap.size
        have HNIL := Lib.hid hnil
        clear hnil HO
        go_loopw [7, 39] (fun out i wi => ∃ (k : Nat) (Ao : Option Addr) (co : Nat), k ≤ n ∧ i = .int .i64 k ∧ out = .slice Ao k co ∧ OwnL wi wf.heap.size Ao k co (fwdTo n k) ∧ Below wf.heap.size wf wi) (fun _ i _ => n - (intOf i).toNat)
        case atStart => exact ⟨0, none, 0, by omega, rfl, rfl, HNIL.out, Below.refl _ _⟩
        case round =>
          obtain ⟨k, Ao, co, hk, rfl, rfl, hown, hbel⟩ := hrel
          have HOL := Lib.hid hown
          have HBW := Lib.hid hbel
          have HRI := Lib.hid (HRF.out.below hbel)
          obtain ⟨wi, rfl⟩ : ∃ wi : World, wi = wr := ⟨_, rfl⟩
          have hszi := hbel.size
          clear hown hbel HNIL
          by_cases hlt : k < n
          · go_wp2_with fail
            go_loopw [9, 44] (fun row j wj => ∃ (j' : Nat) (Ar : Option Addr) (cr : Nat), j' ≤ n ∧ j = .int .i64 j' ∧ row = .slice Ar j' cr ∧ OwnI wj wi.heap.size 3 Ar j' cr (((firstR n).take j').map (turnR n k)) ∧ Below wi.heap.size wi wj) (fun _ j _ => n - (intOf j).toNat)
            case atStart => exact ⟨0, none, 0, by omega, rfl, rfl, OwnI.nil_ _ _ _, Below.refl _ _⟩
            case round =>
              obtain ⟨j, Ar, cr, hj, rfl, rfl, hown, hbel⟩ := hrel
              have HOR := Lib.hid hown
              have HBJ := Lib.hid hbel
              have hszj := hbel.size
              have HRJ := Lib.hid (HRI.out.below hbel)
              clear hown hbel
              by_cases hjn : j < n
              · obtain ⟨ad, g, rfl, _, hg, _, hcg⟩ := HRJ.out.at_ hjn
                have hgb := HFM.out g (List.mem_of_getElem? hg.out)
                have HT : Hid (((firstR n).take (j + 1)).map (turnR n k) = ((firstR n).take j).map (turnR n k) ++ [(g + k) % n]) := Lib.hid (by
                  have := take_of_get (l := firstR n) hg.out
                  rw [this, List.map_append]; rfl)
                have hg1 : 0 ≤ g + (k : Int) := by omega
                have hg2 : g + (k : Int) ≤ 100 := by omega
                have hn0 : (0 : Int) < n := by omega
                have hq : Int.tmod (g + k) n = (g + k) % n := Int.tmod_eq_emod_of_nonneg hg1
                have HX : Hid (I64 ((g + (k : Int)) % n)) := Lib.hid (by
                  have h3 := Int.emod_nonneg (g + (k : Int)) (show (n : Int) ≠ 0 by omega)
                  have h4 := Int.emod_lt_of_pos (g + (k : Int)) hn0
                  exact I64.small (by omega))
                clear hgb hq
                go_wp2_with (at_builtin; refine wpList_appI1 _ rfl (.tmp 48) (.tmp 54) rfl _ rfl rfl HOR.out (v := (g + k) % n) HX.out (by omega) hszj ?_; intro A1 c1 w1 kk; have KK := Lib.hid kk; clear kk)
                go_roundw
                case rel => exact ⟨j + 1, A1, c1, by omega, by go_num, rfl, by rw [HT.out]; exact KK.out.own, HBJ.out.trans KK.out.below⟩
                case measure => simp [intOf]; omega
              · obtain rfl : j = n := by omega
                have HRR : Hid (((firstR j).take j).map (turnR j k) = rowRd j k) := Lib.hid (by rw [List.take_of_length_le (Nat.le_of_eq (show (firstR j).length = j from HFL.out))]; rfl)
                rw [HRR.out] at HOR
                have HOW := Lib.hid (HOL.out.below HBJ.out)
                have HNE : Hid (0 < j → Ao.map (·.block) ≠ Ar.map (·.block)) := Lib.hid (fun hj0 e => by
                  obtain ⟨g, rfl, hg1, hg2⟩ := HOR.out.form hj0
                  have := HOL.out.lt g e
                  omega)
                have HFT := Lib.hid (fwdTo_succ j k)
                have hszw := Nat.le_trans hszi hszj
                go_wp2_with (at_builtin; refine wpList_appL1 _ rfl (.tmp 57) (.tmp 59) rfl _ rfl rfl HOW.out HOR.out.rd HNE.out (by omega) hszw ?_; intro A1 c1 w1 k1 k2; have K1 := Lib.hid k1; have K2 := Lib.hid k2; clear k1 k2)
                go_roundw
                case rel => exact ⟨k + 1, A1, c1, by omega, by go_num, rfl, by rw [HFT.out]; exact K1.out, (HBW.out.trans (HBJ.out.mono hszi)).trans K2.out⟩
                case measure => simp [intOf]; omega
          · obtain rfl : k = n := by omega
            clear HRI HRF hlt
            by_cases hodd : k % 2 = 1 ∧ 1 < k
            · have hr : Int.tmod (k : Int) 2 = 1 := by
                rw [Int.tmod_eq_emod_of_nonneg (by omega)]; omega
              have hr2 : (k : Int) % 2 = 1 := by omega
              have hr3 : (1 : Int) < k := by omega
              have HRL : Hid (roundsL k = fwdTo k k ++ backTo k k) := Lib.hid (by unfold roundsL; rw [if_pos hodd])
              go_wp2_with fail
              go_loopw [7, 70] (fun out i wk => ∃ (m : Nat) (Ao : Option Addr) (co : Nat), m ≤ k ∧ i = .int .i64 m ∧ out = .slice Ao (k + m) co ∧ OwnL wk wf.heap.size Ao (k + m) co (fwdTo k k ++ backTo k m) ∧ Below wf.heap.size wf wk) (fun _ i _ => k - (intOf i).toNat)
              case atStart => exact ⟨0, Ao, co, by omega, rfl, rfl, by rw [show backTo k 0 = [] from rfl, List.append_nil]; exact HOL.out, HBW.out⟩
              case round =>
                obtain ⟨m, Ao2, co2, hm, rfl, rfl, hown, hbel⟩ := hrel
                have HOL2 := Lib.hid hown
                have HBW2 := Lib.hid hbel
                have hszk := hbel.size
                obtain ⟨wk, rfl⟩ : ∃ wk : World, wk = wr := ⟨_, rfl⟩
                clear hown hbel HOL HBW
                by_cases hlt : m < k
                · have hmk : m < k + m := by omega
                  obtain ⟨ad, B1, m1, d1, l1, rfl, _, hl1, hr1, hc1⟩ := HOL2.out.rd.at_ (show m < k + m by omega)
                  obtain rfl : l1 = rowRd k m := by
                    have e := hl1.out
                    rw [List.getElem?_append_left (by rw [fwdTo_len]; exact hlt)] at e
                    unfold fwdTo at e
                    rw [List.getElem?_map, List.getElem?_range hlt] at e
                    injection e with e; exact e.symm
                  obtain rfl : m1 = k := by rw [← hr1.len, rowRd_len h1 h12]
                  have HR1 := Lib.hid hr1
                  have hB1 : B1.isNone = false := by
                    obtain ⟨ad, e, _⟩ := hr1.1.2.2 (by omega)
                    rw [e]; rfl
                  have hmI : (m : Int) < (m1 : Int) + m := by omega
                  have hlr := rowRd_len h1 h12 m
                  clear hl1 hr1
                  go_wp2_with fail
                  refine (clone_any B1 m1 d1 (rowRd m1 m) wk HR1.out (by omega) hB1).mono ?_; rintro e w2 ⟨Ac, cc, rfl, ho2, hb2⟩
                  rw [hlr] at ho2 ⊢
                  obtain ⟨gc, rfl, hgc, hgl⟩ := ho2.form (by omega)
                  have HO2 := Lib.hid ho2
                  have HB2 := Lib.hid hb2
                  clear ho2 hb2
                  go_wp2_with fail
                  refine (reverse_any gc m1 cc (rowRd m1 m) w2 wk.heap.size HO2.out (by omega)).mono ?_; rintro e w3 ⟨rfl, ho3, hg3⟩
                  have HO3 := Lib.hid ho3
                  have HB3 := Lib.hid (HB2.out.grown hg3 HB2.out.size (fun b e => by injection e with e; omega))
                  have HOW := Lib.hid (HOL2.out.below HB3.out)
                  have HNE : Hid (0 < m1 → (some ad : Option Addr).map (·.block) ≠ (some (⟨gc, 0, none⟩ : Addr)).map (·.block)) := Lib.hid (fun _ e => by
                    have h9 := HOL2.out.lt gc e
                    omega)
                  have hsz3 := Nat.le_trans hszk HB3.out.size
                  have HBT := Lib.hid (backTo_succ m1 m)
                  have hk2 : m1 + m + 1 ≤ 1000000 := by omega
                  clear ho3 hg3 HO2 HB2
                  go_wp2_with (at_builtin; refine wpList_appL1 _ rfl (.tmp 80) (.tmp 82) rfl _ rfl rfl HOW.out HO3.out.rd HNE.out hk2 hsz3 ?_; intro A1 c1 w4 k1 k2; have K1 := Lib.hid k1; have K2 := Lib.hid k2; clear k1 k2)
                  go_roundw
                  case rel => exact ⟨m + 1, A1, c1, by omega, by go_num, rfl, by rw [HBT.out, ← List.append_assoc]; exact K1.out, (HBW2.out.trans (HB3.out.mono hszk)).trans K2.out⟩
                  case measure => simp [intOf]; omega
                · obtain rfl : m = k := by omega
                  have HLL : Hid ((roundsL m).length = m + m) := Lib.hid (by rw [HRL.out, List.length_append, fwdTo_len, backTo_len])
                  go_wp2
                  go_ret2
                  rw [HV.out]
                  exact ⟨Ao2, co2, by rw [HLL.out]; rfl, by rw [HLL.out, HRL.out]; exact HOL2.out.mono hsz, HB.out.trans (HBW2.out.mono hsz)⟩
            · have HRL : Hid (roundsL k = fwdTo k k) := Lib.hid (by unfold roundsL; rw [if_neg hodd])
              by_cases hm2 : k % 2 = 1
              · have hr2 : (k : Int) % 2 = 1 := by omega
                have hr3 : ¬(1 : Int) < k := by omega
                go_wp2
                go_ret2
                rw [HV.out]
                exact ⟨Ao, co, by rw [HRL.out, fwdTo_len]; rfl, by rw [HRL.out, fwdTo_len]; exact HOL.out.mono hsz, HB.out.trans (HBW.out.mono hsz)⟩
              · have hr2 : (k : Int) % 2 = 0 := by omega
                go_wp2
                go_ret2
                rw [HV.out]
                exact ⟨Ao, co, by rw [HRL.out, fwdTo_len]; rfl, by rw [HRL.out, fwdTo_len]; exact HOL.out.mono hsz, HB.out.trans (HBW.out.mono hsz)⟩
end Go.Proofs.Ytcmacejpoihhlaa
