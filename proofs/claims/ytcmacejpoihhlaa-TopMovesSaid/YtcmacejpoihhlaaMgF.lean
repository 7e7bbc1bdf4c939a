/- Walks: stocks: their sum, their check, choices one after the other, Ways. -/
import Derived.Deep.DeepCutAuto
import Derived.IntWalk
import Derived.BigQuiet
import Derived.Test.YtcmacejpoihhlaaMgB
import Derived.Test.YtcmacejpoihhlaaMgE
namespace Go.Proofs.Ytcmacejpoihhlaa
open Go.RowKit

/-- a number, and only draws -/
def Num (v : Int) (w : World) (e : Ending) (w' : World) : Prop := e = .returned (.int .i64 v) ∧ w' = w

set_option maxHeartbeats 400000 in
theorem sumD_any (A : Option Addr) (n c : Nat) (l : List Int) (w : World) (h : RdI w A n l) (hb : ∀ x ∈ l, 0 ≤ x ∧ x ≤ 1000) (hn : n ≤ 1000) : Calls Try.prog 80 #[.slice A n c] w (Num (sumI l) w) := by
  have hlen := h.len
  have HL := Lib.hid hlen
  have HBD := Lib.hid hb
  clear hb hlen
  go_enter Try.func80, Try.ntmps80
  go_wp2
  go_loop [3, 8] (fun s i => ∃ k : Nat, k ≤ n ∧ i = .int .i64 k ∧ s = .int .i64 (sumI (l.take k))) (fun _ i => n - (intOf i).toNat)
  case atStart => exact ⟨0, by omega, rfl, rfl⟩
  case round =>
    obtain ⟨k, hk, rfl, rfl⟩ := hrel
    have hs := sumI_take_bd HBD.out k
    have hs2 : (l.take k).length = k := by rw [List.length_take, HL.out]; omega
    rw [hs2] at hs
    obtain ⟨s, hse⟩ : ∃ s, sumI (l.take k) = s := ⟨_, rfl⟩
    rw [hse] at hs ⊢
    by_cases hlt : k < n
    · obtain ⟨ad, v, rfl, _, hv, _, hcell⟩ := h.at_ hlt
      have hv2 := HBD.out v (List.mem_of_getElem? hv.out)
      have HT : Hid (sumI (l.take (k + 1)) = s + v) := Lib.hid (by rw [take_of_get hv.out, sumI_snoc, hse])
      clear hse hs2
      go_wp2
      go_round
      case rel => exact ⟨k + 1, by omega, by go_num, by rw [HT.out]⟩
      case measure => simp [intOf]; omega
    · have HT : Hid (sumI l = s) := Lib.hid (by rw [← hse, List.take_of_length_le (by rw [HL.out]; omega)])
      clear hse hs2
      go_wp2
      go_ret
      exact ⟨ret_int HT.out.symm, rfl⟩

set_option maxHeartbeats 400000 in
theorem falling_any (f : Int) (d : Nat) (w : World) (hd : d ≤ 9) (hf : (d : Int) ≤ f) (h54 : f ≤ 54) : Calls Try.prog 79 #[.int .i64 f, .int .i64 d] w (Num (fallN f d) w) := by
  go_enter Try.func79, Try.ntmps79
  go_wp2
  go_loop [5, 8] (fun s i => ∃ k : Nat, k ≤ d ∧ i = .int .i64 k ∧ s = .int .i64 (fallN f k)) (fun _ i => d - (intOf i).toNat)
  case atStart => exact ⟨0, by omega, rfl, rfl⟩
  case round =>
    obtain ⟨k, hk, rfl, rfl⟩ := hrel
    by_cases hlt : k < d
    · have h1 := fallN_54 h54 (k + 1) (by omega) (by omega)
      have HE : Hid (fallN f (k + 1) = fallN f k * (f - k)) := rfl
      have hw : IntKind.i64.wrap (fallN f k * (f - k)) = fallN f k * (f - k) := by
        rw [← HE.out]
        exact IntWalk.i64_in _ (by omega)
      clear h1
      go_wp2
      go_round
      case rel => exact ⟨k + 1, by omega, by go_num, by rw [HE.out]⟩
      case measure => simp [intOf]; omega
    · obtain rfl : k = d := by omega
      go_wp2
      go_ret
      exact ⟨rfl, rfl⟩

/-- a number, and new memory -/
def NumM (v : Int) (w : World) (e : Ending) (w' : World) : Prop := e = .returned (.int .i64 v) ∧ Below w.heap.size w w'

theorem okCounts_take {c : List Int} {k : Nat} {v : Int} (h : c[k]? = some v) : okCounts (c.take (k + 1)) = (okCounts (c.take k) && (decide (1 ≤ v) && decide (v ≤ 9))) := by
  unfold okCounts; rw [take_of_get h, List.all_append]; simp
theorem okCounts_no {c : List Int} {k : Nat} {v : Int} (h : c[k]? = some v) (hv : v < 1 ∨ 9 < v) : okCounts c = false := by
  cases e : okCounts c with
  | false => rfl
  | true => have := okCounts_mem e v (List.mem_of_getElem? h); omega
theorem chkS_short {l : List Int} {d : Int} (h : l.length = 0) : chkS l d = 6 := by unfold chkS; rw [if_pos h]
theorem chkS_full {l : List Int} {d : Int} (h : 6 < l.length) : chkS l d = 8 := by unfold chkS; rw [if_neg (by omega), if_pos h]
theorem chkS_bad {l : List Int} {d : Int} (h0 : 0 < l.length) (h : l.length ≤ 6) (hc : okCounts l = false) : chkS l d = 2 := by unfold chkS; rw [if_neg (by omega), if_neg (by omega), if_pos hc]
theorem chkS_good {l : List Int} {d : Int} (h0 : 0 < l.length) (h : l.length ≤ 6) (hc : okCounts l = true) : chkS l d = if 1 ≤ d ∧ d ≤ min 9 (sumI l) then 0 else 2 := by
  unfold chkS; rw [if_neg (by omega), if_neg (by omega), if_neg (by rw [hc]; simp)]

set_option maxHeartbeats 400000 in
theorem withinD_any (n lo hi : Int) (w : World) : Calls Try.prog 88 #[.int .i64 n, .int .i64 lo, .int .i64 hi] w fun e w' => e = .returned (.bool (decide (lo ≤ n) && decide (n ≤ hi))) ∧ w' = w := by
  by_cases h : lo ≤ n
  · have g : decide (lo ≤ n) = true := decide_eq_true h
    go_enter Try.func88, Try.ntmps88
    go_wp2
    go_ret
    exact ⟨ret_bool (by rw [g, Bool.true_and]), rfl⟩
  · have g : decide (lo ≤ n) = false := decide_eq_false h
    go_enter Try.func88, Try.ntmps88
    go_wp2
    go_ret
    exact ⟨ret_bool (by simp), rfl⟩
theorem within_yes {lo n hi : Int} (h1 : lo ≤ n) (h2 : n ≤ hi) : (decide (lo ≤ n) && decide (n ≤ hi)) = true := by simp [h1, h2]
theorem within_no {lo n hi : Int} (h : n < lo ∨ hi < n) : (decide (lo ≤ n) && decide (n ≤ hi)) = false := by
  rw [Bool.and_eq_false_iff, decide_eq_false_iff_not, decide_eq_false_iff_not]; omega

set_option maxHeartbeats 1000000 in
set_option maxRecDepth 100000 in
theorem checkS_any (A : Option Addr) (n c : Nat) (l : List Int) (d : Int) (w : World) (h : RdI w A n l) (_hd : I64 d) : Calls Try.prog 32 #[.agg #[.slice A n c, .int .i64 d]] w (NumM (chkS l d) w) := by
  have hlen := h.len
  have hn := h.bd
  go_enter Try.func32, Try.ntmps32
  go_upto_region 1 with fail
  have HA := Lib.hid (h.alloc (.cells #[.slice A n c, .int .i64 d] 24))
  have HB := Lib.hid ((Below.refl _ w).alloc (Nat.le_refl _) (.cells #[.slice A n c, .int .i64 d] 24))
  have hbx := Blk.new w 24 #[.slice A n c, .int .i64 d]
  have HX := Lib.hid hbx
  clear hbx h
  generalize w.alloc (.cells #[.slice A n c, .int .i64 d] 24) = W at HA HB HX ⊢
  have c0 : W.cell? ⟨w.heap.size, 0, none⟩ = some (.slice A n c) := by rw [HX.out.cell]; rfl
  have c1 : W.cell? ⟨w.heap.size, 1, none⟩ = some (.int .i64 d) := by rw [HX.out.cell]; rfl
  clear HX
  by_cases h0 : n = 0
  · have HC := Lib.hid (chkS_short (l := l) (d := d) (by omega)); clear hlen
    subst h0
    go_wp2
    go_ret
    exact ⟨ret_int HC.out.symm, HB.out⟩
  by_cases h6 : 6 < n
  · have HC := Lib.hid (chkS_full (l := l) (d := d) (by omega)); clear hlen
    have g0 : ((n : Int) == 0) = false := by simp; omega
    go_wp2
    go_ret
    exact ⟨ret_int HC.out.symm, HB.out⟩
  have g0 : ((n : Int) == 0) = false := by simp; omega
  have g6 : (n : Int) ≤ 6 := by omega
  have hn0 : 0 < n := by omega
  have HL := Lib.hid hlen
  clear hlen
  go_wp2_with fail
  go_loop [18] (fun i => ∃ k : Nat, k ≤ n ∧ i = .int .i64 k ∧ Hid (okCounts (l.take k) = true)) (fun i => n - (intOf i).toNat)
  case atStart => exact ⟨0, by omega, rfl, rfl⟩
  case round =>
    obtain ⟨k, hk, rfl, HK⟩ := hrel
    by_cases hlt : k < n
    · obtain ⟨ad, v, rfl, _, hv, _, hcell⟩ := HA.out.at_ hlt
      by_cases hr : v < 1 ∨ 9 < v
      · have HC := Lib.hid (chkS_bad (d := d) (by rw [HL.out]; exact hn0) (by rw [HL.out]; omega) (okCounts_no hv.out hr))
        have HW := Lib.hid (within_no hr)
        clear hr
        go_wp2_with fail
        refine (withinD_any v 1 9 W).mono ?_; rintro e w' ⟨rfl, rfl⟩
        rw [HW.out]
        go_wp2
        go_ret
        exact ⟨ret_int HC.out.symm, HB.out⟩
      · have hv1 : 1 ≤ v := by omega
        have hv9 : v ≤ 9 := by omega
        have HT : Hid (okCounts (l.take (k + 1)) = true) := Lib.hid (by rw [okCounts_take hv.out, HK.out]; simp; omega)
        have HW := Lib.hid (within_yes hv1 hv9)
        clear hr
        go_wp2_with fail
        refine (withinD_any v 1 9 W).mono ?_; rintro e w' ⟨rfl, rfl⟩
        rw [HW.out]
        go_wp2
        go_round
        case rel => exact ⟨k + 1, by omega, by go_num, HT⟩
        case measure => simp [intOf]; omega
    · obtain rfl : k = n := by omega
      have hok : okCounts l = true := by have := HK.out; rwa [List.take_of_length_le (by rw [HL.out]; omega)] at this
      have HC := Lib.hid (chkS_good (d := d) (by rw [HL.out]; exact hn0) (by rw [HL.out]; omega) hok)
      have hs := okCounts_sum hok (by rw [HL.out]; omega)
      have HM := Lib.hid (okCounts_mem hok)
      obtain ⟨s, hse⟩ : ∃ s, sumI l = s := ⟨_, rfl⟩
      rw [hse] at hs HC
      have HS := Lib.hid hse
      clear hok hse HK
      go_upto_region 11 with fail
      have HSL : Hid (∀ x ∈ l, 0 ≤ x ∧ x ≤ 1000) := Lib.hid (fun x hx => by have := HM.out x hx; omega)
      have hk6 : k ≤ 1000 := by omega
      have HQ : Hid (∀ W', RdI W' A k l → Calls Try.prog 80 #[.slice A k c] W' (Num s W')) := Lib.hid (fun W' h' => by rw [← HS.out]; exact sumD_any A k c l W' h' HSL.out hk6)
      obtain ⟨y, hy⟩ : ∃ y, (decide (1 ≤ d) && decide (d ≤ min 9 s)) = y := ⟨_, rfl⟩
      have HW : Hid (∀ W', Calls Try.prog 88 #[.int .i64 d, .int .i64 1, .int .i64 (if s < 9 then s else 9)] W' fun e w' => e = .returned (.bool y) ∧ w' = W') := Lib.hid (fun W' => by rw [int_min, ← hy]; exact withinD_any d 1 (min 9 s) W')
      have HR : Hid (chkS l d = if y = true then 0 else 2) := Lib.hid (by rw [HC.out, ← hy]; simp only [Bool.and_eq_true, decide_eq_true_eq])
      clear hy HM HC HSL
      go_quiet (first
        | (go_at_call 80; exact Calls.quiet_of_same (HQ.out _ (HA.out.drewN _)))
        | (go_at_call 88; exact Calls.quiet_of_same (HW.out _)))
      cases y
      · go_wp2
        all_goals go_ret
        all_goals exact ⟨ret_int HR.out.symm, below_drewN HB.out _⟩
      · go_wp2
        all_goals go_ret
        all_goals exact ⟨ret_int HR.out.symm, below_drewN HB.out _⟩

/-- two numbers, and new memory -/
def Num2M (v : Int × Int) (w : World) (e : Ending) (w' : World) : Prop := e = .returned (.tuple #[.int .i64 v.1, .int .i64 v.2]) ∧ Below w.heap.size w w'

set_option maxHeartbeats 1000000 in
set_option maxRecDepth 100000 in
theorem ways_any (A : Option Addr) (n c : Nat) (l : List Int) (d : Int) (w : World) (h : RdI w A n l) (hd : I64 d) : Calls Try.prog 28 #[.agg #[.slice A n c, .int .i64 d]] w (Num2M (waysE l d) w) := by
  have hlen := h.len
  go_enter Try.func28, Try.ntmps28
  go_upto_region 1 with fail
  have HA := Lib.hid (h.alloc (.cells #[.slice A n c, .int .i64 d] 24))
  have HB := Lib.hid ((Below.refl _ w).alloc (Nat.le_refl _) (.cells #[.slice A n c, .int .i64 d] 24))
  have HX := Lib.hid (Blk.new w 24 #[.slice A n c, .int .i64 d])
  clear h
  generalize w.alloc (.cells #[.slice A n c, .int .i64 d] 24) = W at HA HB HX ⊢
  have c0 : W.cell? ⟨w.heap.size, 0, none⟩ = some (.slice A n c) := by rw [HX.out.cell]; rfl
  have c1 : W.cell? ⟨w.heap.size, 1, none⟩ = some (.int .i64 d) := by rw [HX.out.cell]; rfl
  go_wp2_with fail
  refine (checkS_any A n c l d W HA.out hd).mono ?_; rintro e w2 ⟨rfl, hb⟩
  have HA2 := Lib.hid (HA.out.below hb)
  have HX2 := Lib.hid (HX.out.below hb)
  have HB2 := Lib.hid (HB.out.trans (hb.mono HB.out.size))
  have c02 : w2.cell? ⟨w.heap.size, 0, none⟩ = some (.slice A n c) := by rw [HX2.out.cell]; rfl
  have c12 : w2.cell? ⟨w.heap.size, 1, none⟩ = some (.int .i64 d) := by rw [HX2.out.cell]; rfl
  clear hb HX c0 c1 HX2
  by_cases hz : chkS l d = 0
  · have hk := chkS_ok hz
    have hks := okCounts_mem hk.2.2.1
    have HV : Hid (waysE l d = (fallN (sumI l) d.toNat, 0)) := Lib.hid (by unfold waysE; rw [if_neg (by omega)])
    obtain ⟨s, hse⟩ : ∃ s, sumI l = s := ⟨_, rfl⟩
    rw [hse] at hk HV
    obtain ⟨d, rfl⟩ : ∃ d' : Nat, d = d' := ⟨d.toNat, by omega⟩
    rw [Int.toNat_natCast] at HV
    have HQ : Hid (∀ W', RdI W' A n l → Calls Try.prog 80 #[.slice A n c] W' (Num s W')) := Lib.hid (fun W' h' => by rw [← hse]; exact sumD_any A n c l W' h' (fun x hx => by have := hks x hx; omega) (by omega))
    have HF : Hid (∀ W', Calls Try.prog 79 #[.int .i64 s, .int .i64 d] W' (Num (fallN s d) W')) := Lib.hid (fun W' => falling_any s d W' (by omega) (by omega) (by omega))
    clear hk hks hse
    rw [hz]
    clear hz
    go_wp2_with fail
    go_quiet (first
      | (go_at_call 80; exact Calls.quiet_of_same (HQ.out _ (HA2.out.drewN _)))
      | (go_at_call 79; exact Calls.quiet_of_same (HF.out _)))
    go_wp2
    go_ret2
    rw [HV.out]; exact ⟨rfl, below_drewN HB2.out _⟩
  · have HV : Hid (waysE l d = (0, chkS l d)) := Lib.hid (by unfold waysE; rw [if_pos hz])
    have g : (chkS l d != 0) = true := by simpa using hz
    clear hz
    generalize chkS l d = z at g HV ⊢
    go_wp2
    go_ret2
    rw [HV.out]; exact ⟨rfl, HB2.out⟩
end Go.Proofs.Ytcmacejpoihhlaa
