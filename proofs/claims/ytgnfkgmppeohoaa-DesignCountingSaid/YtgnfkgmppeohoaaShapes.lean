/- Walks: all partitions of a stock with their ways, handed out one by one. -/
import Derived.Stop.RegionWithIn
import Derived.Test.YtgnfkgmppeohoaaNextP
import Derived.Test.YtgnfkgmppeohoaaChance2
namespace Go.Proofs.Ytgnfkgmppeohoaa
open Go.RowKit Go.Shelf

theorem pr_zero : ∀ d, d < 7 → pr d 0 = List.replicate d 0 := by decide +kernel

theorem count_pos {d : Nat} (h1 : 1 ≤ d) (h6 : d ≤ 6) : 1 ≤ countR d ∧ countR d ≤ 203 := by
  have h : ∀ d, d < 7 → 1 ≤ d → 1 ≤ countR d ∧ countR d ≤ 203 := by decide +kernel
  exact h d (by omega) h1

set_option maxHeartbeats 1000000 in
set_option maxRecDepth 100000 in
theorem shapesIter_any (lp : Nat) (J : Nat → Nat → World → Prop) (bd bc : Nat) (A : Option Addr) (n c : Nat) (cnt : List Int) (d B0 : Nat) (W : World) (hd1 : 1 ≤ d) (hd6 : d ≤ 6) (hn1 : 1 ≤ n) (hn6 : n ≤ 6) (hok : okCounts cnt = true)
    (hJ : ∀ (k B : Nat) W', J k B W' → B ≤ W'.heap.size ∧ W'.cell? ⟨bd, 0, none⟩ = some (.int .i64 d) ∧ W'.cell? ⟨bc, 0, none⟩ = some (.slice A n c) ∧ RdI W' A n cnt)
    (hJb : ∀ (k B : Nat) W1 W2, J k B W1 → Below W1.heap.size W1 W2 → J k B W2) (hJd : ∀ (k B : Nat) W1, J k B W1 → J k B W1.drew) (h0 : J 0 B0 W)
    (hY : ∀ (k B : Nat) (A' : Option Addr) (c' : Nat) W1, (k : Int) < countR d → J k B W1 → OwnI W1 B 3 A' d c' (pr d k) → YieldAt Fence.wide 1 Try.prog lp #[.slice A' d c', .int .i64 (waysOf cnt (pr d k))] W1 fun e W' => e = .returned (.bool true) ∧ ∃ B', J (k + 1) B' W' ∧ RdI W' A' d (pr d k)) :
    CallsIn Fence.wide 2 Try.prog 122 #[.func (.yield lp) #[] #[], .pointer (some ⟨bd, 0, none⟩), .pointer (some ⟨bc, 0, none⟩)] W fun e W' => (∃ v, e = .returned v) ∧ ∃ B, J (countR d).toNat B W' := by
  have HJ := Lib.hid hJ
  have HJB := Lib.hid hJb
  have HJD := Lib.hid hJd
  have HY := Lib.hid hY
  have H0 := Lib.hid h0
  have hw0 := hJ _ _ _ h0
  have hcd := hw0.2.1
  have hB0 := hw0.1
  clear hJ hJb hY h0 hw0 hJd
  obtain ⟨i0, hi0, hz0, hz1, hz2⟩ := info_parts intInfo
  refine callsIn_of_wp Try.func122 rfl trivial ?_ rfl
  simp only [Try.ntmps122, List.size_toArray, List.length_cons, List.length_nil, Nat.reduceAdd, Nat.reduceSub, Array.replicate_succ, Array.replicate_zero, List.push_toArray, List.append_toArray, List.nil_append, List.cons_append]
  obtain ⟨w3, hrun, hown, hg3⟩ := run_make_full (P := Try.prog) W W.heap.size 22 3 i0 (.int .i64 0) 1 Try.underlying22 hi0 hz0 hz1 .i64 .i64 d (by rw [hz2]; omega) (by unfold maxLen; omega) (Nat.le_refl _)
  have HO3 : Hid (OwnI w3 B0 3 (some ⟨W.heap.size, 0, none⟩) d d (pr d 0)) := by
    refine ⟨⟨?_, by omega⟩, fun v hv => ?_⟩
    · rw [show (madeCells (Value.int .i64 0).cells (d * 1)).toList = ints (pr d 0) from by rw [Nat.mul_one]; show (madeCells #[Value.int .i64 0] d).toList = _; rw [toList_madeCells_one, pr_zero d (by omega)]; simp [ints]] at hown
      exact (Own.mono (w := w3) (A := some ⟨W.heap.size, 0, none⟩) (c := d) (size := 1) ⟨hown, by omega⟩ hB0).1
    · rw [pr_zero d (by omega)] at hv
      rw [(List.mem_replicate.1 hv).2]
      exact I64.small (by omega)
  have HJ3 := Lib.hid (HJB.out _ _ _ _ H0.out ((Below.refl _ W).grown hg3 (Nat.le_refl _) (by simp)))
  have hcp := count_pos hd1 hd6
  obtain ⟨m, hm⟩ : ∃ m : Nat, countR d = m := ⟨(countR d).toNat, by omega⟩
  have HCM := Lib.hid hm
  rw [hm] at hcp HY
  have hm1 : 1 ≤ m := by omega
  rw [hm, Int.toNat_natCast]
  have HCK : Hid (∀ k : Nat, chk (pr d k) = 0) := Lib.hid (pr_chk hd1 (by omega))
  have HNX : Hid (∀ k : Nat, nextE (pr d k) = if k + 1 < m then (pr d (k + 1), 0) else if k + 1 = m then ([], 7) else nextE (pr d k)) := Lib.hid (fun k => by
    by_cases h1 : k + 1 < m
    · rw [if_pos h1]
      have := (next_pr hd1 (by omega) (r := k) (by rw [hm]; omega)).1
      unfold nextE
      rw [if_neg (by rw [HCK.out k]; simp), this]
    · rw [if_neg h1]
      by_cases h2 : k + 1 = m
      · rw [if_pos h2]
        have := last_pr hd1 (by omega) (r := k) (by rw [hm]; omega)
        unfold nextE
        rw [if_neg (by rw [HCK.out k]; simp), this]
      · rw [if_neg h2])
  have HLC : Hid (cnt.length = n) := Lib.hid (HJ.out _ _ _ H0.out).2.2.2.len
  have HPL : Hid (∀ k : Nat, (pr d k).length = d) := Lib.hid (fun k => pr_len d k)
  clear hown hg3 hi0 hz0 hz1 hz2 hm hcp H0 hB0
  gi_wp2_with fail
  obtain ⟨R, hRdef⟩ : ∃ R : Nat → Value → Value → World → Prop, ∀ j p e wr, R j p e wr ↔ ∃ B : Nat, (∃ (k : Nat) (A' : Option Addr) (c' : Nat), k < m ∧ j = m - k ∧ p = .slice A' d c' ∧ e = .int .i64 0 ∧ J k B wr ∧ OwnI wr B 3 A' d c' (pr d k)) ∨ (j = 0 ∧ e = .int .i64 7 ∧ J m B wr) := ⟨_, fun _ _ _ _ => Iff.rfl⟩
  have HRD := Lib.hid hRdef
  clear hRdef
  gi_loopw [4, 5] (fun p e wr => ∃ j, R j p e wr) (fun p e wr => leastOf (fun j => R j p e wr))
  case atStart => exact ⟨m, (HRD.out _ _ _ _).2 ⟨B0, .inl ⟨0, _, _, by omega, by omega, rfl, rfl, HJ3.out, HO3.out⟩⟩⟩
  case round =>
    obtain ⟨hle, hmin⟩ := leastOf_spec hrel
    obtain ⟨B, ⟨k, A', c', hkm, hj, rfl, rfl, hj1, ho⟩ | ⟨hj, rfl, hj1⟩⟩ := (HRD.out _ _ _ _).1 hle
    · have HJ1 := Lib.hid hj1
      have HO1 := Lib.hid ho
      obtain ⟨hB, hcd1, hcc1, hrd1⟩ := HJ.out _ _ _ hj1
      have HRC := Lib.hid hrd1
      have HLE := Lib.hid hj
      clear hj1 ho hrd1 hle hmin hrel HJ3 HO3 hrun hj hcd
      gi_wp2_with fail
      refine ⟨trivial, ?_⟩
      refine (callsIn_wide.2 (leftOf_any A n c cnt wr HRC.out hn6 hn1)).mono ?_; rintro e w5 ⟨rfl, hb5⟩
      have HJ5 := Lib.hid (HJB.out _ _ _ _ HJ1.out hb5)
      have HO5 := Lib.hid (HO1.out.below hb5)
      clear hb5 HJ1 HO1 HRC hcd1 hcc1
      gi_wp2_with fail
      refine ⟨trivial, ?_⟩
      refine (callsIn_wide.2 (chance_any A' d c' (pr d k) (pad6 cnt) w5 HO5.out.rd (HCK.out k) (pad6_len (by rw [HLC.out]; exact hn6)) (pad6_kinds (by rw [HLC.out]; exact hn6) hok))).mono ?_; rintro e w6 ⟨rfl, hb6⟩
      have HJ6 := Lib.hid (HJB.out _ _ _ _ HJ5.out hb6)
      have HO6 := Lib.hid (HO5.out.below hb6)
      clear hb6 HJ5 HO5
      obtain ⟨fn, tmps, assign, body, hy, hR⟩ := HY.out k B A' c' w6 (by omega) HJ6.out HO6.out
      unfold waysOf at hy
      generalize chanceP (sizesOf (pr d k)) (pad6 cnt) = x at hy ⊢
      gi_wp2_with fail
      refine hR.mono ?_
      rintro e w7 ⟨rfl, B7, hj7, hr7⟩
      have HJ7 := Lib.hid hj7
      have HR7 := Lib.hid hr7
      clear hj7 hr7 hy hR HJ6 HO6
      gi_wp2_with fail
      refine ⟨trivial, ?_⟩
      have hB7 := (HJ.out _ _ _ HJ7.out).1
      have hnx := HNX.out k
      by_cases hk1 : k + 1 < m
      · rw [if_pos hk1] at hnx
        refine (callsIn_wide.2 (next_any A' d c' (pr d k) w7 HR7.out)).mono ?_; rintro e w8 ⟨A8, c8, rfl, ho8, hb8⟩
        rw [hnx] at ho8 ⊢
        simp only at ho8 ⊢
        rw [HPL.out] at ho8
        rw [HPL.out]
        have HJ8 := Lib.hid (HJB.out _ _ _ _ HJ7.out hb8)
        have HO8 := Lib.hid (ho8.mono hB7)
        clear ho8 hb8 hnx HJ7 HR7 hB7
        gi_wp2
        have hnew := (HRD.out (m - (k + 1)) _ (.int .i64 0) w8).2 ⟨B7, .inl ⟨k + 1, A8, c8, hk1, rfl, rfl, rfl, HJ8.out, HO8.out⟩⟩
        exact ⟨⟨_, hnew⟩, Nat.lt_of_le_of_lt ((leastOf_spec ⟨_, hnew⟩).2 _ hnew) (by rw [HLE.out]; omega)⟩
      · rw [if_neg hk1, if_pos (by omega)] at hnx
        refine (callsIn_wide.2 (next_any A' d c' (pr d k) w7 HR7.out)).mono ?_; rintro e w8 ⟨A8, c8, rfl, ho8, hb8⟩
        rw [hnx] at ho8 ⊢
        simp only at ho8 ⊢
        have HJ8 := Lib.hid (HJB.out _ _ _ _ HJ7.out hb8)
        clear hb8 hnx HJ7 HR7 hB7
        have hkm1 : k + 1 = m := by omega
        rw [hkm1] at HJ8
        gi_wp2
        have hnew := (HRD.out 0 (.slice A8 0 c8) (.int .i64 7) w8).2 ⟨B7, .inr ⟨rfl, rfl, HJ8.out⟩⟩
        exact ⟨⟨_, hnew⟩, Nat.lt_of_le_of_lt ((leastOf_spec ⟨_, hnew⟩).2 _ hnew) (by rw [HLE.out]; omega)⟩
    · have HJ1 := Lib.hid hj1
      clear hle hmin hrel hj1 HJ3 HO3 hrun hj
      gi_wp2
      go_end0
      exact ⟨⟨_, rfl⟩, B, HJ1.out⟩
end Go.Proofs.Ytgnfkgmppeohoaa
