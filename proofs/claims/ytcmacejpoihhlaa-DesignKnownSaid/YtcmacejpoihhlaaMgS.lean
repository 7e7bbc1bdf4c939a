/- Walks: all partitions of a stock with their ways, handed out one by one. Walks: Shapes: how many ways each partition has. Walk: the warm-up of the design laws: some of the chapter's examples. Walks: the best guess of the program. Walks: the ways of a partition, of all, and the best guess, by the reference. Walks: all partitions, the ways of each, and the best guess, by the reference; Chance of both sides. Walks: the fairest counts: the program's try, by recursion. Walks: the numbers of all pairs of guests, handed out. Walk: all orders of the program, handed out one by one. -/
import Derived.Stop.RegionWithIn
import Derived.Test.YtcmacejpoihhlaaMgR
import Derived.Test.YtcmacejpoihhlaaMgP
import Derived.Test.YtcmacejpoihhlaaMgJ
import Derived.Test.YtcmacejpoihhlaaMgE
import Derived.Test.YtcmacejpoihhlaaMgB
import Derived.Test.YtcmacejpoihhlaaMgQ
import Derived.Test.YtcmacejpoihhlaaMgI
import Derived.Test.YtcmacejpoihhlaaMgN
import Derived.Test.YtcmacejpoihhlaaMgG
namespace Go.Proofs.Ytcmacejpoihhlaa
open Go.RowKit Go.Shelf

theorem pr_zero : ∀ d, d < 7 → pr d 0 = List.replicate d 0 := by decide +kernel

theorem count_pos {d : Nat} (h1 : 1 ≤ d) (h6 : d ≤ 6) : 1 ≤ countR d ∧ countR d ≤ 203 := by
  have h : ∀ d, d < 7 → 1 ≤ d → 1 ≤ countR d ∧ countR d ≤ 203 := by decide +kernel
  exact h d (by omega) h1

set_option maxHeartbeats 1000000 in
set_option maxRecDepth 100000 in
theorem shapesIter_any (lp : Nat) (J : Nat → Nat → World → Prop) (bd bc : Nat) (A : Option Addr) (n c : Nat) (cnt : List Int) (d B0 : Nat) (W : World) (hd1 : 1 ≤ d) (hd6 : d ≤ 6) (hn1 : 1 ≤ n) (hn6 : n ≤ 6) (hok : okCounts cnt = true)
    (hJ : ∀ (k B : Nat) W', J k B W' → B ≤ W'.heap.size ∧ W'.cell? ⟨bd, 0, none⟩ = some (.int .i64 d) ∧ W'.cell? ⟨bc, 0, none⟩ = some (.slice A n c) ∧ RdI W' A n cnt)
    (hJb : ∀ (k B : Nat) W1 W2, J k B W1 → Below W1.heap.size W1 W2 → J k B W2) (hJd : ∀ (k B : Nat) W1, J k B W1 → J k B W1.drew) (h0 : J 0 B0 W)
    (hY : ∀ (k B : Nat) (A' : Option Addr) (c' : Nat) W1, (k : Int) < countR d → J k B W1 → OwnI W1 B 3 A' d c' (pr d k) → YieldAt Fence.wide 1 Try.prog lp #[.slice A' d c', .int .i64 (waysOf cnt (pr d k))] W1 fun e W' => e = .returned (.bool true) ∧ ∃ B', J (k + 1) B' W' ∧ RdI W' A' d (pr d k)) :
    CallsIn Fence.wide 2 Try.prog 122 #[.func (.yield lp) #[] #[], .pointer (some ⟨bd, 0, none⟩), .pointer (some ⟨bc, 0, none⟩)] W fun e W' => (∃ v, e = .returned v) ∧ ∃ B, J (countR d).toNat B W' := by
  have HJ := Lib.hid hJ
  have HJB := Lib.hid hJb
  have HJD := Lib.hid hJd
  have HY := Lib.hid hY
  have H0 := Lib.hid h0
  have hw0 := hJ _ _ _ h0
  have hcd := hw0.2.1
  have hB0 := hw0.1
  clear hJ hJb hY h0 hw0 hJd
  obtain ⟨i0, hi0, hz0, hz1, hz2⟩ := info_parts intInfo
  refine callsIn_of_wp Try.func122 rfl trivial ?_ rfl
  simp only [Try.ntmps122, List.size_toArray, List.length_cons, List.length_nil, Nat.reduceAdd, Nat.reduceSub, Array.replicate_succ, Array.replicate_zero, List.push_toArray, List.append_toArray, List.nil_append, List.cons_append]
  obtain ⟨w3, hrun, hown, hg3⟩ := run_make_full (P := Try.prog) W W.heap.size 22 3 i0 (.int .i64 0) 1 Try.underlying22 hi0 hz0 hz1 .i64 .i64 d (by rw [hz2]; omega) (by unfold maxLen; omega) (Nat.le_refl _)
  have HO3 : Hid (OwnI w3 B0 3 (some ⟨W.heap.size, 0, none⟩) d d (pr d 0)) := by
    refine ⟨⟨?_, by omega⟩, fun v hv => ?_⟩
    · rw [show (madeCells (Value.int .i64 0).cells (d * 1)).toList = ints (pr d 0) from by rw [Nat.mul_one]; show (madeCells #[Value.int .i64 0] d).toList = _; rw [toList_madeCells_one, pr_zero d (by omega)]; simp [ints]] at hown
      exact (Own.mono (w := w3) (A := some ⟨W.heap.size, 0, none⟩) (c := d) (size := 1) ⟨hown, by omega⟩ hB0).1
    · rw [pr_zero d (by omega)] at hv
      rw [(List.mem_replicate.1 hv).2]
      exact I64.small (by omega)
  have HJ3 := Lib.hid (HJB.out _ _ _ _ H0.out ((Below.refl _ W).grown hg3 (Nat.le_refl _) (by simp)))
  have hcp := count_pos hd1 hd6
  obtain ⟨m, hm⟩ : ∃ m : Nat, countR d = m := ⟨(countR d).toNat, by omega⟩
  have HCM := Lib.hid hm
  rw [hm] at hcp HY
  have hm1 : 1 ≤ m := by omega
  rw [hm, Int.toNat_natCast]
  have HCK : Hid (∀ k : Nat, chk (pr d k) = 0) := Lib.hid (pr_chk hd1 (by omega))
  have HNX : Hid (∀ k : Nat, nextE (pr d k) = if k + 1 < m then (pr d (k + 1), 0) else if k + 1 = m then ([], 7) else nextE (pr d k)) := Lib.hid (fun k => by
    by_cases h1 : k + 1 < m
    · rw [if_pos h1]
      have := (next_pr hd1 (by omega) (r := k) (by rw [hm]; omega)).1
      unfold nextE
      rw [if_neg (by rw [HCK.out k]; simp), this]
    · rw [if_neg h1]
      by_cases h2 : k + 1 = m
      · rw [if_pos h2]
        have := last_pr hd1 (by omega) (r := k) (by rw [hm]; omega)
        unfold nextE
        rw [if_neg (by rw [HCK.out k]; simp), this]
      · rw [if_neg h2])
  have HLC : Hid (cnt.length = n) := Lib.hid (HJ.out _ _ _ H0.out).2.2.2.len
  have HPL : Hid (∀ k : Nat, (pr d k).length = d) := Lib.hid (fun k => pr_len d k)
  clear hown hg3 hi0 hz0 hz1 hz2 hm hcp H0 hB0
  gi_wp2_with fail
  obtain ⟨R, hRdef⟩ : ∃ R : Nat → Value → Value → World → Prop, ∀ j p e wr, R j p e wr ↔ ∃ B : Nat, (∃ (k : Nat) (A' : Option Addr) (c' : Nat), k < m ∧ j = m - k ∧ p = .slice A' d c' ∧ e = .int .i64 0 ∧ J k B wr ∧ OwnI wr B 3 A' d c' (pr d k)) ∨ (j = 0 ∧ e = .int .i64 7 ∧ J m B wr) := ⟨_, fun _ _ _ _ => Iff.rfl⟩
  have HRD := Lib.hid hRdef
  clear hRdef
  gi_loopw [4, 5] (fun p e wr => ∃ j, R j p e wr) (fun p e wr => leastOf (fun j => R j p e wr))
  case atStart => exact ⟨m, (HRD.out _ _ _ _).2 ⟨B0, .inl ⟨0, _, _, by omega, by omega, rfl, rfl, HJ3.out, HO3.out⟩⟩⟩
  case round =>
    obtain ⟨hle, hmin⟩ := leastOf_spec hrel
    obtain ⟨B, ⟨k, A', c', hkm, hj, rfl, rfl, hj1, ho⟩ | ⟨hj, rfl, hj1⟩⟩ := (HRD.out _ _ _ _).1 hle
    · have HJ1 := Lib.hid hj1
      have HO1 := Lib.hid ho
      obtain ⟨hB, hcd1, hcc1, hrd1⟩ := HJ.out _ _ _ hj1
      have HRC := Lib.hid hrd1
      have HLE := Lib.hid hj
      clear hj1 ho hrd1 hle hmin hrel HJ3 HO3 hrun hj hcd
      gi_wp2_with fail
      refine ⟨trivial, ?_⟩
      refine (callsIn_wide.2 (leftOf_any A n c cnt wr HRC.out hn6 hn1)).mono ?_; rintro e w5 ⟨rfl, hb5⟩
      have HJ5 := Lib.hid (HJB.out _ _ _ _ HJ1.out hb5)
      have HO5 := Lib.hid (HO1.out.below hb5)
      clear hb5 HJ1 HO1 HRC hcd1 hcc1
      gi_wp2_with fail
      refine ⟨trivial, ?_⟩
      refine (callsIn_wide.2 (chance_any A' d c' (pr d k) (pad6 cnt) w5 HO5.out.rd (HCK.out k) (pad6_len (by rw [HLC.out]; exact hn6)) (pad6_kinds (by rw [HLC.out]; exact hn6) hok))).mono ?_; rintro e w6 ⟨rfl, hb6⟩
      have HJ6 := Lib.hid (HJB.out _ _ _ _ HJ5.out hb6)
      have HO6 := Lib.hid (HO5.out.below hb6)
      clear hb6 HJ5 HO5
      obtain ⟨fn, tmps, assign, body, hy, hR⟩ := HY.out k B A' c' w6 (by omega) HJ6.out HO6.out
      unfold waysOf at hy
      generalize chanceP (sizesOf (pr d k)) (pad6 cnt) = x at hy ⊢
      gi_wp2_with fail
      refine hR.mono ?_
      rintro e w7 ⟨rfl, B7, hj7, hr7⟩
      have HJ7 := Lib.hid hj7
      have HR7 := Lib.hid hr7
      clear hj7 hr7 hy hR HJ6 HO6
      gi_wp2_with fail
      refine ⟨trivial, ?_⟩
      have hB7 := (HJ.out _ _ _ HJ7.out).1
      have hnx := HNX.out k
      by_cases hk1 : k + 1 < m
      · rw [if_pos hk1] at hnx
        refine (callsIn_wide.2 (next_any A' d c' (pr d k) w7 HR7.out)).mono ?_; rintro e w8 ⟨A8, c8, rfl, ho8, hb8⟩
        rw [hnx] at ho8 ⊢
        simp only at ho8 ⊢
        rw [HPL.out] at ho8
        rw [HPL.out]
        have HJ8 := Lib.hid (HJB.out _ _ _ _ HJ7.out hb8)
        have HO8 := Lib.hid (ho8.mono hB7)
        clear ho8 hb8 hnx HJ7 HR7 hB7
        gi_wp2
        have hnew := (HRD.out (m - (k + 1)) _ (.int .i64 0) w8).2 ⟨B7, .inl ⟨k + 1, A8, c8, hk1, rfl, rfl, rfl, HJ8.out, HO8.out⟩⟩
        exact ⟨⟨_, hnew⟩, Nat.lt_of_le_of_lt ((leastOf_spec ⟨_, hnew⟩).2 _ hnew) (by rw [HLE.out]; omega)⟩
      · rw [if_neg hk1, if_pos (by omega)] at hnx
        refine (callsIn_wide.2 (next_any A' d c' (pr d k) w7 HR7.out)).mono ?_; rintro e w8 ⟨A8, c8, rfl, ho8, hb8⟩
        rw [hnx] at ho8 ⊢
        simp only at ho8 ⊢
        have HJ8 := Lib.hid (HJB.out _ _ _ _ HJ7.out hb8)
        clear hb8 hnx HJ7 HR7 hB7
        have hkm1 : k + 1 = m := by omega
        rw [hkm1] at HJ8
        gi_wp2
        have hnew := (HRD.out 0 (.slice A8 0 c8) (.int .i64 7) w8).2 ⟨B7, .inr ⟨rfl, rfl, HJ8.out⟩⟩
        exact ⟨⟨_, hnew⟩, Nat.lt_of_le_of_lt ((leastOf_spec ⟨_, hnew⟩).2 _ hnew) (by rw [HLE.out]; omega)⟩
    · have HJ1 := Lib.hid hj1
      clear hle hmin hrel hj1 HJ3 HO3 hrun hj
      gi_wp2
      go_end0
      exact ⟨⟨_, rfl⟩, B, HJ1.out⟩
end Go.Proofs.Ytcmacejpoihhlaa

namespace Go.Proofs.Ytcmacejpoihhlaa
open Go.RowKit Go.Shelf
attribute [local go_sem] Oper.semAt_some

/-- an append, its run known, inside a fence -/
theorem wpListIn_app_run {F : Fence} {n : Nat} {P : Program} (w : World) {ops : Array Oper} {rest : List Oper} {o : Oper} {a : Act} {Q : Exit → Act → World → Prop}
    (hg : o.guard = none) (s x : Operand) (t : TypeId) (hop : o.op = Op.call { callee := Callee.builtin Builtin.append, args := #[s, x], argTypes := #[t, t] })
    (v u : Value) (hs : a.eval s = v) (hx : a.eval x = u) {v' : Value} {w' : World} (hrun : (Builtin.append_ #[t, t] o.type #[v, u]).run P w = .ok v' w') (hK : wpListIn F n P ops Q rest (a.put o.dst v') w') :
    wpListIn F n P ops Q (o :: rest) a w := by
  refine wpListIn_plain hg fun K hK' => ?_
  unfold Oper.wpIn
  refine ⟨?_, ?_⟩
  · simp [Oper.about, hop, resolve, Target.leads, Sem.run_pure]
  · rw [Oper.semAt_plain F _ _ (by rw [hop]; intro c hc'; cases hc')]
    simp [execOp, hop, resolve, invoke, builtin, hs, hx, hrun, Result.andThen]
    exact hK' _ _ hK

set_option maxHeartbeats 1000000 in
set_option maxRecDepth 100000 in
theorem shaped_any (A : Option Addr) (n c : Nat) (l : List Int) (d : Int) (w : World) (h : RdI w A n l) (hd : I64 d) : Calls Try.prog 90 #[.agg #[.slice A n c, .int .i64 d]] w (NumM (shapedC l d) w) := by
  go_enter Try.func90, Try.ntmps90
  go_upto_region 1 with fail
  have HA := Lib.hid (h.alloc (.cells #[.slice A n c, .int .i64 d] 24))
  have HB := Lib.hid ((Below.refl _ w).alloc (Nat.le_refl _) (.cells #[.slice A n c, .int .i64 d] 24))
  have HX := Lib.hid (Blk.new w 24 #[.slice A n c, .int .i64 d])
  clear h
  generalize w.alloc (.cells #[.slice A n c, .int .i64 d] 24) = W at HA HB HX ⊢
  have c0 : W.cell? ⟨w.heap.size, 0, none⟩ = some (.slice A n c) := by rw [HX.out.cell]; rfl
  have c1 : W.cell? ⟨w.heap.size, 1, none⟩ = some (.int .i64 d) := by rw [HX.out.cell]; rfl
  go_wp2_with fail
  refine (checkS_any A n c l d W HA.out hd).mono ?_; rintro e w2 ⟨rfl, hb⟩
  have HX2 := Lib.hid (HX.out.below hb)
  have HB2 := Lib.hid (HB.out.trans (hb.mono HB.out.size))
  have c12 : w2.cell? ⟨w.heap.size, 1, none⟩ = some (.int .i64 d) := by rw [HX2.out.cell]; rfl
  clear hb HX c0 c1 HX2
  by_cases hz : chkS l d = 0
  · by_cases h6 : 6 < d
    · have HV : Hid (shapedC l d = 8) := Lib.hid (by unfold shapedC; rw [if_neg (by omega), if_pos h6])
      rw [hz]
      go_wp2
      go_ret
      exact ⟨ret_int HV.out.symm, HB2.out⟩
    · have HV : Hid (shapedC l d = 0) := Lib.hid (by unfold shapedC; rw [if_neg (by omega), if_neg h6])
      rw [hz]
      have g6 : d ≤ 6 := by omega
      go_wp2
      go_ret
      exact ⟨ret_int HV.out.symm, HB2.out⟩
  · have HV : Hid (shapedC l d = chkS l d) := Lib.hid (by unfold shapedC; rw [if_pos hz])
    have g : (chkS l d != 0) = true := by simpa using hz
    clear hz
    generalize chkS l d = z at g HV ⊢
    go_wp2
    go_ret
    exact ⟨ret_int HV.out.symm, HB2.out⟩

/-- the iterator's maker: what it was given lies in two boxes -/
theorem shapesMk_any (A : Option Addr) (n c : Nat) (d : Int) (w : World) : Calls Try.prog 91 #[.slice A n c, .int .i64 d] w fun e w' => e = .returned (.func (.func 122) #[] #[.pointer (some ⟨w.heap.size + 1, 0, none⟩), .pointer (some ⟨w.heap.size, 0, none⟩)]) ∧ w' = (w.alloc (.cells #[.slice A n c] 22)).alloc (.cells #[.int .i64 d] 3) := by
  go_enter Try.func91, Try.ntmps91
  go_wp2
  go_ret
  exact ⟨rfl, rfl⟩

/-- what stands between two rounds of Shapes: the boxes and the loop's record from block g on, the numbers so far -/
structure ShJ (w : World) (g : Nat) (rec : Loop) (A : Option Addr) (n c : Nat) (cnt : List Int) (d : Nat) (k B : Nat) (W : World) : Prop where
  out : ∃ (Ao : Option Addr) (co : Nat), Blk W g 22 #[.slice Ao k co] ∧ OwnI W (g + 5) 3 Ao k co (shapesTo cnt d k) ∧ ∀ b, Ao.map (·.block) = some b → b < B
  bc : Blk W (g + 1) 22 #[.slice A n c]
  bd : Blk W (g + 2) 3 #[.int .i64 d]
  df : W.heap[g + 3]? = some (.deferred (some []))
  lp : W.heap[g + 4]? = some (.loop rec)
  rd : RdI W A n cnt
  ne : ∀ b, A.map (·.block) = some b → b < g
  bel : Below w.heap.size w W
  le : g + 5 ≤ B ∧ B ≤ W.heap.size ∧ w.heap.size ≤ g
theorem ShJ.below {w W W' : World} {g : Nat} {rec : Loop} {A : Option Addr} {n c : Nat} {cnt : List Int} {d k B : Nat} (h : ShJ w g rec A n c cnt d k B W) (hb : Below W.heap.size W W') : ShJ w g rec A n c cnt d k B W' := by
  obtain ⟨Ao, co, h1, h2, h3⟩ := h.out
  have hle := h.le
  exact ⟨⟨Ao, co, h1.below hb, h2.below hb, h3⟩, h.bc.below hb, h.bd.below hb, (hb.block _ (by omega)).trans h.df, (hb.block _ (by omega)).trans h.lp, h.rd.below hb, h.ne, h.bel.trans (hb.mono h.bel.size), by have := hb.size; omega⟩

set_option maxHeartbeats 1000000 in
set_option maxRecDepth 100000 in
theorem shapesP_any (A : Option Addr) (n c : Nat) (l : List Int) (d : Int) (w : World) (h : RdI w A n l) (hd : I64 d) : Calls Try.prog 35 #[.agg #[.slice A n c, .int .i64 d]] w (IntsErr (shapesE l d) w) := by
  by_cases hz : shapedC l d = 0
  · refine (callsIn_wide (n := 3)).1 ?_
    refine callsIn_of_wp_marks Try.func35 rfl trivial ?_ rfl
    simp only [Try.ntmps35, List.size_toArray, List.length_cons, List.length_nil, Nat.reduceAdd, Nat.reduceSub, Array.replicate_succ, Array.replicate_zero, List.push_toArray, List.append_toArray, List.nil_append, List.cons_append]
    gi_wp2_with fail
    have HA := Lib.hid (h.alloc (.cells #[.slice A n c, .int .i64 d] 24))
    have HB := Lib.hid ((Below.refl _ w).alloc (Nat.le_refl _) (.cells #[.slice A n c, .int .i64 d] 24))
    have HX := Lib.hid (Blk.new w 24 #[.slice A n c, .int .i64 d])
    clear h
    generalize w.alloc (.cells #[.slice A n c, .int .i64 d] 24) = W at HA HB HX ⊢
    refine ⟨trivial, ?_⟩
    refine (callsIn_wide.2 (shaped_any A n c l d W HA.out hd)).mono ?_; rintro e w2 ⟨rfl, hb⟩
    have HA2 := Lib.hid (HA.out.below hb)
    have HX2 := Lib.hid (HX.out.below hb)
    have HB2 := Lib.hid (HB.out.trans (hb.mono HB.out.size))
    have c0 : w2.cell? ⟨w.heap.size, 0, none⟩ = some (.slice A n c) := by rw [HX2.out.cell]; rfl
    have c1 : w2.cell? ⟨w.heap.size, 1, none⟩ = some (.int .i64 d) := by rw [HX2.out.cell]; rfl
    have hlx := HX2.out.lt
    clear hb HX HA HB
    have hck : chkS l d = 0 ∧ d ≤ 6 := by
      unfold shapedC at hz
      by_cases h1 : chkS l d = 0
      · refine ⟨h1, ?_⟩
        rw [if_neg (by omega)] at hz
        by_cases h2 : 6 < d
        · rw [if_pos h2] at hz; omega
        · omega
      · rw [if_pos h1] at hz; omega
    have hk := chkS_ok hck.1
    obtain ⟨d, rfl⟩ : ∃ d' : Nat, d = d' := ⟨d.toNat, by omega⟩
    have hd1 : 1 ≤ d := by omega
    have hd6 : d ≤ 6 := by omega
    have hlen := HA2.out.len
    have hn1 : 1 ≤ n := by omega
    have hn6 : n ≤ 6 := by omega
    have HOK := Lib.hid hk.2.2.1
    have HLN := Lib.hid hlen
    have HV : Hid (shapesE l d = (shapesTo l d (countR d).toNat, 0)) := Lib.hid (by unfold shapesE; rw [if_neg (by omega), Int.toNat_natCast])
    rw [hz]
    clear hz hck hk hlen
    gi_wp2_with fail
    have HB3 := Lib.hid (HB2.out.alloc HB2.out.size (.cells #[.slice none 0 0] 22))
    have HA3 := Lib.hid (HA2.out.alloc (.cells #[.slice none 0 0] 22))
    have HXO := Lib.hid (Blk.new w2 22 #[.slice none 0 0])
    have hs3 : (w2.alloc (.cells #[.slice none 0 0] 22)).heap.size = w2.heap.size + 1 := by simp
    have HGE : Hid (w.heap.size ≤ w2.heap.size) := Lib.hid HB2.out.size
    have HNE : Hid (∀ b, A.map (·.block) = some b → b < w2.heap.size) := Lib.hid (fun b hb => HA2.out.block (by omega) hb)
    clear c0 c1
    generalize w2.alloc (.cells #[.slice none 0 0] 22) = w3 at HB3 HA3 HXO hs3 ⊢
    refine ⟨trivial, ?_⟩
    refine (callsIn_wide.2 (shapesMk_any A n c d w3)).mono ?_; rintro e w' ⟨rfl, rfl⟩
    have hs4 : ((w3.alloc (.cells #[.slice A n c] 22)).alloc (.cells #[.int .i64 d] 3)).heap.size = w2.heap.size + 3 := by simp; omega
    have hb4 := (HB3.out.alloc (by have := HGE.out; omega) (.cells #[.slice A n c] 22)).alloc (by have := HGE.out; simp; omega) (.cells #[.int .i64 d] 3)
    have hx1 := (Blk.new w3 22 #[.slice A n c]).alloc (.cells #[.int .i64 d] 3)
    have hx2 := Blk.new (w3.alloc (.cells #[.slice A n c] 22)) 3 #[.int .i64 d]
    rw [show (w3.alloc (.cells #[.slice A n c] 22)).heap.size = w3.heap.size + 1 by simp] at hx2
    rw [hs3] at hx1 hx2 ⊢
    have HX1 := Lib.hid hx1
    have HXD := Lib.hid hx2
    have HB4 := Lib.hid hb4
    have HA4 := Lib.hid ((HA3.out.alloc (.cells #[.slice A n c] 22)).alloc (.cells #[.int .i64 d] 3))
    have HXO4 := Lib.hid ((HXO.out.alloc (.cells #[.slice A n c] 22)).alloc (.cells #[.int .i64 d] 3))
    clear hx1 hx2 hb4 HB3 HA3 HXO hs3
    generalize (w3.alloc (.cells #[.slice A n c] 22)).alloc (.cells #[.int .i64 d] 3) = w4 at HX1 HXD HB4 HA4 HXO4 hs4 ⊢
    gi_wp2_with fail
    refine wpIn_range1 (gf := 122) (lb := #[.pointer (some ⟨w2.heap.size + 1 + 1, 0, none⟩), .pointer (some ⟨w2.heap.size + 1, 0, none⟩)]) rfl (enters_of Try.func122 (by kernel_rfl) rfl) ?_
    intro fn rec hrec WL hWL
    have hst : rec.state = .ready := by rw [hrec]
    have hpe : rec.pending = none := by rw [hrec]
    have hps : rec.params.size = 2 := by rw [hrec]; rfl
    have hsz : (w4.alloc (.deferred (some []))).heap.size = w4.heap.size + 1 := by simp
    have hbl : Below w4.heap.size w4 WL := by rw [hWL]; exact ((Below.refl _ w4).alloc (Nat.le_refl _) _).alloc (by simp) _
    have hD : WL.heap[w4.heap.size]? = some (.deferred (some [])) := by
      rw [hWL]; exact (Below.heap_alloc _ _ _ (by simp)).trans (World.alloc_heap_new w4 _)
    have hR : WL.heap[w4.heap.size + 1]? = some (.loop rec) := by
      rw [hWL]; have := World.alloc_heap_new (w4.alloc (.deferred (some []))) (.loop rec); rwa [hsz] at this
    have hLS : WL.heap.size = w2.heap.size + 5 := by rw [hWL]; simp; omega
    rw [hs4] at hD hR
    have HSJ := Lib.hid (show ShJ w w2.heap.size rec A n c l d 0 (w2.heap.size + 5) WL from ⟨⟨none, 0, HXO4.out.below hbl, OwnI.nil_ _ _ _, fun b e => by cases e⟩, HX1.out.below hbl, HXD.out.below hbl, hD, hR, HA4.out.below hbl, HNE.out, HB4.out.trans (hbl.mono HB4.out.size), by omega, by omega, HGE.out⟩)
    have HREC := Lib.hid hrec
    rw [hs4]
    clear hsz hbl hD hR hLS hWL hrec HX1 HXD HB4 HA4 HXO4 hs4 HA2 HX2 HB2 hlx
    refine (shapesIter_any (w2.heap.size + 3 + 1) (ShJ w w2.heap.size rec A n c l d) (w2.heap.size + 1 + 1) (w2.heap.size + 1) A n c l d (w2.heap.size + 5) WL hd1 hd6 hn1 hn6 HOK.out ?_ ?_ ?_ HSJ.out ?_).mono ?_
    · intro k B W' hj
      exact ⟨hj.le.2.1, by rw [hj.bd.cell]; rfl, by rw [hj.bc.cell]; rfl, hj.rd⟩
    · intro k B W1 W2 hj hb
      exact hj.below hb
    · intro k B W1 hj
      exact hj.below ((Below.refl _ W1).drew)
    · intro k B A' c' W1 hk hj ho
      have hl := hj.lp
      have hy := run_yield (P := Try.prog) (args := #[.slice A' d c', .int .i64 (waysOf l (pr d k))]) hl (by rw [hps]; rfl)
      refine ⟨_, _, _, _, hy, roundIn_of_wpIn trivial ?_⟩
      have hbr := run_beginRound (P := Try.prog) hl hst
      obtain ⟨Ao, co, hxo, hown, hAo⟩ := hj.out
      have hle := hj.le
      have hlt : w2.heap.size + 3 + 1 < W1.heap.size := (Array.getElem?_eq_some_iff.1 hl).1
      obtain ⟨WB, hWB⟩ : ∃ WB, WB = W1.putObj (w2.heap.size + 3 + 1) (.loop { rec with state := .busy }) := ⟨_, rfl⟩
      have hgB : W1.grownBy WB (some (w2.heap.size + 3 + 1)) := by rw [hWB]; exact grownBy_putObj' _ _ _
      have hlB : WB.heap[w2.heap.size + 3 + 1]? = some (.loop { rec with state := .busy }) := by rw [hWB]; exact World.putObj_heap_same hlt
      have hdB : WB.heap[w2.heap.size + 3]? = some (.deferred (some [])) := by rw [hWB]; exact (World.putObj_heap_other (by omega)).trans hj.df
      have hxB : Blk WB w2.heap.size 22 #[.slice Ao k co] := hxo.grown hgB (fun e => by injection e with e; omega)
      have hx1B : Blk WB (w2.heap.size + 1) 22 #[.slice A n c] := hj.bc.grown hgB (fun e => by injection e with e; omega)
      have hx2B : Blk WB (w2.heap.size + 2) 3 #[.int .i64 d] := hj.bd.grown hgB (fun e => by injection e with e; omega)
      have hOB : OwnI WB (w2.heap.size + 5) 3 Ao k co (shapesTo l d k) := hown.grown hgB (by
        cases e : Ao.map (·.block) with
        | none => exact .inl rfl
        | some b => exact .inr (fun e2 => by injection e2 with e2; have := (hown.1.block e).1; omega))
      have hpB : OwnI WB B 3 A' d c' (pr d k) := ho.grown hgB (by
        cases e : A'.map (·.block) with
        | none => exact .inl rfl
        | some b => exact .inr (fun e2 => by injection e2 with e2; have := (ho.1.block e).1; omega))
      have hrB : RdI WB A n l := hj.rd.grown hgB (fun g e1 e2 => by injection e1 with e1; have := hj.ne _ e2; omega)
      have hbB : Below w.heap.size w WB := hj.bel.grown hgB (by have := hj.bel.size; omega) (fun b e => by injection e with e; omega)
      have hneA := hj.ne
      rw [← hWB] at hbr
      have hsB : WB.heap.size = W1.heap.size := by rw [hWB]; simp [World.putObj]
      have HXB := Lib.hid (And.intro (And.intro hx1B hx2B) (And.intro hxB hrB))
      have HPB := Lib.hid hpB
      have HOB := Lib.hid hOB
      have HBB := Lib.hid hbB
      have HLB := Lib.hid hlB
      have HDB := Lib.hid hdB
      have HAO := Lib.hid hAo
      have cxo : WB.cell? ⟨w2.heap.size, 0, none⟩ = some (.slice Ao k co) := by rw [hxB.cell]; rfl
      have hBs : B ≤ WB.heap.size := by omega
      clear hj ho hl hlt hWB hgB hxo hown hAo hxB hx1B hx2B hOB hpB hrB hbB hlB hdB hy hsB
      have hx64 : I64 (waysOf l (pr d k)) := by
        have := waysOf_bd (c := l) (p := pr d k) (by rw [HLN.out]; exact hn6) HOK.out (pr_chk hd1 (by omega) k)
        unfold I64; omega
      have HSS : Hid (shapesTo l d (k + 1) = shapesTo l d k ++ [waysOf l (pr d k)]) := Lib.hid (shapesTo_succ l d k)
      have hk203 := (count_pos hd1 hd6).2
      generalize waysOf l (pr d k) = x at hx64 HSS ⊢
      obtain ⟨i0, hi0, hz0, hz1, hz2⟩ := info_parts intInfo
      obtain ⟨A2, c2, W5, hrun, hO5, hg5, ha5⟩ := run_app (P := Try.prog) (WB.alloc (.cells #[.int .i64 x] 3)) (w2.heap.size + 5) 22 22 3 i0 (.int .i64 0) 8 Try.underlying22 hi0 hz0 hz1 hz2 rfl (by omega) Ao k co _ (HOB.out.1.alloc _) (some ⟨WB.heap.size, 0, none⟩) 1 1 _ (RdI.one WB 3 x hx64).1 (ints_oneCell' _) (by omega) (by simp; omega)
      have hg5' : WB.grownBy W5 (Ao.map (·.block)) := grown_trans (World.grownBy_alloc WB _ _) hg5
      rw [show (WB.alloc (.cells #[.int .i64 x] 3)).heap.size = WB.heap.size + 1 by simp] at ha5
      have HRUN := Lib.hid hrun
      have HO5 := Lib.hid hO5
      have HG5 := Lib.hid hg5'
      have HA5 := Lib.hid ha5
      have hb5 := below_app HOB.out.1 hg5' (by omega)
      have c5 : W5.cell? ⟨w2.heap.size, 0, none⟩ = some (.slice Ao k co) := (hb5.cell (p := ⟨w2.heap.size, 0, none⟩) (by show w2.heap.size < _; omega)).trans cxo
      have hx5 : Blk W5 w2.heap.size 22 #[.slice Ao k co] := (hb5.block _ (by omega)).trans HXB.out.2.1
      have f5 := hx5.frozen 0
      have HX5 := Lib.hid hx5
      have HB5 := Lib.hid hb5
      have hrr : ({ rec with state := .ready, pending := none } : Loop) = rec := by
        cases rec
        simp only at hst hpe
        subst hst hpe
        rfl
      obtain ⟨W6, hW6⟩ : ∃ W6, W6 = W5.setCell ⟨w2.heap.size, 0, none⟩ (.slice A2 (k + 1) c2) := ⟨_, rfl⟩
      have hl6 : W6.heap[w2.heap.size + 3 + 1]? = some (.loop { rec with state := .busy }) := by rw [hW6]; exact (Below.heap_setCell _ _ _ _ (by simp; omega)).trans ((hb5.block _ (by omega)).trans HLB.out)
      have hlt6 := (Array.getElem?_eq_some_iff.1 hl6).1
      have hend : (Instr.endRound (w2.heap.size + 3 + 1) none).run Try.prog W6 = .ok (.bool true) (W6.putObj (w2.heap.size + 3 + 1) (.loop rec)) := by
        have h9 := run_endRound (P := Try.prog) none hl6
        have h10 : ({ rec with state := (if (none : Option Code).isNone = true then LoopState.ready else LoopState.done), pending := none } : Loop) = rec := hrr
        rw [h9]
        show Result.ok (Value.bool true) (W6.putObj _ (.loop { rec with state := (if (none : Option Code).isNone = true then LoopState.ready else LoopState.done), pending := none })) = _
        rw [h10]
      obtain ⟨W7, hW7⟩ : ∃ W7, W7 = W6.putObj (w2.heap.size + 3 + 1) (.loop rec) := ⟨_, rfl⟩
      have hg7 : W6.grownBy W7 (some (w2.heap.size + 3 + 1)) := by rw [hW7]; exact grownBy_putObj' _ _ _
      have q1 : Blk W7 (w2.heap.size + 1) 22 #[.slice A n c] := Blk.grown (by rw [hW6]; exact Blk.far ((hb5.block _ (by omega)).trans HXB.out.1.1) (p := ⟨w2.heap.size, 0, none⟩) (by simp) _) hg7 (fun e => by injection e with e; omega)
      have q2 : Blk W7 (w2.heap.size + 2) 3 #[.int .i64 d] := Blk.grown (by rw [hW6]; exact Blk.far ((hb5.block _ (by omega)).trans HXB.out.1.2) (p := ⟨w2.heap.size, 0, none⟩) (by simp) _) hg7 (fun e => by injection e with e; omega)
      have q3 : Blk W7 w2.heap.size 22 #[.slice A2 (k + 1) c2] := Blk.grown (by rw [hW6]; exact hx5.set_ 0 (.slice A2 (k + 1) c2)) hg7 (fun e => by injection e with e; omega)
      have q4 : W7.heap[w2.heap.size + 3]? = some (.deferred (some [])) := by
        rw [hW7]
        refine (World.putObj_heap_other (by omega)).trans ?_
        rw [hW6]
        exact (Below.heap_setCell _ _ _ _ (by simp)).trans ((hb5.block _ (by omega)).trans HDB.out)
      have q5 : W7.heap[w2.heap.size + 4]? = some (.loop rec) := by rw [hW7]; exact World.putObj_heap_same hlt6
      have hO5' : OwnI W5 (w2.heap.size + 5) 3 A2 (k + 1) c2 (shapesTo l d (k + 1)) := by
        rw [HSS.out]
        refine ⟨by rw [ints_append]; exact hO5, fun v hv => ?_⟩
        rcases List.mem_append.1 hv with hv | hv
        · exact HOB.out.2 v hv
        · simp at hv; subst hv; exact hx64
      have hA2 : ∀ b, A2.map (·.block) = some b → w2.heap.size + 5 ≤ b := fun b hb => (hO5.block hb).1
      have q6 : OwnI W7 (w2.heap.size + 5) 3 A2 (k + 1) c2 (shapesTo l d (k + 1)) := by
        refine OwnI.grown (w := W6) ?_ hg7 ?_
        · rw [hW6]; exact hO5'.far (p := ⟨w2.heap.size, 0, none⟩) (fun e => by have h9 : w2.heap.size + 5 ≤ w2.heap.size := hA2 _ e; omega) _
        · cases e : A2.map (·.block) with
          | none => exact .inl rfl
          | some b => exact .inr (fun e2 => by injection e2 with e2; have := hA2 b e; omega)
      have keepR : ∀ {X : Option Addr} {m : Nat} {r : List Int}, RdI WB X m r → (∀ b, X.map (·.block) = some b → b ≠ w2.heap.size ∧ b ≠ w2.heap.size + 3 + 1 ∧ Ao.map (·.block) ≠ some b) → RdI W7 X m r := by
        intro X m r hr hn
        refine RdI.grown (w := W6) ?_ hg7 (fun g e1 e2 => by injection e1 with e1; subst e1; exact (hn _ e2).2.1 rfl)
        rw [hW6]
        exact (hr.grown hg5' (fun g e1 e2 => (hn _ e2).2.2 e1)).setCell (fun e => (hn _ e).1 rfl) _
      have q7 : RdI W7 A n l := keepR HXB.out.2.2 (fun b hb => by
        have h1 := hneA b hb
        refine ⟨by omega, by omega, fun e => ?_⟩
        have := (HOB.out.1.block e).1
        omega)
      have q8 : RdI W7 A' d (pr d k) := keepR HPB.out.rd (fun b hb => by
        have h1 := (HPB.out.1.block hb).1
        refine ⟨by omega, by omega, fun e => ?_⟩
        have := HAO.out b e
        omega)
      have q9 : Below w.heap.size w W7 := (HBB.out.trans (by rw [hW6]; exact (hb5.mono (by omega)).setCell (p := ⟨w2.heap.size, 0, none⟩) hle.2.2 _)).grown hg7 (by have := HBB.out.size; have := hb5.size; rw [hW6]; simp [World.setCell]; omega) (fun b e => by injection e with e; omega)
      have hs7 : WB.heap.size ≤ W7.heap.size := by have := hb5.size; have := hg7.size; rw [hW6] at this; simp [World.setCell] at this; omega
      have HQ := Lib.hid (And.intro (show ShJ w w2.heap.size rec A n c l d (k + 1) W7.heap.size W7 from ⟨⟨A2, c2, q3, q6, fun b hb => (q6.1.block hb).2⟩, q1, q2, q4, q5, q7, hneA, q9, by omega, Nat.le_refl _, hle.2.2⟩) q8)
      rw [← hW7] at hend
      have HEND := Lib.hid hend
      have HW6 := Lib.hid hW6
      clear hrr hW6 hl6 hlt6 hend hW7 hg7 q1 q2 q3 q4 q5 hO5' hA2 q6 keepR q7 q8 q9 hs7
      clear hrun hO5 hg5 hg5' ha5 hi0 hz0 hz1 hz2 hb5 hx5
      have e := HREC.out
      subst e
      gi_wp2
      refine ⟨WB, hbr, ?_⟩
      gi_wp2_with (gi_at_builtin; refine wpListIn_app_run _ rfl (.tmp 20) (.tmp 22) _ rfl _ _ rfl rfl HRUN.out ?_)
      rw [← HW6.out]
      exact ⟨_, _, HEND.out, rfl, _, HQ.out⟩
    · rintro e W2 ⟨⟨v, rfl⟩, B, hj⟩
      have hel := run_endLoop (P := Try.prog) hj.lp (by rw [hst]; simp)
      rw [hpe] at hel
      obtain ⟨Ao, co, hxo, hown, hAo⟩ := hj.out
      have hle := hj.le
      obtain ⟨W4, hW4⟩ : ∃ W4, W4 = W2.putObj (w2.heap.size + 3 + 1) (.loop { rec with state := .exhausted, pending := none }) := ⟨_, rfl⟩
      rw [← hW4] at hel
      have hg4 : W2.grownBy W4 (some (w2.heap.size + 3 + 1)) := by rw [hW4]; exact grownBy_putObj' _ _ _
      have hd4 : W4.heap[w2.heap.size + 3]? = some (.deferred (some [])) := by rw [hW4]; exact (World.putObj_heap_other (by omega)).trans hj.df
      have hx4 : Blk W4 w2.heap.size 22 #[.slice Ao (countR d).toNat co] := hxo.grown hg4 (fun e => by injection e with e; omega)
      have hA2 : ∀ b, Ao.map (·.block) = some b → w2.heap.size + 5 ≤ b := fun b hb => (hown.1.block hb).1
      have hne : ∀ r, r < w2.heap.size + 5 → Ao.map (·.block) = none ∨ Ao.map (·.block) ≠ some r := fun r hr => by
        cases e : Ao.map (·.block) with
        | none => exact .inl rfl
        | some b => exact .inr (fun e2 => by injection e2 with e2; have := hA2 b e; omega)
      have ho4 : OwnI W4 (w2.heap.size + 5) 3 Ao (countR d).toNat co (shapesTo l d (countR d).toNat) := hown.grown hg4 (hne _ (by omega))
      have hb4 : Below w.heap.size w W4 := hj.bel.grown hg4 (by have := hj.bel.size; omega) (fun b e => by injection e with e; omega)
      have hg6 := grownBy_putObj' W4 (w2.heap.size + 3) (.deferred none)
      have ho6 := ho4.grown hg6 (hne _ (by omega))
      have hb6 : Below w.heap.size w (W4.putObj (w2.heap.size + 3) (.deferred none)) := hb4.grown hg6 (by have := hb4.size; omega) (fun b e => by injection e with e; omega)
      have c4 : W4.cell? ⟨w2.heap.size, 0, none⟩ = some (.slice Ao (countR d).toNat co) := by rw [hx4.cell]; rfl
      have HF := Lib.hid (And.intro hd4 (And.intro (ho6.mono (base' := w.heap.size) (by omega)) hb6))
      clear hg4 hd4 hx4 hA2 hne ho4 hb4 hg6 ho6 hb6 hxo hown hAo hj hW4
      refine ⟨none, W4, hel, ?_⟩
      clear hel
      gi_wp2
      obtain ⟨hd4, ho6, hb6⟩ := HF.out
      refine ⟨by simp, .inl ⟨_, _, rfl, run_takeDeferred hd4, ?_⟩⟩
      refine ⟨.tuple #[.slice Ao (countR d).toNat co, .int .i64 0], by simp [results, Try.f35, go_sem], ?_⟩
      rw [HV.out]
      have hsl : (shapesTo l d (countR d).toNat).length = (countR d).toNat := by simp [shapesTo]
      exact ⟨Ao, co, by simp only [hsl], by simp only [hsl]; exact ho6, hb6⟩
  · have HV : Hid (shapesE l d = ([], shapedC l d)) := Lib.hid (by unfold shapesE; rw [if_pos hz])
    have HQ : Hid (∀ W', RdI W' A n l → Calls Try.prog 90 #[.agg #[.slice A n c, .int .i64 d]] W' (NumM (shapedC l d) W')) := Lib.hid (fun W' h' => shaped_any A n c l d W' h' hd)
    generalize shapedC l d = z at HQ hz HV
    have g : (z != 0) = true := by simpa using hz
    have HA := Lib.hid (h.alloc (.cells #[.slice A n c, .int .i64 d] 24))
    have HB := Lib.hid ((Below.refl _ w).alloc (Nat.le_refl _) (.cells #[.slice A n c, .int .i64 d] 24))
    clear hz h
    go_enter Try.func35, Try.ntmps35
    go_wp2_with fail
    refine (HQ.out _ HA.out).mono ?_; rintro e w2 ⟨rfl, hb⟩
    go_wp2
    go_ret2
    rw [HV.out]
    exact ⟨none, 0, rfl, OwnI.nil_ _ _ _, HB.out.trans (hb.mono HB.out.size)⟩
end Go.Proofs.Ytcmacejpoihhlaa

namespace Go.Proofs.Ytcmacejpoihhlaa
open Go.RowKit

/-- a stock of the callee's own -/
def Stocked (c : List Int) (d : Int) (w : World) (e : Ending) (w' : World) : Prop :=
  ∃ g, e = .returned (.agg #[.slice (some ⟨g, 0, none⟩) c.length c.length, .int .i64 d]) ∧ RdI w' (some ⟨g, 0, none⟩) c.length c ∧ Below w.heap.size w w'

set_option maxHeartbeats 1000000 in
theorem two_any (w : World) : Calls Try.prog 68 #[] w (Stocked [2, 2] 3 w) := by
  go_enter Try.func68, Try.ntmps68
  go_wp2
  have hx := (Blk.new w 24 #[.slice (some ⟨w.heap.size + 1, 0, none⟩) 2 2, .int .i64 3]).alloc (.cells #[.int .i64 2, .int .i64 2] 3)
  have hr := (OwnI.lit (w.alloc (.cells #[.slice (some ⟨w.heap.size + 1, 0, none⟩) 2 2, .int .i64 3] 24)) 3 [2, 2] 2 (by omega) rfl (w.heap.size + 1) (by simp) (by simp [I64])).rd
  rw [show (w.alloc (.cells #[.slice (some ⟨w.heap.size + 1, 0, none⟩) 2 2, .int .i64 3] 24)).heap.size = w.heap.size + 1 by simp] at hr
  have hb : Below w.heap.size w ((w.alloc (.cells #[.slice (some ⟨w.heap.size + 1, 0, none⟩) 2 2, .int .i64 3] 24)).alloc (.cells #[.int .i64 2, .int .i64 2] 3)) := ((Below.refl _ w).alloc (Nat.le_refl _) _).alloc (by simp) _
  exact bodyPost_ret (v := .agg #[.slice (some ⟨w.heap.size + 1, 0, none⟩) 2 2, .int .i64 3]) (results_cell_row rfl _ _ w.heap.size 24 _ (0, 0) _ rfl hx Try.underlying24 rfl (by kernel_rfl)) rfl ⟨_, rfl, hr, hb⟩

/-- four rows of four numbers, laid row by row, and the slice of them -/
def lay4 (w : World) (a b c d : List Int) : World := (((w.alloc (.cells (ints a).toArray 3)).alloc (.cells (ints b).toArray 3)).alloc (.cells (ints c).toArray 3)).alloc (.cells (ints d).toArray 3)
def lit4 (w : World) (a b c d : List Int) : World := (lay4 w a b c d).alloc (.cells #[.slice (some ⟨w.heap.size, 0, none⟩) 4 4, .slice (some ⟨w.heap.size + 1, 0, none⟩) 4 4, .slice (some ⟨w.heap.size + 1 + 1, 0, none⟩) 4 4, .slice (some ⟨w.heap.size + 1 + 1 + 1, 0, none⟩) 4 4] 22)
theorem lit_row (w : World) (l : List Int) (h : l.length = 4) (hl : ∀ v ∈ l, I64 v) : RdI (w.alloc (.cells (ints l).toArray 3)) (some ⟨w.heap.size, 0, none⟩) 4 l := (OwnI.lit w 3 l 4 (by omega) h w.heap.size (Nat.le_refl _) hl).rd
theorem alloc_size (w : World) (o : Obj) : (w.alloc o).heap.size = w.heap.size + 1 := by simp
theorem lit4_rd (w : World) (a b c d : List Int) (ha : a.length = 4) (hb : b.length = 4) (hc : c.length = 4) (hd : d.length = 4) (ia : ∀ v ∈ a, I64 v) (ib : ∀ v ∈ b, I64 v) (ic : ∀ v ∈ c, I64 v) (id : ∀ v ∈ d, I64 v) :
    RdL (lit4 w a b c d) (some ⟨w.heap.size + 1 + 1 + 1 + 1, 0, none⟩) 4 [a, b, c, d] := by
  have ra := (((lit_row w a ha ia).alloc (.cells (ints b).toArray 3)).alloc (.cells (ints c).toArray 3)).alloc (.cells (ints d).toArray 3)
  have rb := ((lit_row (w.alloc (.cells (ints a).toArray 3)) b hb ib).alloc (.cells (ints c).toArray 3)).alloc (.cells (ints d).toArray 3)
  have rc := (lit_row ((w.alloc (.cells (ints a).toArray 3)).alloc (.cells (ints b).toArray 3)) c hc ic).alloc (.cells (ints d).toArray 3)
  have rd := lit_row (((w.alloc (.cells (ints a).toArray 3)).alloc (.cells (ints b).toArray 3)).alloc (.cells (ints c).toArray 3)) d hd id
  rw [alloc_size] at rb
  rw [alloc_size, alloc_size] at rc
  rw [alloc_size, alloc_size, alloc_size] at rd
  have ho := (Own.lit (lay4 w a b c d) 22 #[.slice (some ⟨w.heap.size, 0, none⟩) 4 4, .slice (some ⟨w.heap.size + 1, 0, none⟩) 4 4, .slice (some ⟨w.heap.size + 1 + 1, 0, none⟩) 4 4, .slice (some ⟨w.heap.size + 1 + 1 + 1, 0, none⟩) 4 4] 4 (by omega) rfl _ (Nat.le_refl _)).rd
  have hs : (lay4 w a b c d).heap.size = w.heap.size + 1 + 1 + 1 + 1 := by unfold lay4; rw [alloc_size, alloc_size, alloc_size, alloc_size]
  rw [hs] at ho
  refine ⟨_, ho, rfl, fun j v hv => ?_⟩
  match j, hv with
  | 0, hv => injection hv with hv; exact ⟨_, 4, 4, a, hv.symm, rfl, ra.alloc _⟩
  | 1, hv => injection hv with hv; exact ⟨_, 4, 4, b, hv.symm, rfl, rb.alloc _⟩
  | 2, hv => injection hv with hv; exact ⟨_, 4, 4, c, hv.symm, rfl, rc.alloc _⟩
  | 3, hv => injection hv with hv; exact ⟨_, 4, 4, d, hv.symm, rfl, rd.alloc _⟩
  | j + 4, hv => simp at hv
theorem lit4_below (w : World) (a b c d : List Int) : Below w.heap.size w (lit4 w a b c d) := by
  have h : ∀ (w1 : World) (o : Obj), Below w.heap.size w w1 → Below w.heap.size w (w1.alloc o) := fun w1 o hb => hb.alloc hb.size o
  exact h _ _ (h _ _ (h _ _ (h _ _ (h _ _ (Below.refl _ w)))))

theorem ways_two : waysE [2, 2] 3 = (24, 0) := by decide +kernel
theorem shapes_two : shapesE [2, 2] 3 = ([0, 8, 8, 8, 0], 0) := by decide +kernel
theorem rounds_four : roundsE 4 = ([[0, 1, 3, 2], [1, 2, 0, 3], [2, 3, 1, 0], [3, 0, 2, 1]], 0) := by decide +kernel

set_option maxHeartbeats 4000000 in
set_option maxRecDepth 100000 in
theorem awake5_any (w : World) : Calls Try.prog 19 #[] w fun e w' => e = .returned (.bool true) ∧ Below w.heap.size w w' := by
  go_enter Try.func19, Try.ntmps19
  go_wp2_with fail
  refine (two_any w).mono ?_; rintro e w1 ⟨g1, rfl, h1, b1⟩
  have H1 := Lib.hid h1
  have B1 := Lib.hid b1
  clear h1 b1
  go_wp2_with fail
  refine (ways_any _ _ _ [2, 2] 3 w1 H1.out (by simp [I64])).mono ?_; rintro e w2 ⟨rfl, b2⟩
  have B2 := Lib.hid (B1.out.trans (b2.mono B1.out.size))
  rw [ways_two]
  clear b2
  go_wp2_with fail
  refine (two_any w2).mono ?_; rintro e w3 ⟨g3, rfl, h3, b3⟩
  have H3 := Lib.hid h3
  have B3 := Lib.hid (B2.out.trans (b3.mono B2.out.size))
  clear h3 b3
  go_wp2_with fail
  refine (shapesP_any _ _ _ [2, 2] 3 w3 H3.out (by simp [I64])).mono ?_; rintro e w4 ⟨A4, c4, rfl, h4, b4⟩
  rw [shapes_two] at h4 ⊢
  simp only [List.length_cons, List.length_nil, Nat.reduceAdd] at h4 ⊢
  have H4 := Lib.hid h4.rd
  have B4 := Lib.hid (B3.out.trans (b4.mono B3.out.size))
  clear h4 b4
  go_wp2_with fail
  refine (rounds_any 4 w4 (by simp [I64])).mono ?_; rintro e w5 ⟨A5, c5, rfl, h5, b5⟩
  rw [rounds_four] at h5 ⊢
  simp only [List.length_cons, List.length_nil, Nat.reduceAdd] at h5 ⊢
  have H5 := Lib.hid h5.rd
  have H45 := Lib.hid (H4.out.below b5)
  have B5 := Lib.hid (B4.out.trans (b5.mono B4.out.size))
  clear h5 b5
  go_wp2_with fail
  have HL := Lib.hid (OwnI.lit w5 3 [0, 8, 8, 8, 0] 5 (by omega) rfl w5.heap.size (Nat.le_refl _) (by simp [I64])).rd
  have H46 := Lib.hid (H45.out.alloc (.cells (ints [0, 8, 8, 8, 0]).toArray 3))
  have H56 := Lib.hid (H5.out.alloc (.cells (ints [0, 8, 8, 8, 0]).toArray 3))
  have B6 := Lib.hid (B5.out.alloc B5.out.size (.cells (ints [0, 8, 8, 8, 0]).toArray 3))
  refine (eq_any A4 (some ⟨w5.heap.size, 0, none⟩) 5 5 c4 5 [0, 8, 8, 8, 0] [0, 8, 8, 8, 0] (w5.alloc (.cells (ints [0, 8, 8, 8, 0]).toArray 3)) H46.out HL.out).mono ?_; rintro e w' ⟨rfl, d1, rfl⟩
  rw [beq_self_eq_true]
  generalize hw6 : (w5.alloc (.cells (ints [0, 8, 8, 8, 0]).toArray 3)).drewN d1 = w6
  have H66 : Hid (RdL w6 A5 4 [[0, 1, 3, 2], [1, 2, 0, 3], [2, 3, 1, 0], [3, 0, 2, 1]]) := Lib.hid (by rw [← hw6]; exact H56.out.drewN d1)
  have B66 : Hid (Below w.heap.size w w6) := Lib.hid (by rw [← hw6]; exact below_drewN B6.out d1)
  clear hw6 HL H46 H56 B6 H45 H5 B5 H4 B4 H3 B3 B2 H1 B1
  go_wp2_with fail
  have HL4 := Lib.hid (lit4_rd w6 [0, 1, 3, 2] [1, 2, 0, 3] [2, 3, 1, 0] [3, 0, 2, 1] rfl rfl rfl rfl (by simp [I64]) (by simp [I64]) (by simp [I64]) (by simp [I64]))
  have HLB := Lib.hid (lit4_below w6 [0, 1, 3, 2] [1, 2, 0, 3] [2, 3, 1, 0] [3, 0, 2, 1])
  have HA := Lib.hid (H66.out.below HLB.out)
  refine (eqLists_any A5 _ 4 4 c5 4 _ _ (lit4 w6 [0, 1, 3, 2] [1, 2, 0, 3] [2, 3, 1, 0] [3, 0, 2, 1]) HA.out HL4.out (by omega) (by omega)).mono ?_; rintro e w' ⟨rfl, d2, rfl⟩
  rw [beq_self_eq_true]
  go_wp2
  go_ret
  exact ⟨rfl, below_drewN (B66.out.trans (HLB.out.mono B66.out.size)) _⟩
end Go.Proofs.Ytcmacejpoihhlaa

namespace Go.Proofs.Ytcmacejpoihhlaa
open Go.RowKit Go.Shelf
attribute [local go_sem] Oper.semAt_some

theorem setCell_same (w : World) (g j : Nat) (v : Value) (h : w.cell? ⟨g, j, none⟩ = some v) : w.setCell ⟨g, j, none⟩ v = w := by
  have hh : (w.setCell ⟨g, j, none⟩ v).heap = w.heap := by
    apply Array.ext_getElem?
    intro i
    by_cases hi : i = g
    · subst hi
      simp only [World.cell?] at h
      cases hb : w.heap[i]? with
      | none => rw [hb] at h; simp at h
      | some o =>
        rw [hb] at h
        cases o <;> simp at h
        rename_i c e fr
        have hlt : j < c.size := (Array.getElem?_eq_some_iff.1 h).1
        have hset : c.setIfInBounds j v = c := by
          apply Array.ext_getElem?
          intro k
          by_cases hk : j = k
          · subst hk; rw [h]; simp [hlt]
          · simp [hk]
        simp [World.setCell, Array.getElem?_modify, hb, hset]
    · rw [Below.heap_setCell _ _ _ _ (by simpa using hi)]
  cases w
  simp only [World.setCell] at hh ⊢
  simp only [hh]

/-- what stands between two rounds of guess: the boxes and the loop's record from block g on, the best so far -/
structure GuJ (w : World) (g : Nat) (rec : Loop) (A : Option Addr) (n c : Nat) (cnt : List Int) (d : Nat) (k B : Nat) (W : World) : Prop where
  best : ∃ (Ab : Option Addr) (cb : Nat), Blk W g 22 #[.slice Ab (bestTo cnt d k).1.length cb] ∧ OwnI W (g + 6) 3 Ab (bestTo cnt d k).1.length cb (bestTo cnt d k).1
  ways : Blk W (g + 1) 3 #[.int .i64 (bestTo cnt d k).2]
  bc : Blk W (g + 2) 22 #[.slice A n c]
  bd : Blk W (g + 3) 3 #[.int .i64 d]
  df : W.heap[g + 4]? = some (.deferred (some []))
  lp : W.heap[g + 5]? = some (.loop rec)
  rd : RdI W A n cnt
  ne : ∀ b, A.map (·.block) = some b → b < g
  bel : Below w.heap.size w W
  le : g + 6 ≤ B ∧ B ≤ W.heap.size ∧ w.heap.size ≤ g
theorem GuJ.below {w W W' : World} {g : Nat} {rec : Loop} {A : Option Addr} {n c : Nat} {cnt : List Int} {d k B : Nat} (h : GuJ w g rec A n c cnt d k B W) (hb : Below W.heap.size W W') : GuJ w g rec A n c cnt d k B W' := by
  obtain ⟨Ab, cb, h1, h2⟩ := h.best
  have hle := h.le
  exact ⟨⟨Ab, cb, h1.below hb, h2.below hb⟩, h.ways.below hb, h.bc.below hb, h.bd.below hb, (hb.block _ (by omega)).trans h.df, (hb.block _ (by omega)).trans h.lp, h.rd.below hb, h.ne, h.bel.trans (hb.mono h.bel.size), by have := hb.size; omega⟩

/-- numbers and a number -/
def IntsNum (x : List Int × Int) (w : World) (e : Ending) (w' : World) : Prop :=
  ∃ A c, e = .returned (.tuple #[.slice A x.1.length c, .int .i64 x.2]) ∧ OwnI w' w.heap.size 3 A x.1.length c x.1 ∧ Below w.heap.size w w'
theorem bestTo_len (c : List Int) (d k : Nat) : (bestTo c d k).1 = [] ∨ (bestTo c d k).1.length = d := by
  rcases (best_ok c d k).at_ with ⟨_, h⟩ | ⟨_, r, _, h, _⟩
  · exact .inl h
  · right; rw [h]; exact pr_len d r

set_option maxHeartbeats 2000000 in
set_option maxRecDepth 100000 in
theorem guessD_any (A : Option Addr) (n c : Nat) (l : List Int) (d : Nat) (w : World) (h : RdI w A n l) (hz : shapedC l d = 0) : Calls Try.prog 94 #[.slice A n c, .int .i64 d] w (IntsNum (bestTo l d (countR d).toNat) w) := by
  refine (callsIn_wide (n := 3)).1 ?_
  refine callsIn_of_wp_marks Try.func94 rfl trivial ?_ rfl
  simp only [Try.ntmps94, List.size_toArray, List.length_cons, List.length_nil, Nat.reduceAdd, Nat.reduceSub, Array.replicate_succ, Array.replicate_zero, List.push_toArray, List.append_toArray, List.nil_append, List.cons_append]
  have hck : chkS l d = 0 ∧ d ≤ 6 := by
    unfold shapedC at hz
    by_cases h1 : chkS l d = 0
    · refine ⟨h1, ?_⟩
      rw [if_neg (by omega)] at hz
      by_cases h2 : (6 : Int) < d
      · rw [if_pos h2] at hz; omega
      · omega
    · rw [if_pos h1] at hz; omega
  have hk := chkS_ok hck.1
  have hd1 : 1 ≤ d := by omega
  have hd6 : d ≤ 6 := by omega
  have hlen := h.len
  have hn1 : 1 ≤ n := by omega
  have hn6 : n ≤ 6 := by omega
  have HOK := Lib.hid hk.2.2.1
  have HLN := Lib.hid hlen
  clear hz hck hk hlen
  gi_wp2_with fail
  have HA := Lib.hid ((h.alloc (.cells #[.slice none 0 0] 22)).alloc (.cells #[.int .i64 0] 3))
  have HB := Lib.hid (((Below.refl _ w).alloc (Nat.le_refl _) (.cells #[.slice none 0 0] 22)).alloc (by simp) (.cells #[.int .i64 0] 3))
  have hx0 := (Blk.new w 22 #[.slice none 0 0]).alloc (.cells #[.int .i64 0] 3)
  have hx1 := Blk.new (w.alloc (.cells #[.slice none 0 0] 22)) 3 #[.int .i64 0]
  rw [show (w.alloc (.cells #[.slice none 0 0] 22)).heap.size = w.heap.size + 1 by simp] at hx1
  have HX0 := Lib.hid hx0
  have HX1 := Lib.hid hx1
  have hs2 : ((w.alloc (.cells #[.slice none 0 0] 22)).alloc (.cells #[.int .i64 0] 3)).heap.size = w.heap.size + 2 := by simp
  have HNE : Hid (∀ b, A.map (·.block) = some b → b < w.heap.size) := Lib.hid (fun b hb => h.block (by omega) hb)
  clear h hx0 hx1
  generalize (w.alloc (.cells #[.slice none 0 0] 22)).alloc (.cells #[.int .i64 0] 3) = w3 at HA HB HX0 HX1 hs2 ⊢
  refine ⟨trivial, ?_⟩
  refine (callsIn_wide.2 (shapesMk_any A n c d w3)).mono ?_; rintro e w' ⟨rfl, rfl⟩
  have hs4 : ((w3.alloc (.cells #[.slice A n c] 22)).alloc (.cells #[.int .i64 d] 3)).heap.size = w.heap.size + 4 := by simp; omega
  have hb4 := (HB.out.alloc (by omega) (.cells #[.slice A n c] 22)).alloc (by simp; omega) (.cells #[.int .i64 d] 3)
  have hx1 := (Blk.new w3 22 #[.slice A n c]).alloc (.cells #[.int .i64 d] 3)
  have hx2 := Blk.new (w3.alloc (.cells #[.slice A n c] 22)) 3 #[.int .i64 d]
  rw [show (w3.alloc (.cells #[.slice A n c] 22)).heap.size = w3.heap.size + 1 by simp] at hx2
  rw [hs2] at hx1 hx2 ⊢
  have HXC := Lib.hid hx1
  have HXD := Lib.hid hx2
  have HB4 := Lib.hid hb4
  have HA4 := Lib.hid ((HA.out.alloc (.cells #[.slice A n c] 22)).alloc (.cells #[.int .i64 d] 3))
  have HX04 := Lib.hid ((HX0.out.alloc (.cells #[.slice A n c] 22)).alloc (.cells #[.int .i64 d] 3))
  have HX14 := Lib.hid ((HX1.out.alloc (.cells #[.slice A n c] 22)).alloc (.cells #[.int .i64 d] 3))
  clear hx1 hx2 hb4 HB HA HX0 HX1 hs2
  generalize (w3.alloc (.cells #[.slice A n c] 22)).alloc (.cells #[.int .i64 d] 3) = w4 at HXC HXD HB4 HA4 HX04 HX14 hs4 ⊢
  gi_wp2_with fail
  refine wpIn_range1 (gf := 122) (lb := #[.pointer (some ⟨w.heap.size + 2 + 1, 0, none⟩), .pointer (some ⟨w.heap.size + 2, 0, none⟩)]) rfl (enters_of Try.func122 (by kernel_rfl) rfl) ?_
  intro fn rec hrec WL hWL
  have hst : rec.state = .ready := by rw [hrec]
  have hpe : rec.pending = none := by rw [hrec]
  have hps : rec.params.size = 2 := by rw [hrec]; rfl
  have hsz : (w4.alloc (.deferred (some []))).heap.size = w4.heap.size + 1 := by simp
  have hbl : Below w4.heap.size w4 WL := by rw [hWL]; exact ((Below.refl _ w4).alloc (Nat.le_refl _) _).alloc (by simp) _
  have hD : WL.heap[w4.heap.size]? = some (.deferred (some [])) := by
    rw [hWL]; exact (Below.heap_alloc _ _ _ (by simp)).trans (World.alloc_heap_new w4 _)
  have hR : WL.heap[w4.heap.size + 1]? = some (.loop rec) := by
    rw [hWL]; have := World.alloc_heap_new (w4.alloc (.deferred (some []))) (.loop rec); rwa [hsz] at this
  have hLS : WL.heap.size = w.heap.size + 6 := by rw [hWL]; simp; omega
  rw [hs4] at hD hR
  have HSJ := Lib.hid (show GuJ w w.heap.size rec A n c l d 0 (w.heap.size + 6) WL from ⟨⟨none, 0, HX04.out.below hbl, OwnI.nil_ _ _ _⟩, HX14.out.below hbl, HXC.out.below hbl, HXD.out.below hbl, hD, hR, HA4.out.below hbl, HNE.out, HB4.out.trans (hbl.mono HB4.out.size), by omega, by omega, Nat.le_refl _⟩)
  have HREC := Lib.hid hrec
  rw [hs4]
  clear hsz hbl hD hR hLS hWL hrec HXC HXD HB4 HA4 HX04 HX14 hs4
  refine (shapesIter_any (w.heap.size + 4 + 1) (GuJ w w.heap.size rec A n c l d) (w.heap.size + 2 + 1) (w.heap.size + 2) A n c l d (w.heap.size + 6) WL hd1 hd6 hn1 hn6 HOK.out ?_ ?_ ?_ HSJ.out ?_).mono ?_
  · intro k B W' hj
    exact ⟨hj.le.2.1, by rw [hj.bd.cell]; rfl, by rw [hj.bc.cell]; rfl, hj.rd⟩
  · intro k B W1 W2 hj hb
    exact hj.below hb
  · intro k B W1 hj
    exact hj.below ((Below.refl _ W1).drew)
  · intro k B A' c' W1 hk hj ho
    have hl := hj.lp
    have hy := run_yield (P := Try.prog) (args := #[.slice A' d c', .int .i64 (waysOf l (pr d k))]) hl (by rw [hps]; rfl)
    refine ⟨_, _, _, _, hy, roundIn_of_wpIn trivial ?_⟩
    have hbr := run_beginRound (P := Try.prog) hl hst
    obtain ⟨Ab, cb, hxo, hown⟩ := hj.best
    have hle := hj.le
    have hlt : w.heap.size + 4 + 1 < W1.heap.size := (Array.getElem?_eq_some_iff.1 hl).1
    obtain ⟨WB, hWB⟩ : ∃ WB, WB = W1.putObj (w.heap.size + 4 + 1) (.loop { rec with state := .busy }) := ⟨_, rfl⟩
    have hgB : W1.grownBy WB (some (w.heap.size + 4 + 1)) := by rw [hWB]; exact grownBy_putObj' _ _ _
    have hlB : WB.heap[w.heap.size + 4 + 1]? = some (.loop { rec with state := .busy }) := by rw [hWB]; exact World.putObj_heap_same hlt
    have hdB : WB.heap[w.heap.size + 4]? = some (.deferred (some [])) := by rw [hWB]; exact (World.putObj_heap_other (by omega)).trans hj.df
    have hxB : Blk WB w.heap.size 22 #[.slice Ab (bestTo l d k).1.length cb] := hxo.grown hgB (fun e => by injection e with e; omega)
    have hwB : Blk WB (w.heap.size + 1) 3 #[.int .i64 (bestTo l d k).2] := hj.ways.grown hgB (fun e => by injection e with e; omega)
    have hx1B : Blk WB (w.heap.size + 2) 22 #[.slice A n c] := hj.bc.grown hgB (fun e => by injection e with e; omega)
    have hx2B : Blk WB (w.heap.size + 3) 3 #[.int .i64 d] := hj.bd.grown hgB (fun e => by injection e with e; omega)
    have hOB : OwnI WB (w.heap.size + 6) 3 Ab (bestTo l d k).1.length cb (bestTo l d k).1 := hown.grown hgB (by
      cases e : Ab.map (·.block) with
      | none => exact .inl rfl
      | some b => exact .inr (fun e2 => by injection e2 with e2; have := (hown.1.block e).1; omega))
    have hpB : OwnI WB B 3 A' d c' (pr d k) := ho.grown hgB (by
      cases e : A'.map (·.block) with
      | none => exact .inl rfl
      | some b => exact .inr (fun e2 => by injection e2 with e2; have := (ho.1.block e).1; omega))
    have hrB : RdI WB A n l := hj.rd.grown hgB (fun g e1 e2 => by injection e1 with e1; have := hj.ne _ e2; omega)
    have hbB : Below w.heap.size w WB := hj.bel.grown hgB (by have := hj.bel.size; omega) (fun b e => by injection e with e; omega)
    have hneA := hj.ne
    rw [← hWB] at hbr
    have hsB : WB.heap.size = W1.heap.size := by rw [hWB]; simp [World.putObj]
    have hrr : ({ rec with state := .ready, pending := none } : Loop) = rec := by
      cases rec
      simp only at hst hpe
      subst hst hpe
      rfl
    -- what a round leaves, from whatever the body has made of the two boxes
    have HEND : Hid (∀ (W6 : World) (s : List Int × Int) (A9 : Option Addr) (c9 : Nat), Blk W6 w.heap.size 22 #[.slice A9 s.1.length c9] → Blk W6 (w.heap.size + 1) 3 #[.int .i64 s.2] → OwnI W6 (w.heap.size + 6) 3 A9 s.1.length c9 s.1 → bestTo l d (k + 1) = s →
        (∀ b, b ≠ w.heap.size → b ≠ w.heap.size + 1 → W6.heap[b]? = WB.heap[b]?) → W6.heap.size = WB.heap.size → Below w.heap.size WB W6 →
        ∃ W7, (Instr.endRound (w.heap.size + 4 + 1) none).run Try.prog W6 = .ok (.bool true) W7 ∧ GuJ w w.heap.size rec A n c l d (k + 1) B W7 ∧ RdI W7 A' d (pr d k)) := Lib.hid (by
      intro W6 s A9 c9 b1 b2 b3 hs hoth hsz6 hbel6
      have hl6 : W6.heap[w.heap.size + 4 + 1]? = some (.loop { rec with state := .busy }) := (hoth _ (by omega) (by omega)).trans hlB
      have hlt6 := (Array.getElem?_eq_some_iff.1 hl6).1
      have hend : (Instr.endRound (w.heap.size + 4 + 1) none).run Try.prog W6 = .ok (.bool true) (W6.putObj (w.heap.size + 4 + 1) (.loop rec)) := by
        have h9 := run_endRound (P := Try.prog) none hl6
        rw [h9]
        show Result.ok (Value.bool true) (W6.putObj _ (.loop { rec with state := (if (none : Option Code).isNone = true then LoopState.ready else LoopState.done), pending := none })) = _
        rw [show ({ rec with state := (if (none : Option Code).isNone = true then LoopState.ready else LoopState.done), pending := none } : Loop) = rec from hrr]
      have hg7 : W6.grownBy (W6.putObj (w.heap.size + 4 + 1) (.loop rec)) (some (w.heap.size + 4 + 1)) := grownBy_putObj' _ _ _
      have hkeep : ∀ {X : Option Addr} {m : Nat} {r : List Int}, RdI WB X m r → (∀ b, X.map (·.block) = some b → b ≠ w.heap.size ∧ b ≠ w.heap.size + 1 ∧ b ≠ w.heap.size + 4 + 1) → RdI (W6.putObj (w.heap.size + 4 + 1) (.loop rec)) X m r := by
        intro X m r hr hn
        refine RdI.grown (w := W6) ?_ hg7 (fun g e1 e2 => by injection e1 with e1; subst e1; exact (hn _ e2).2.2 rfl)
        exact ⟨hr.1.keep (by omega) (fun p hp hA => World.cell?_of_block (hoth p.block (hn _ hA).1 (hn _ hA).2.1)), hr.2⟩
      refine ⟨_, hend, ⟨⟨A9, c9, by rw [hs]; exact b1.grown hg7 (fun e => by injection e with e; omega), by rw [hs]; exact b3.grown hg7 (by
          cases e : A9.map (·.block) with
          | none => exact .inl rfl
          | some b => exact .inr (fun e2 => by injection e2 with e2; have := (b3.1.block e).1; omega))⟩,
        by rw [hs]; exact b2.grown hg7 (fun e => by injection e with e; omega),
        Blk.grown (w := W6) ((hoth _ (by omega) (by omega)).trans hx1B) hg7 (fun e => by injection e with e; omega),
        Blk.grown (w := W6) ((hoth _ (by omega) (by omega)).trans hx2B) hg7 (fun e => by injection e with e; omega),
        (World.putObj_heap_other (by omega)).trans ((hoth _ (by omega) (by omega)).trans hdB),
        World.putObj_heap_same hlt6, hkeep hrB (fun b hb => by have := hneA b hb; omega), hneA,
        (hbB.trans hbel6).grown hg7 (by have := hbB.size; omega) (fun b e => by injection e with e; omega), ⟨hle.1, by have := hg7.size; omega, hle.2.2⟩⟩,
        hkeep hpB.rd (fun b hb => by have := (hpB.1.block hb).1; omega)⟩)
    have HXB := Lib.hid hxB
    have HWB := Lib.hid hwB
    have HPB := Lib.hid (hpB.mono hle.1)
    have HOB := Lib.hid hOB
    have cx : WB.cell? ⟨w.heap.size, 0, none⟩ = some (.slice Ab (bestTo l d k).1.length cb) := by rw [hxB.cell]; rfl
    have cy : WB.cell? ⟨w.heap.size + 1, 0, none⟩ = some (.int .i64 (bestTo l d k).2) := by rw [hwB.cell]; rfl
    have fx := hxB.frozen 0
    have fy := hwB.frozen 0
    clear hj ho hl hlt hWB hgB hxo hown hxB hwB hx1B hx2B hOB hpB hrB hbB hlB hdB hy hsB hrr hneA
    have hx64 : I64 (waysOf l (pr d k)) := by
      have := waysOf_bd (c := l) (p := pr d k) (by rw [HLN.out]; exact hn6) HOK.out (pr_chk hd1 (by omega) k)
      unfold I64; omega
    have HSS : Hid (bestTo l d (k + 1) = if (bestTo l d k).2 < waysOf l (pr d k) then (pr d k, waysOf l (pr d k)) else bestTo l d k) := Lib.hid (bestTo_succ l d k)
    have HPL := Lib.hid (pr_len d k)
    generalize hxx : waysOf l (pr d k) = x at hx64 HSS ⊢
    obtain ⟨s, hs⟩ : ∃ s, bestTo l d k = s := ⟨_, rfl⟩
    rw [hs] at HXB HWB HOB cx cy HSS
    clear hxx hs
    have e := HREC.out
    subst e
    by_cases hlt : s.2 < x
    · have HS2 : Hid (bestTo l d (k + 1) = (pr d k, x)) := Lib.hid (by rw [HSS.out, if_pos hlt])
      have HE7 : Hid (∃ W7, (Instr.endRound (w.heap.size + 4 + 1) none).run Try.prog ((WB.setCell ⟨w.heap.size, 0, none⟩ (.slice A' d c')).setCell ⟨w.heap.size + 1, 0, none⟩ (.int .i64 x)) = .ok (.bool true) W7 ∧ ∃ B', GuJ w w.heap.size _ A n c l d (k + 1) B' W7 ∧ RdI W7 A' d (pr d k)) := Lib.hid (by
        have hPb : ∀ b, A'.map (·.block) = some b → w.heap.size + 6 ≤ b := fun b e => (HPB.out.1.block e).1
        obtain ⟨W7, e1, e2⟩ := HEND.out ((WB.setCell ⟨w.heap.size, 0, none⟩ (.slice A' d c')).setCell ⟨w.heap.size + 1, 0, none⟩ (.int .i64 x)) (pr d k, x) A' c'
          (by rw [show ((pr d k, x) : List Int × Int).1.length = d from HPL.out]; exact (HXB.out.set_ 0 (.slice A' d c')).far (p := ⟨w.heap.size + 1, 0, none⟩) (by simp) _)
          ((HWB.out.far (p := ⟨w.heap.size, 0, none⟩) (by simp) _).set_ 0 (.int .i64 x))
          (by
            rw [show ((pr d k, x) : List Int × Int).1.length = d from HPL.out]
            exact (HPB.out.far (p := ⟨w.heap.size, 0, none⟩) (fun e => by have h9 : w.heap.size + 6 ≤ w.heap.size := hPb _ e; omega) _).far (p := ⟨w.heap.size + 1, 0, none⟩) (fun e => by have h9 : w.heap.size + 6 ≤ w.heap.size + 1 := hPb _ e; omega) _)
          HS2.out
          (fun b h1 h2 => (Below.heap_setCell _ _ _ _ (by simpa using h2)).trans (Below.heap_setCell _ _ _ _ (by simpa using h1)))
          (by simp [World.setCell])
          (((Below.refl w.heap.size WB).setCell (p := ⟨w.heap.size, 0, none⟩) (Nat.le_refl _) _).setCell (p := ⟨w.heap.size + 1, 0, none⟩) (by simp) _)
        exact ⟨W7, e1, B, e2⟩)
      clear HEND HSJ
      gi_wp2
      refine ⟨WB, hbr, ?_⟩
      clear hbr
      gi_wp2
      obtain ⟨W7, e1, e2⟩ := HE7.out
      exact ⟨_, _, e1, rfl, e2⟩
    · have HS2 : Hid (bestTo l d (k + 1) = s) := Lib.hid (by rw [HSS.out, if_neg hlt])
      have hlt2 : x ≤ s.2 := by omega
      have HE7 : Hid (∃ W7, (Instr.endRound (w.heap.size + 4 + 1) none).run Try.prog WB = .ok (.bool true) W7 ∧ ∃ B', GuJ w w.heap.size _ A n c l d (k + 1) B' W7 ∧ RdI W7 A' d (pr d k)) := Lib.hid (by
        obtain ⟨W7, e1, e2⟩ := HEND.out WB s Ab cb HXB.out HWB.out HOB.out HS2.out (fun _ _ _ => rfl) rfl (Below.refl _ _)
        exact ⟨W7, e1, B, e2⟩)
      clear HEND HSJ hlt
      gi_wp2
      refine ⟨WB, hbr, ?_⟩
      clear hbr
      gi_wp2
      obtain ⟨W7, e1, e2⟩ := HE7.out
      exact ⟨_, _, e1, rfl, e2⟩
  · rintro e W2 ⟨⟨v, rfl⟩, B, hj⟩
    have hel := run_endLoop (P := Try.prog) hj.lp (by rw [hst]; simp)
    rw [hpe] at hel
    obtain ⟨Ab, cb, hxo, hown⟩ := hj.best
    have hle := hj.le
    obtain ⟨W4, hW4⟩ : ∃ W4, W4 = W2.putObj (w.heap.size + 4 + 1) (.loop { rec with state := .exhausted, pending := none }) := ⟨_, rfl⟩
    rw [← hW4] at hel
    have hg4 : W2.grownBy W4 (some (w.heap.size + 4 + 1)) := by rw [hW4]; exact grownBy_putObj' _ _ _
    have hd4 : W4.heap[w.heap.size + 4]? = some (.deferred (some [])) := by rw [hW4]; exact (World.putObj_heap_other (by omega)).trans hj.df
    have hx4 : Blk W4 w.heap.size 22 #[.slice Ab (bestTo l d (countR d).toNat).1.length cb] := hxo.grown hg4 (fun e => by injection e with e; omega)
    have hy4 : Blk W4 (w.heap.size + 1) 3 #[.int .i64 (bestTo l d (countR d).toNat).2] := hj.ways.grown hg4 (fun e => by injection e with e; omega)
    have hAb : ∀ b, Ab.map (·.block) = some b → w.heap.size + 6 ≤ b := fun b hb => (hown.1.block hb).1
    have hne : ∀ r, r < w.heap.size + 6 → Ab.map (·.block) = none ∨ Ab.map (·.block) ≠ some r := fun r hr => by
      cases e : Ab.map (·.block) with
      | none => exact .inl rfl
      | some b => exact .inr (fun e2 => by injection e2 with e2; have := hAb b e; omega)
    have ho4 := hown.grown hg4 (hne _ (by omega))
    have hb4 : Below w.heap.size w W4 := hj.bel.grown hg4 (by have := hj.bel.size; omega) (fun b e => by injection e with e; omega)
    have hg6 := grownBy_putObj' W4 (w.heap.size + 4) (.deferred none)
    obtain ⟨s, hs⟩ : ∃ s, bestTo l d (countR d).toNat = s := ⟨_, rfl⟩
    rw [hs] at hx4 hy4 ho4
    have HSE := Lib.hid hs
    have HX4 := Lib.hid hx4
    have HY4 := Lib.hid hy4
    have HO4 := Lib.hid ho4
    have HB4 := Lib.hid hb4
    have HD4 := Lib.hid hd4
    have c4 : W4.cell? ⟨w.heap.size, 0, none⟩ = some (.slice Ab s.1.length cb) := by rw [hx4.cell]; rfl
    have c5 : W4.cell? ⟨w.heap.size + 1, 0, none⟩ = some (.int .i64 s.2) := by rw [hy4.cell]; rfl
    have f4 := hx4.frozen 0
    have f5 := hy4.frozen 0
    clear hg4 hd4 hx4 hy4 hAb hne ho4 hb4 hg6 hxo hown hj hW4 hs
    refine ⟨none, W4, hel, ?_⟩
    clear hel
    gi_wp2_with fail
    have hS1 : W4.drew.setCell ⟨w.heap.size, 0, none⟩ (.slice Ab s.1.length cb) = W4.drew := setCell_same _ _ _ _ c4
    have hS2 : W4.drew.setCell ⟨w.heap.size + 1, 0, none⟩ (.int .i64 s.2) = W4.drew := setCell_same _ _ _ _ c5
    have c6 : W4.drew.cell? ⟨w.heap.size, 0, none⟩ = some (.slice Ab s.1.length cb) := c4
    have c7 : W4.drew.cell? ⟨w.heap.size + 1, 0, none⟩ = some (.int .i64 s.2) := c5
    gi_region
    all_goals
      clear hS1 hS2 c4 c5
      gi_wp2
      have c8 : (W4.drew.putObj (w.heap.size + 4) (.deferred none)).cell? ⟨w.heap.size, 0, none⟩ = some (.slice Ab s.1.length cb) := (World.cell?_of_block (World.putObj_heap_other (by simp))).trans c6
      have c9 : (W4.drew.putObj (w.heap.size + 4) (.deferred none)).cell? ⟨w.heap.size + 1, 0, none⟩ = some (.int .i64 s.2) := (World.cell?_of_block (World.putObj_heap_other (by simp))).trans c7
      have hg6 : W4.drew.grownBy (W4.drew.putObj (w.heap.size + 4) (.deferred none)) (some (w.heap.size + 4)) := grownBy_putObj' _ _ _
      have hb4 : Below w.heap.size w W4.drew := HB4.out.drew
      have ho6 := (OwnI.drew HO4.out).grown hg6 (by
        cases e : Ab.map (·.block) with
        | none => exact .inl rfl
        | some b => exact .inr (fun e2 => by injection e2 with e2; have := (HO4.out.1.block e).1; omega))
      have hb6 : Below w.heap.size w (W4.drew.putObj (w.heap.size + 4) (.deferred none)) := hb4.grown hg6 (by have := hb4.size; omega) (fun b e => by injection e with e; omega)
      refine ⟨by simp, .inl ⟨_, _, rfl, run_takeDeferred HD4.out, ?_⟩⟩
      refine ⟨.tuple #[.slice Ab s.1.length cb, .int .i64 s.2], ?_, ?_⟩
      · simp [results, Try.f94, go_sem, c8, c9]
      · rw [HSE.out]
        exact ⟨Ab, cb, rfl, ho6.mono (by omega), hb6⟩

/-- what Guess answers: the partition, its ways, the error -/
def guessE (c : List Int) (d : Int) : List Int × Int × Int := if shapedC c d ≠ 0 then ([], 0, shapedC c d) else ((bestTo c d.toNat (countR d.toNat).toNat).1, (bestTo c d.toNat (countR d.toNat).toNat).2, 0)
theorem guessE_bad {c : List Int} {d : Int} (h : shapedC c d ≠ 0) : guessE c d = ([], 0, shapedC c d) := by unfold guessE; rw [if_pos h]
theorem guessE_ok {c : List Int} {d : Nat} (h : shapedC c d = 0) : guessE c d = ((bestTo c d (countR d).toNat).1, (bestTo c d (countR d).toNat).2, 0) := by unfold guessE; rw [if_neg (by omega), Int.toNat_natCast]
/-- numbers, a number and an error -/
def IntsNumE (x : List Int × Int × Int) (w : World) (e : Ending) (w' : World) : Prop :=
  ∃ A c, e = .returned (.tuple #[.slice A x.1.length c, .int .i64 x.2.1, .int .i64 x.2.2]) ∧ OwnI w' w.heap.size 3 A x.1.length c x.1 ∧ Below w.heap.size w w'

set_option maxHeartbeats 1000000 in
set_option maxRecDepth 100000 in
theorem guessP_any (A : Option Addr) (n c : Nat) (l : List Int) (d : Int) (w : World) (h : RdI w A n l) (hd : I64 d) : Calls Try.prog 37 #[.agg #[.slice A n c, .int .i64 d]] w (IntsNumE (guessE l d) w) := by
  go_enter Try.func37, Try.ntmps37
  go_upto_region 1 with fail
  have HA := Lib.hid (h.alloc (.cells #[.slice A n c, .int .i64 d] 24))
  have HB := Lib.hid ((Below.refl _ w).alloc (Nat.le_refl _) (.cells #[.slice A n c, .int .i64 d] 24))
  have HX := Lib.hid (Blk.new w 24 #[.slice A n c, .int .i64 d])
  clear h
  generalize w.alloc (.cells #[.slice A n c, .int .i64 d] 24) = W at HA HB HX ⊢
  have c0 : W.cell? ⟨w.heap.size, 0, none⟩ = some (.slice A n c) := by rw [HX.out.cell]; rfl
  have c1 : W.cell? ⟨w.heap.size, 1, none⟩ = some (.int .i64 d) := by rw [HX.out.cell]; rfl
  go_wp2_with fail
  refine (shaped_any A n c l d W HA.out hd).mono ?_; rintro e w2 ⟨rfl, hb⟩
  have HA2 := Lib.hid (HA.out.below hb)
  have HX2 := Lib.hid (HX.out.below hb)
  have HB2 := Lib.hid (HB.out.trans (hb.mono HB.out.size))
  have c02 : w2.cell? ⟨w.heap.size, 0, none⟩ = some (.slice A n c) := by rw [HX2.out.cell]; rfl
  have c12 : w2.cell? ⟨w.heap.size, 1, none⟩ = some (.int .i64 d) := by rw [HX2.out.cell]; rfl
  clear hb HX c0 c1 HX2
  by_cases hz : shapedC l d = 0
  · have hd0 : 1 ≤ d := by
      have h1 : chkS l d = 0 := by
        unfold shapedC at hz
        by_cases h1 : chkS l d = 0
        · exact h1
        · rw [if_pos h1] at hz; exact hz
      exact (chkS_ok h1).2.2.2.1
    obtain ⟨d, rfl⟩ : ∃ d' : Nat, d = d' := ⟨d.toNat, by omega⟩
    have HV := Lib.hid (guessE_ok hz)
    have HZ := Lib.hid hz
    rw [hz]
    clear hz
    go_wp2_with fail
    refine (guessD_any A n c l d w2 HA2.out HZ.out).mono ?_; rintro e w3 ⟨A3, c3, rfl, ho, hb3⟩
    generalize bestTo l d (countR d).toNat = s at ho HV ⊢
    have HO := Lib.hid (ho.mono HB2.out.size)
    have HB3 := Lib.hid (HB2.out.trans (hb3.mono HB2.out.size))
    clear ho hb3
    go_wp2
    go_ret3
    rw [HV.out]; exact ⟨A3, c3, rfl, HO.out, HB3.out⟩
  · have HV := Lib.hid (guessE_bad hz)
    have g : (shapedC l d != 0) = true := by simpa using hz
    clear hz
    generalize shapedC l d = z at g HV ⊢
    go_wp2
    go_ret3
    rw [HV.out]; exact ⟨none, 0, rfl, OwnI.nil_ _ _ _, HB2.out⟩
end Go.Proofs.Ytcmacejpoihhlaa

namespace Go.Proofs.Ytcmacejpoihhlaa
open Go.RowKit

theorem sizes_pos (p : List Int) : chk p = 0 → ∀ s ∈ sizesOf p, 1 ≤ s := by
  refine snoc_ind (P := fun p => chk p = 0 → ∀ s ∈ sizesOf p, 1 ≤ s) (fun h => by unfold chk at h; simp at h) (fun p x ih h => ?_) p
  have hk := chk_ok h
  by_cases hp : p = []
  · subst hp
    have h1 := chkGo_unsnoc [] x 0 hk.2.2.2
    have hx : x = 0 := by simp at h1; omega
    subst hx
    intro s hs
    have e : sizesOf [0] = [1] := by decide +kernel
    rw [List.nil_append, e] at hs
    simp at hs; omega
  · have h1 := chkGo_unsnoc p x 0 hk.2.2.2
    have hpl : 0 < p.length := List.length_pos_iff.2 hp
    have hq : chk p = 0 := by
      rw [chk_go hpl (by have := hk.2.1; simp at this; omega)]; exact h1.1
    obtain ⟨b, rfl⟩ : ∃ b : Nat, x = b := ⟨x.toNat, by omega⟩
    have hb : (b : Int) ≤ blk p := h1.2.2
    rw [sizes_more hq hb]
    have ih := ih hq
    have hs := sizesOf_ok hq
    intro s hs'
    by_cases hlt : (b : Int) < blk p
    · rw [if_pos hlt] at hs'
      unfold incAt at hs'
      rcases List.mem_or_eq_of_mem_set hs' with h2 | rfl
      · exact ih s h2
      · have := ih _ (getD_mem (l := sizesOf p) (i := b) (by rw [hs.len]; omega)); omega
    · rw [if_neg hlt] at hs'
      rcases List.mem_append.1 hs' with h2 | h2
      · exact ih s h2
      · simp at h2; omega
theorem waysOf_ref {l p : List Int} (h : chk p = 0) : chanceR l (sizesOf p) (List.replicate l.length false) = waysOf l p := chance_ref (sizes_pos p h)

set_option maxHeartbeats 2000000 in
set_option maxRecDepth 100000 in
theorem partitioned_any (A B : Option Addr) (n c m cb : Nat) (l p : List Int) (d : Int) (w : World) (h : RdI w A n l) (h2 : RdI w B m p) (hk : chk p = 0) (hn6 : n ≤ 6) (hn1 : 1 ≤ n) (hok : okCounts l = true) :
    Calls Try.prog 87 #[.agg #[.slice A n c, .int .i64 d], .slice B m cb] w (NumM (waysOf l p) w) := by
  have hlen := h2.len
  have hln := h.len
  have hck := chk_ok hk
  have hb9 := blk_le9 hk
  have hsm := chk_small hk
  obtain ⟨q, hq⟩ : ∃ q : Nat, blk p = q := ⟨(blk p).toNat, by omega⟩
  have hq1 : 1 ≤ q := by omega
  have hq9 : q ≤ 9 := by omega
  have hm9 : m ≤ 9 := by omega
  have hm1 : 1 ≤ m := by omega
  have HSO := Lib.hid (fun k hk' => sizes_ok (p := p) (m := q) (fun v hv => by have h1 := hck.2.2.1 v hv; have h2 := lt_blk hv; omega) k hk')
  have HPV : Hid (∀ v ∈ p, 0 ≤ v ∧ v < q) := Lib.hid (fun v hv => by have h1 := hck.2.2.1 v hv; have h2 := lt_blk hv; omega)
  have HKK : Hid (Kinds l) := Lib.hid ⟨by omega, fun x hx => by have := okCounts_mem hok x hx; omega⟩
  have HQ := Lib.hid hq
  have HL := Lib.hid hlen
  have HLN := Lib.hid hln
  have HSMP := Lib.hid hsm
  have HWY := Lib.hid (waysOf_ref (l := l) hk)
  obtain ⟨i0, hi0, hz0, hz1, hz2⟩ := info_parts intInfo
  obtain ⟨i1, hi1, hy0, hy1, hy2⟩ := info_parts boolInfo
  clear hb9 hck hk hq hlen hsm hln
  go_enter Try.func87, Try.ntmps87
  go_upto_region 1 with fail
  have HA := Lib.hid (h.alloc (.cells #[.slice A n c, .int .i64 d] 24))
  have HP := Lib.hid (h2.alloc (.cells #[.slice A n c, .int .i64 d] 24))
  have HB := Lib.hid ((Below.refl _ w).alloc (Nat.le_refl _) (.cells #[.slice A n c, .int .i64 d] 24))
  have HX := Lib.hid (Blk.new w 24 #[.slice A n c, .int .i64 d])
  have HAB : Hid (∀ b, A.map (·.block) = some b → b < w.heap.size) := Lib.hid (fun b e => h.block (by omega) e)
  have HBB : Hid (∀ b, B.map (·.block) = some b → b < w.heap.size) := Lib.hid (fun b e => h2.block (by omega) e)
  clear h h2
  have hWs : (w.alloc (.cells #[.slice A n c, .int .i64 d] 24)).heap.size = w.heap.size + 1 := by simp
  generalize w.alloc (.cells #[.slice A n c, .int .i64 d] 24) = W at HA HB HX HP hWs ⊢
  have HWS := Lib.hid hWs
  clear hWs
  go_wp2_with fail
  refine (refBlocks_any B m cb p W HP.out HSMP.out).mono ?_; rintro e w' ⟨rfl, rfl⟩
  rw [HQ.out]
  go_upto_region 2 with (at_make; go_must (refine wpList_make_full W rfl (.tmp 8) (.tmp 8) 22 rfl W.heap.size 3 i0 (.int .i64 0) 1 Try.underlying22 hi0 hz0 hz1 .i64 .i64 q q q rfl rfl rfl rfl (by rw [hz2]; omega) (by unfold maxLen; omega) (Nat.le_refl _) ?_); intro w3 hown hg3)
  have HO3 : Hid (OwnI w3 W.heap.size 3 (some ⟨W.heap.size, 0, none⟩) q q (sizesTo p q 0)) := by
    refine ⟨⟨?_, by omega⟩, fun v hv => ?_⟩
    · rw [show (madeCells (Value.int .i64 0).cells (q * 1)).toList = ints (sizesTo p q 0) from by rw [Nat.mul_one]; show (madeCells #[Value.int .i64 0] q).toList = _; rw [toList_madeCells_one]; simp [ints, sizesTo]] at hown
      exact hown
    · have := (HSO.out 0 (by omega)).pos v hv
      exact I64.small (by omega)
  have HB3 := Lib.hid ((Below.refl W.heap.size W).grown hg3 (Nat.le_refl _) (by simp))
  clear hown hg3
  go_wp2_with fail
  go_loopw [6] (fun i wr => ∃ k : Nat, k ≤ m ∧ i = .int .i64 k ∧ OwnI wr W.heap.size 3 (some ⟨W.heap.size, 0, none⟩) q q (sizesTo p q k) ∧ Below W.heap.size W wr) (fun i _ => m - (intOf i).toNat)
  case atStart => exact ⟨0, by omega, rfl, HO3.out, HB3.out⟩
  case round =>
    obtain ⟨k, hkm, rfl, hown, hbel⟩ := hrel
    have HO := Lib.hid hown
    have HBE := Lib.hid hbel
    have HPR := Lib.hid (HP.out.below hbel)
    clear hown hbel HO3 HB3
    by_cases hlt : k < m
    · obtain ⟨ad, v, rfl, _, hv, _, hcv⟩ := HPR.out.at_ hlt
      have hv2 := HPV.out v (List.mem_of_getElem? hv.out)
      obtain ⟨v, rfl⟩ : ∃ v' : Nat, v = v' := ⟨v.toNat, by omega⟩
      have hvq : v < q := by omega
      have hvqI : (v : Int) < q := by omega
      have hso := HSO.out k (by rw [HL.out]; exact hkm)
      obtain ⟨u, hu⟩ : ∃ u, (sizesTo p q k)[v]? = some u := ⟨_, get_getD (by rw [hso.len]; exact hvq)⟩
      have hu0 := hso.pos u (List.mem_of_getElem? hu)
      have hcu := HO.out.cellAt hu
      have hfu := HO.out.frozenAt v
      have HN : Hid (sizesTo p q (k + 1) = (sizesTo p q k).set v (u + 1)) := Lib.hid (by rw [sizesTo_succ hv.out]; unfold sizeStep; rw [Int.toNat_natCast, getD_of_get hu])
      have HU : Hid (I64 (u + 1)) := Lib.hid (I64.small (by omega))
      have hu9 : u ≤ 9 := by omega
      have hu1 : 0 ≤ u := by omega
      clear hso hu hu0
      go_wp2
      go_roundw
      case rel => exact ⟨k + 1, by omega, by go_num, by rw [HN.out]; exact HO.out.stored v HU.out, HBE.out.setCell (p := ⟨W.heap.size, v, none⟩) (Nat.le_refl _) _⟩
      case measure => simp [intOf]; omega
    · obtain rfl : k = m := by omega
      have HSE : Hid (sizesTo p q k = sizesOf p) := Lib.hid (by unfold sizesOf; rw [HQ.out, Int.toNat_natCast, HL.out])
      rw [HSE.out] at HO
      have hso := HSO.out k (by rw [HL.out]; exact Nat.le_refl _)
      rw [HSE.out] at hso
      have HAR := Lib.hid (HA.out.below HBE.out)
      have HXR := Lib.hid (HX.out.below HBE.out)
      have k0 : wr.cell? ⟨w.heap.size, 0, none⟩ = some (.slice A n c) := by rw [HXR.out.cell]; rfl
      have hxl := HXR.out.lt
      obtain ⟨w5, hrun, hown5, hg5⟩ := run_make_full (P := Try.prog) wr.drew wr.drew.heap.size 136 4 i1 (.bool false) 1 Try.underlying136 hi1 hy0 hy1 .i64 .i64 n (by rw [hy2]; omega) (by unfold maxLen; omega) (Nat.le_refl _)
      have hb5 : Below wr.heap.size wr w5 := (Below.refl wr.heap.size wr).drew.trans ((Below.refl _ _).grown hg5 (Nat.le_refl _) (by simp))
      have HT5 : Hid (Own w5 wr.heap.size 4 1 (some ⟨wr.heap.size, 0, none⟩) n n (bools (List.replicate n false))) := by
        refine ⟨?_, by omega⟩
        rw [show (madeCells (Value.bool false).cells (n * 1)).toList = bools (List.replicate n false) from by rw [Nat.mul_one]; show (madeCells #[Value.bool false] n).toList = _; rw [toList_madeCells_one]; simp [bools]] at hown5
        exact hown5
      have HAR5 := Lib.hid (HAR.out.below hb5)
      have HO5 := Lib.hid (HO.out.rd.below hb5)
      have hsW := HBE.out.size
      have hlw := HWS.out
      have HOB := (HO.out.1.block (k := W.heap.size) rfl).2
      have HI : Hid (Calls Try.prog 121 #[.slice A n c, .slice (some ⟨W.heap.size, 0, none⟩) q q, .int .i64 0, .slice (some ⟨wr.heap.size, 0, none⟩) n n] w5 (NumS (waysOf l p) w5)) := Lib.hid (by
        have := rchance_any A (some ⟨W.heap.size, 0, none⟩) (some ⟨wr.heap.size, 0, none⟩) n c q q n wr.heap.size l (sizesOf p) (fun s hs => (hso.pos s hs).1) (by rw [hso.sum]; exact hm9) hq9 hn6 HKK.out
          (fun g e e2 => by injection e with e; have := HAB.out _ e2; simp at e; omega) (fun g e e2 => by injection e with e; injection e2 with e2; simp at e e2; omega)
          (sizesOf p) [] (List.replicate n false) w5 rfl HAR5.out HO5.out HT5.out
        rw [show List.replicate n false = List.replicate l.length false by rw [HLN.out], HWY.out] at this
        exact this)
      have m0 := (hb5.cell (p := ⟨w.heap.size, 0, none⟩) hxl).trans k0
      have HBF := Lib.hid (HB.out.trans ((HBE.out.trans (hb5.mono hsW)).mono HB.out.size))
      clear hown5 hg5 hso HAR HXR HO HBE HT5 HAR5 HO5 hsW hlw HOB hi0 hz0 hz1 hz2 hi1 hy0 hy1 hy2
      go_upto_region 6 with fail
      go_region_held3 (fun w' => w'.cell? ⟨w.heap.size, 0, none⟩ = some (.slice A n c)) (first | exact k0 | exact m0) (first
        | (go_at_call 121; refine HI.out.mono ?_; rintro e wc ⟨rfl, hcl⟩; have m0 := (hcl.cell _).trans m0))
      have HF := Lib.hid (HBF.out.trans (hcl.below _))
      clear hrun
      go_wp2
      go_ret
      exact ⟨rfl, HF.out⟩
end Go.Proofs.Ytcmacejpoihhlaa

namespace Go.Proofs.Ytcmacejpoihhlaa
open Go.RowKit

theorem OwnI.capM {w : World} {base n c : Nat} {e : TypeId} {A : Option Addr} {l : List Int} (h : OwnI w base e A n c l) : n ≤ c := by
  rcases h.1.1.2 with ⟨h1, h2⟩ | ⟨g, cap, cur, h1, _, _, hnc, _⟩
  · injection h1 with h1 h3 h4; omega
  · injection h1 with h1 h3 h4; omega
/-- 'append(out, row)', the row laid in a new block first: what is left alone. -/
theorem wpList_appL2 (w : World) {ops : Array Oper} {rest : List Oper} {o : Oper} {a : Act} {Q : Exit → Act → World → Prop} (hgd : o.guard = none) (s x : Operand)
    (ho : o.op = .call { callee := .builtin .append, args := #[s, x], argTypes := #[38, 38] })
    {base n c : Nat} {A : Option Addr} {ll : List (List Int)} {B : Option Addr} {m d : Nat} {l : List Int} (t : TypeId) (hs : a.eval s = .slice A n c) (hx : a.eval x = .slice (some ⟨w.heap.size, 0, none⟩) 1 1) (hown : OwnL w base A n c ll)
    (hr : RdI w B m l) (hne : 0 < m → A.map (·.block) ≠ B.map (·.block)) (hnm : n + 1 ≤ 1000000) (hbase : base ≤ w.heap.size)
    (h : ∀ A' c' w', OwnL w' base A' (n + 1) c' (ll ++ [l]) → Below base w w' → w.grownBy w' (A.map (·.block)) → wpList Try.prog ops Q rest (a.put o.dst (.slice A' (n + 1) c')) w') :
    wpList Try.prog ops Q (o :: rest) a (w.alloc (.cells #[.slice B m d] t)) := by
  obtain ⟨i0, hi0, hz0, hz1, hz2⟩ := info_parts rowInfo
  obtain ⟨vs, h1, h2, h3⟩ := hown
  refine wpList_app _ hgd s x 38 ho base 22 i0 _ 24 Try.underlying38 hi0 hz0 hz1 hz2 rfl (by decide) A n c vs hs (h1.alloc _) _ 1 1 [.slice B m d] hx (Rd.one w t _) (by intro u hu; simp at hu; subst hu; rfl) (by omega) (by simp; omega) ?_
  intro A' c' w' k1 k2 k3
  have hg : w.grownBy w' (A.map (·.block)) := grown_trans (World.grownBy_alloc w _ _) k2
  exact h A' c' w' (OwnL.push h1 h2 h3 hr hne k1 hg (gx := (w.alloc (.cells #[.slice B m d] t)).heap.size) (by simp) k3) (below_app h1 hg hbase) hg
def prs (d k : Nat) : List (List Int) := (List.range k).map (pr d)
theorem prs_succ (d k : Nat) : prs d (k + 1) = prs d k ++ [pr d k] := by unfold prs; rw [List.range_succ, List.map_append]; rfl
theorem prs_get {d k j : Nat} {l : List Int} (h : (prs d k)[j]? = some l) : j < k ∧ l = pr d j := by
  unfold prs at h
  rw [List.getElem?_map] at h
  by_cases hj : j < k
  · rw [List.getElem?_range hj] at h; simp at h; exact ⟨hj, h.symm⟩
  · rw [List.getElem?_eq_none (by simp; omega)] at h; cases h
/-- all partitions of d packets, the callee's own -/
def Alled (d : Nat) (w : World) (e : Ending) (w' : World) : Prop :=
  ∃ (A : Option Addr) (c : Nat), e = .returned (.slice A (countR d).toNat c) ∧ OwnL w' w.heap.size A (countR d).toNat c (prs d (countR d).toNat) ∧ Below w.heap.size w w'

set_option maxHeartbeats 1000000 in
set_option maxRecDepth 100000 in
theorem all_any (d : Nat) (w : World) (hd1 : 1 ≤ d) (hd6 : d ≤ 6) : Calls Try.prog 93 #[.int .i64 d] w (Alled d w) := by
  obtain ⟨i0, hi0, hz0, hz1, hz2⟩ := info_parts intInfo
  have hcp := count_pos hd1 hd6
  obtain ⟨m, hm⟩ : ∃ m : Nat, countR d = m := ⟨(countR d).toNat, by omega⟩
  have hm1 : 1 ≤ m := by omega
  have hm203 : m ≤ 203 := by omega
  have HNX : Hid (∀ k : Nat, k + 1 < m → nextL (pr d k) = some (pr d (k + 1))) := Lib.hid (fun k hk => (next_pr hd1 (by omega) (r := k) (by rw [hm]; omega)).1)
  have HLS : Hid (∀ k : Nat, k + 1 = m → nextL (pr d k) = none) := Lib.hid (fun k hk => last_pr hd1 (by omega) (r := k) (by rw [hm]; omega))
  have HCK : Hid (∀ k : Nat, chk (pr d k) = 0) := Lib.hid (pr_chk hd1 (by omega))
  have HPL : Hid (∀ k : Nat, (pr d k).length = d) := Lib.hid (pr_len d)
  have HM := Lib.hid hm
  clear hm hcp
  go_enter Try.func93, Try.ntmps93
  go_upto_region 2 with (at_make; go_must (refine wpList_make_full w rfl (.tmp 6) (.tmp 6) 22 rfl w.heap.size 3 i0 (.int .i64 0) 1 Try.underlying22 hi0 hz0 hz1 .i64 .i64 d d d rfl rfl rfl rfl (by rw [hz2]; omega) (by unfold maxLen; omega) (Nat.le_refl _) ?_); intro w3 hown hg3)
  have HO3 : Hid (OwnI w3 w.heap.size 3 (some ⟨w.heap.size, 0, none⟩) d d (pr d 0)) := by
    refine ⟨⟨?_, by omega⟩, fun v hv => ?_⟩
    · rw [show (madeCells (Value.int .i64 0).cells (d * 1)).toList = ints (pr d 0) from by rw [Nat.mul_one]; show (madeCells #[Value.int .i64 0] d).toList = _; rw [toList_madeCells_one, pr_zero d (by omega)]; simp [ints]] at hown
      exact hown
    · rw [pr_zero d (by omega)] at hv
      rw [(List.mem_replicate.1 hv).2]
      exact I64.small (by omega)
  have HB3 := Lib.hid ((Below.refl w.heap.size w).grown hg3 (Nat.le_refl _) (by simp))
  clear hown hg3 hi0 hz0 hz1 hz2
  go_wp2_with fail
  go_loopw [3, 4, 5] (fun p out is wr => ∃ (k : Nat) (Ao : Option Addr) (co : Nat), out = .slice Ao k co ∧ OwnL wr w.heap.size Ao k co (prs d k) ∧ Below w.heap.size w wr ∧ ((k < m ∧ is = .bool true ∧ ∃ (Ap : Option Addr) (cp B : Nat), p = .slice Ap d cp ∧ OwnI wr B 3 Ap d cp (pr d k) ∧ w.heap.size ≤ B ∧ ∀ b, Ao.map (·.block) = some b → b < B) ∨ (k = m ∧ is = .bool false))) (fun _ out _ _ => match out with | .slice _ k _ => m + 1 - k | _ => 0)
  case atStart => exact ⟨0, none, 0, rfl, OwnL.nil_ _ _, HB3.out, .inl ⟨by omega, rfl, _, _, _, rfl, HO3.out, Nat.le_refl _, fun b e => by cases e⟩⟩
  case round =>
    obtain ⟨k, Ao, co, rfl, hol, hbel, ⟨hkm, rfl, Ap, cp, B, rfl, hop, hB, hAB⟩ | ⟨rfl, rfl⟩⟩ := hrel
    · have HOL := Lib.hid hol
      have HBE := Lib.hid hbel
      have HOP := Lib.hid hop
      have hsz := hbel.size
      have hne : 0 < d → Ao.map (·.block) ≠ Ap.map (·.block) := fun _ e => by
        obtain ⟨gp, e1, h1, _⟩ := hop.form (by omega)
        have := hAB gp (by rw [e, e1]; rfl)
        omega
      have HNE := Lib.hid hne
      have hcap := hop.capM
      clear hol hbel hop hAB hne HO3 HB3
      have hk2 : k + 1 ≤ 1000000 := by omega
      go_wp2_with (at_builtin; go_must (refine wpList_appL2 _ rfl (.tmp 14) (.tmp 16) rfl _ rfl rfl HOL.out HOP.out.rd HNE.out hk2 hsz ?_); intro A2 c2 w4 h1 h2 h3; have K1 := Lib.hid h1; have K2 := Lib.hid h2; have K3 := Lib.hid (And.intro (HOP.out.rd.grown h3 (fun g e1 e2 => HNE.out hd1 (e1.trans e2.symm))) h3.size); clear h1 h2 h3)
      rw [← prs_succ] at K1
      have hA2 : ∀ b, A2.map (·.block) = some b → b < w4.heap.size := fun b e => (K1.out.lt b e).2
      have HA2 := Lib.hid hA2
      have hsz4 : w.heap.size ≤ w4.heap.size := by have := K3.out.2; omega
      clear hA2 HOL HOP HNE
      by_cases hlt : k + 1 < m
      · have hnx := HNX.out k hlt
        have HAF := Lib.hid (refAfter_any Ap d cp (pr d k) w4 K3.out.1 hcap (HCK.out k))
        go_wp2_with fail
        refine HAF.out.mono ?_
        rintro e w5 (⟨q, A5, c5, hq, rfl, ho5, hb5⟩ | ⟨hq, rfl, hb5⟩)
        · rw [hnx] at hq
          injection hq with hq
          subst hq
          rw [HPL.out] at ho5 ⊢
          have HO5 := Lib.hid ho5
          have HL5 := Lib.hid (K1.out.below hb5)
          have HB5 := Lib.hid ((HBE.out.trans K2.out).trans (hb5.mono hsz4))
          clear ho5 hb5 hnx HAF
          go_wp2
          go_roundw
          case rel => exact ⟨k + 1, A2, c2, rfl, HL5.out, HB5.out, .inl ⟨hlt, rfl, A5, c5, w4.heap.size, rfl, HO5.out, hsz4, HA2.out⟩⟩
          case measure => simp; omega
        · rw [hnx] at hq; cases hq
      · have hkm1 : k + 1 = m := by omega
        have hnx := HLS.out k hkm1
        have HAF := Lib.hid (refAfter_any Ap d cp (pr d k) w4 K3.out.1 hcap (HCK.out k))
        go_wp2_with fail
        refine HAF.out.mono ?_
        rintro e w5 (⟨q, A5, c5, hq, rfl, ho5, hb5⟩ | ⟨hq, rfl, hb5⟩)
        · rw [hnx] at hq; cases hq
        · have HL5 := Lib.hid (K1.out.below hb5)
          have HB5 := Lib.hid ((HBE.out.trans K2.out).trans (hb5.mono hsz4))
          have HKM := Lib.hid hkm1
          clear hb5 hnx HAF hq hkm1
          go_wp2
          go_roundw
          case rel => exact ⟨k + 1, A2, c2, rfl, HL5.out, HB5.out, .inr ⟨HKM.out, rfl⟩⟩
          case measure => simp; omega
    · have HOL := Lib.hid hol
      have HBE := Lib.hid hbel
      clear hol hbel HO3 HB3
      go_wp2
      go_ret
      have hmm : (countR d).toNat = k := by rw [HM.out, Int.toNat_natCast]
      refine ⟨Ao, co, by rw [hmm]; rfl, by rw [hmm]; exact HOL.out, HBE.out⟩

/-- numbers and a number, to be read -/
def IntsNumR (x : List Int × Int) (w : World) (e : Ending) (w' : World) : Prop :=
  ∃ A c, e = .returned (.tuple #[.slice A x.1.length c, .int .i64 x.2]) ∧ RdI w' A x.1.length x.1 ∧ Below w.heap.size w w'

set_option maxHeartbeats 2000000 in
set_option maxRecDepth 100000 in
theorem rguess_any (A : Option Addr) (n c : Nat) (l : List Int) (d : Nat) (w : World) (h : RdI w A n l) (hz : shapedC l d = 0) : Calls Try.prog 95 #[.agg #[.slice A n c, .int .i64 d]] w (IntsNumR (bestTo l d (countR d).toNat) w) := by
  have hck : chkS l d = 0 ∧ d ≤ 6 := by
    unfold shapedC at hz
    by_cases h1 : chkS l d = 0
    · refine ⟨h1, ?_⟩
      rw [if_neg (by omega)] at hz
      by_cases h2 : (6 : Int) < d
      · rw [if_pos h2] at hz; omega
      · omega
    · rw [if_pos h1] at hz; omega
  have hk := chkS_ok hck.1
  have hd1 : 1 ≤ d := by omega
  have hd6 : d ≤ 6 := by omega
  have hlen := h.len
  have hn1 : 1 ≤ n := by omega
  have hn6 : n ≤ 6 := by omega
  have HOK := Lib.hid hk.2.2.1
  have HLN := Lib.hid hlen
  have hcp := count_pos hd1 hd6
  obtain ⟨m, hm⟩ : ∃ m : Nat, countR d = m := ⟨(countR d).toNat, by omega⟩
  have hm203 : m ≤ 203 := by omega
  have HM := Lib.hid hm
  rw [hm, Int.toNat_natCast]
  clear hz hck hk hlen hcp hm
  go_enter Try.func95, Try.ntmps95
  go_upto_region 1 with fail
  have HA := Lib.hid (h.alloc (.cells #[.slice A n c, .int .i64 d] 24))
  have HB := Lib.hid ((Below.refl _ w).alloc (Nat.le_refl _) (.cells #[.slice A n c, .int .i64 d] 24))
  have HX := Lib.hid (Blk.new w 24 #[.slice A n c, .int .i64 d])
  clear h
  generalize w.alloc (.cells #[.slice A n c, .int .i64 d] 24) = W at HA HB HX ⊢
  have c0 : W.cell? ⟨w.heap.size, 0, none⟩ = some (.slice A n c) := by rw [HX.out.cell]; rfl
  have c1 : W.cell? ⟨w.heap.size, 1, none⟩ = some (.int .i64 d) := by rw [HX.out.cell]; rfl
  go_wp2_with fail
  refine (all_any d W hd1 hd6).mono ?_; rintro e w2 ⟨Al, cl, rfl, hol, hb2⟩
  rw [HM.out, Int.toNat_natCast] at hol ⊢
  have HL2 := Lib.hid hol.rd
  have HA2 := Lib.hid (HA.out.below hb2)
  have HX2 := Lib.hid (HX.out.below hb2)
  have HB2 := Lib.hid (HB.out.trans (hb2.mono HB.out.size))
  have hxl := HX2.out.lt
  clear hol hb2 HA HX HB c0 c1
  have c0 : w2.cell? ⟨w.heap.size, 0, none⟩ = some (.slice A n c) := by rw [HX2.out.cell]; rfl
  have c1 : w2.cell? ⟨w.heap.size, 1, none⟩ = some (.int .i64 d) := by rw [HX2.out.cell]; rfl
  go_wp2_with fail
  go_loopw [4, 5, 7] (fun p x i wr => ∃ (k : Nat) (Ab : Option Addr) (cb : Nat), k ≤ m ∧ i = .int .i64 k ∧ p = .slice Ab (bestTo l d k).1.length cb ∧ x = .int .i64 (bestTo l d k).2 ∧ RdI wr Ab (bestTo l d k).1.length (bestTo l d k).1 ∧ Below w2.heap.size w2 wr) (fun _ _ i _ => m - (intOf i).toNat)
  case atStart => exact ⟨0, none, 0, by omega, rfl, rfl, rfl, RdI.nil_, Below.refl _ _⟩
  case round =>
    obtain ⟨k, Ab, cb, hk, rfl, rfl, rfl, hrb, hbel⟩ := hrel
    have HRB := Lib.hid hrb
    have HBE := Lib.hid hbel
    have HLR := Lib.hid (HL2.out.below hbel)
    have HAR := Lib.hid (HA2.out.below hbel)
    have k0 := (hbel.cell (p := ⟨w.heap.size, 0, none⟩) hxl).trans c0
    have k1 := (hbel.cell (p := ⟨w.heap.size, 1, none⟩) hxl).trans c1
    have hszr := hbel.size
    clear hrb hbel
    by_cases hlt : k < m
    · obtain ⟨ad, B9, m9, d9, p9, rfl, hadl, hv, hr9, hcell⟩ := HLR.out.at_ hlt
      obtain ⟨_, rfl⟩ := prs_get hv.out
      obtain rfl : m9 = d := by have := hr9.len; rw [pr_len] at this; exact this.symm
      have HR9 := Lib.hid hr9
      have hadl2 : (ad.add k).block < wr.heap.size := by rw [block_of_add]; exact hadl
      have hx2 : w.heap.size < wr.heap.size := by omega
      have HBS : Hid (bestTo l m9 (k + 1) = if (bestTo l m9 k).2 < waysOf l (pr m9 k) then (pr m9 k, waysOf l (pr m9 k)) else bestTo l m9 k) := Lib.hid (bestTo_succ l m9 k)
      have HPC : Hid (∀ W', RdI W' A n l → RdI W' B9 m9 (pr m9 k) → Calls Try.prog 87 #[.agg #[.slice A n c, .int .i64 m9], .slice B9 m9 d9] W' (NumM (waysOf l (pr m9 k)) W')) := Lib.hid (fun W' h1 h2 => partitioned_any A B9 n c m9 d9 l (pr m9 k) m9 W' h1 h2 (pr_chk hd1 (by omega) k) hn6 hn1 HOK.out)
      have HPL := Lib.hid (pr_len m9 k)
      generalize waysOf l (pr m9 k) = x at HBS HPC
      generalize bestTo l m9 k = s at HRB HBS ⊢
      generalize hp : pr m9 k = p at HBS HPC HR9 HPL
      clear hr9 hv hp
      go_upto_region 7 with fail
      go_region_held3 (fun w' => (w'.cell? ⟨w.heap.size, 0, none⟩ = some (.slice A n c) ∧ w'.cell? ⟨w.heap.size, 1, none⟩ = some (.int .i64 m9)) ∧ w'.cell? (ad.add k) = some (.slice B9 m9 d9)) (first | exact ⟨⟨k0, k1⟩, hcell⟩ | exact ⟨⟨(hcl.cell (p := ⟨w.heap.size, 0, none⟩) hx2).trans k0, (hcl.cell (p := ⟨w.heap.size, 1, none⟩) hx2).trans k1⟩, (hcl.cell hadl2).trans hcell⟩) (first
        | (go_at_call 87; refine (HPC.out wr.drew HAR.out.drew HR9.out.drew).mono ?_; rintro e wc ⟨rfl, hcl⟩))
      have hcl2 : Below wr.heap.size wr wc := (Below.refl _ wr).drew.trans hcl
      have q3 := (hcl.cell (p := ad.add k) hadl2).trans hcell
      have HBW := Lib.hid (HBE.out.trans (hcl2.mono hszr))
      have HR9c := Lib.hid (HR9.out.below hcl2)
      have HRBc := Lib.hid (HRB.out.below hcl2)
      clear hcl hcl2 hcell k0 k1 HR9 HRB HBE HLR HAR
      have hkI : (k : Int) < m := by omega
      by_cases hx : s.2 < x
      · rw [if_pos hx] at HBS
        go_wp2
        go_roundw
        case rel => exact ⟨k + 1, B9, d9, by omega, by go_num, by rw [HBS.out]; simp only [HPL.out], by rw [HBS.out], by rw [HBS.out]; simp only [HPL.out]; exact HR9c.out, HBW.out⟩
        case measure => simp [intOf]; omega
      · rw [if_neg hx] at HBS
        have hx3 : x ≤ s.2 := by omega
        clear hx
        go_wp2
        go_roundw
        case rel => exact ⟨k + 1, Ab, cb, by omega, by go_num, by rw [HBS.out], by rw [HBS.out], by rw [HBS.out]; exact HRBc.out, HBW.out⟩
        case measure => simp [intOf]; omega
    · obtain rfl : k = m := by omega
      have HBF := Lib.hid (HB2.out.trans (HBE.out.mono HB2.out.size))
      go_wp2
      go_ret2
      exact ⟨Ab, cb, rfl, HRB.out, HBF.out⟩

/-- numbers, a number and an error, to be read -/
def IntsNumER (x : List Int × Int × Int) (w : World) (e : Ending) (w' : World) : Prop :=
  ∃ A c, e = .returned (.tuple #[.slice A x.1.length c, .int .i64 x.2.1, .int .i64 x.2.2]) ∧ RdI w' A x.1.length x.1 ∧ Below w.heap.size w w'
theorem shaped_pos {l : List Int} {d : Int} (hz : shapedC l d = 0) : chkS l d = 0 ∧ 1 ≤ d ∧ d ≤ 6 := by
  unfold shapedC at hz
  by_cases h1 : chkS l d = 0
  · rw [if_neg (by omega)] at hz
    by_cases h2 : (6 : Int) < d
    · rw [if_pos h2] at hz; omega
    · exact ⟨h1, (chkS_ok h1).2.2.2.1, by omega⟩
  · rw [if_pos h1] at hz; omega

set_option maxHeartbeats 1000000 in
set_option maxRecDepth 100000 in
theorem rguessE_any (A : Option Addr) (n c : Nat) (l : List Int) (d : Int) (w : World) (h : RdI w A n l) (hd : I64 d) : Calls Try.prog 38 #[.agg #[.slice A n c, .int .i64 d]] w (IntsNumER (guessE l d) w) := by
  go_enter Try.func38, Try.ntmps38
  go_upto_region 1 with fail
  have HA := Lib.hid (h.alloc (.cells #[.slice A n c, .int .i64 d] 24))
  have HB := Lib.hid ((Below.refl _ w).alloc (Nat.le_refl _) (.cells #[.slice A n c, .int .i64 d] 24))
  have HX := Lib.hid (Blk.new w 24 #[.slice A n c, .int .i64 d])
  clear h
  generalize w.alloc (.cells #[.slice A n c, .int .i64 d] 24) = W at HA HB HX ⊢
  have c0 : W.cell? ⟨w.heap.size, 0, none⟩ = some (.slice A n c) := by rw [HX.out.cell]; rfl
  have c1 : W.cell? ⟨w.heap.size, 1, none⟩ = some (.int .i64 d) := by rw [HX.out.cell]; rfl
  go_wp2_with fail
  refine (rshaped_any A n c l d W HA.out hd).mono ?_; rintro e w2 ⟨rfl, hb⟩
  have HA2 := Lib.hid (HA.out.below hb)
  have HX2 := Lib.hid (HX.out.below hb)
  have HB2 := Lib.hid (HB.out.trans (hb.mono HB.out.size))
  have c02 : w2.cell? ⟨w.heap.size, 0, none⟩ = some (.slice A n c) := by rw [HX2.out.cell]; rfl
  have c12 : w2.cell? ⟨w.heap.size, 1, none⟩ = some (.int .i64 d) := by rw [HX2.out.cell]; rfl
  clear hb HX c0 c1 HX2
  by_cases hz : shapedC l d = 0
  · have hd0 := shaped_pos hz
    obtain ⟨d, rfl⟩ : ∃ d' : Nat, d = d' := ⟨d.toNat, by omega⟩
    have HV := Lib.hid (guessE_ok hz)
    have HZ := Lib.hid hz
    rw [hz]
    clear hz hd0
    go_wp2_with fail
    refine (rguess_any A n c l d w2 HA2.out HZ.out).mono ?_; rintro e w3 ⟨A3, c3, rfl, ho, hb3⟩
    generalize bestTo l d (countR d).toNat = s at ho HV ⊢
    have HO := Lib.hid ho
    have HB3 := Lib.hid (HB2.out.trans (hb3.mono HB2.out.size))
    clear ho hb3
    go_wp2
    go_ret3
    rw [HV.out]; exact ⟨A3, c3, rfl, HO.out, HB3.out⟩
  · have HV := Lib.hid (guessE_bad hz)
    have g : (shapedC l d != 0) = true := by simpa using hz
    clear hz
    generalize shapedC l d = z at g HV ⊢
    go_wp2
    go_ret3
    rw [HV.out]; exact ⟨none, 0, rfl, RdI.nil_, HB2.out⟩

set_option maxHeartbeats 2000000 in
set_option maxRecDepth 100000 in
theorem rshapes_any (A : Option Addr) (n c : Nat) (l : List Int) (d : Int) (w : World) (h : RdI w A n l) (hd : I64 d) : Calls Try.prog 36 #[.agg #[.slice A n c, .int .i64 d]] w (IntsErr (shapesE l d) w) := by
  have hlen := h.len
  go_enter Try.func36, Try.ntmps36
  go_upto_region 1 with fail
  have HA := Lib.hid (h.alloc (.cells #[.slice A n c, .int .i64 d] 24))
  have HB := Lib.hid ((Below.refl _ w).alloc (Nat.le_refl _) (.cells #[.slice A n c, .int .i64 d] 24))
  have HX := Lib.hid (Blk.new w 24 #[.slice A n c, .int .i64 d])
  have HLN := Lib.hid hlen
  clear h hlen
  generalize w.alloc (.cells #[.slice A n c, .int .i64 d] 24) = W at HA HB HX ⊢
  have c0 : W.cell? ⟨w.heap.size, 0, none⟩ = some (.slice A n c) := by rw [HX.out.cell]; rfl
  have c1 : W.cell? ⟨w.heap.size, 1, none⟩ = some (.int .i64 d) := by rw [HX.out.cell]; rfl
  go_wp2_with fail
  refine (rshaped_any A n c l d W HA.out hd).mono ?_; rintro e w2 ⟨rfl, hb⟩
  have HA2 := Lib.hid (HA.out.below hb)
  have HX2 := Lib.hid (HX.out.below hb)
  have HB2 := Lib.hid (HB.out.trans (hb.mono HB.out.size))
  have c02 : w2.cell? ⟨w.heap.size, 0, none⟩ = some (.slice A n c) := by rw [HX2.out.cell]; rfl
  have c12 : w2.cell? ⟨w.heap.size, 1, none⟩ = some (.int .i64 d) := by rw [HX2.out.cell]; rfl
  clear hb HX c0 c1
  by_cases hz : shapedC l d = 0
  · have hd0 := shaped_pos hz
    have hk := chkS_ok hd0.1
    obtain ⟨d, rfl⟩ : ∃ d' : Nat, d = d' := ⟨d.toNat, by omega⟩
    have hd1 : 1 ≤ d := by omega
    have hd6 : d ≤ 6 := by omega
    have hn1 : 1 ≤ n := by have := HLN.out; omega
    have hn6 : n ≤ 6 := by have := HLN.out; omega
    have HOK := Lib.hid hk.2.2.1
    have hcp := count_pos hd1 hd6
    obtain ⟨m, hm⟩ : ∃ m : Nat, countR d = m := ⟨(countR d).toNat, by omega⟩
    have hm203 : m ≤ 203 := by omega
    have HV : Hid (shapesE l d = (shapesTo l d m, 0)) := Lib.hid (by unfold shapesE; rw [if_neg (by omega), Int.toNat_natCast, hm, Int.toNat_natCast])
    have HM := Lib.hid hm
    rw [hz]
    clear hz hd0 hk hcp hm
    have hxl := HX2.out.lt
    go_wp2_with fail
    refine (all_any d w2 hd1 hd6).mono ?_; rintro e w3 ⟨Al, cl, rfl, hol, hb3⟩
    rw [HM.out, Int.toNat_natCast] at hol ⊢
    have HL3 := Lib.hid hol.rd
    have HA3 := Lib.hid (HA2.out.below hb3)
    have HB3 := Lib.hid (HB2.out.trans (hb3.mono HB2.out.size))
    have hxl3 : w.heap.size < w3.heap.size := by have := hb3.size; omega
    have c0 := (hb3.cell (p := ⟨w.heap.size, 0, none⟩) hxl).trans c02
    have c1 := (hb3.cell (p := ⟨w.heap.size, 1, none⟩) hxl).trans c12
    clear hol hb3 HA2 HX2 HB2 c02 c12
    go_wp2_with fail
    go_loopw [5, 7] (fun s i wr => ∃ (k : Nat) (Ab : Option Addr) (cb : Nat), k ≤ m ∧ i = .int .i64 k ∧ s = .slice Ab k cb ∧ OwnI wr w3.heap.size 3 Ab k cb (shapesTo l d k) ∧ Below w3.heap.size w3 wr) (fun _ i _ => m - (intOf i).toNat)
    case atStart => exact ⟨0, none, 0, by omega, rfl, rfl, OwnI.nil_ _ _ _, Below.refl _ _⟩
    case round =>
      obtain ⟨k, Ab, cb, hk, rfl, rfl, hown, hbel⟩ := hrel
      have HO := Lib.hid hown
      have HBE := Lib.hid hbel
      have HLR := Lib.hid (HL3.out.below hbel)
      have HAR := Lib.hid (HA3.out.below hbel)
      have k0 := (hbel.cell (p := ⟨w.heap.size, 0, none⟩) hxl3).trans c0
      have k1 := (hbel.cell (p := ⟨w.heap.size, 1, none⟩) hxl3).trans c1
      have hszr := hbel.size
      clear hown hbel
      by_cases hlt : k < m
      · obtain ⟨ad, B9, m9, d9, p9, rfl, hadl, hv, hr9, hcell⟩ := HLR.out.at_ hlt
        obtain ⟨_, rfl⟩ := prs_get hv.out
        obtain rfl : m9 = d := by have := hr9.len; rw [pr_len] at this; exact this.symm
        have HR9 := Lib.hid hr9
        have hadl2 : (ad.add k).block < wr.heap.size := by rw [block_of_add]; exact hadl
        have hx2 : w.heap.size < wr.heap.size := by omega
        have HBS : Hid (shapesTo l m9 (k + 1) = shapesTo l m9 k ++ [waysOf l (pr m9 k)]) := Lib.hid (shapesTo_succ l m9 k)
        have HPC : Hid (∀ W', RdI W' A n l → RdI W' B9 m9 (pr m9 k) → Calls Try.prog 87 #[.agg #[.slice A n c, .int .i64 m9], .slice B9 m9 d9] W' (NumM (waysOf l (pr m9 k)) W')) := Lib.hid (fun W' h1 h2 => partitioned_any A B9 n c m9 d9 l (pr m9 k) m9 W' h1 h2 (pr_chk hd1 (by omega) k) hn6 hn1 HOK.out)
        have hx64 : I64 (waysOf l (pr m9 k)) := by
          have := waysOf_bd (c := l) (p := pr m9 k) (by rw [HLN.out]; exact hn6) HOK.out (pr_chk hd1 (by omega) k)
          unfold I64; omega
        generalize waysOf l (pr m9 k) = x at HBS HPC hx64
        generalize pr m9 k = p at HPC HR9
        clear hr9 hv
        have hk2 : k + 1 ≤ 1000000 := by omega
        have hkI : (k : Int) < m := by omega
        go_upto_region 9 with fail
        go_region_held3 (fun w' => (w'.cell? ⟨w.heap.size, 0, none⟩ = some (.slice A n c) ∧ w'.cell? ⟨w.heap.size, 1, none⟩ = some (.int .i64 m9)) ∧ w'.cell? (ad.add k) = some (.slice B9 m9 d9)) (first | exact ⟨⟨k0, k1⟩, hcell⟩ | exact ⟨⟨(hcl.cell (p := ⟨w.heap.size, 0, none⟩) hx2).trans k0, (hcl.cell (p := ⟨w.heap.size, 1, none⟩) hx2).trans k1⟩, (hcl.cell hadl2).trans hcell⟩ | exact ⟨⟨(hcl3.cell (p := ⟨w.heap.size, 0, none⟩) hx2).trans k0, (hcl3.cell (p := ⟨w.heap.size, 1, none⟩) hx2).trans k1⟩, (hcl3.cell hadl2).trans hcell⟩ | exact ⟨⟨(hcl4.cell (p := ⟨w.heap.size, 0, none⟩) hx3).trans k0, (hcl4.cell (p := ⟨w.heap.size, 1, none⟩) hx3).trans k1⟩, (hcl4.cell hadl4).trans hcell⟩) (first
          | (go_at_call 87; refine (HPC.out wr.drew HAR.out.drew HR9.out.drew).mono ?_; rintro e wc ⟨rfl, hcl⟩; have hcl2 : Below wr.heap.size wr wc := ((Below.refl _ wr).drew.trans hcl); have HOC := Lib.hid (HO.out.below hcl2); have hszc : w3.heap.size ≤ wc.heap.size := Nat.le_trans hszr hcl2.size; have hcl3 : Below wr.heap.size wr (wc.alloc (.cells #[.int .i64 x] 3)) := hcl2.alloc hcl2.size _)
          | (refine step_appI1 wc (by rfl) (.tmp 22) (.tmp 29) (by rfl) (v := x) _ (by rfl) (by rfl) HOC.out hx64 hk2 hszc ?_; intro A' c' w9 hown hgrow hbel; have hcl4 : Below w3.heap.size wr w9 := (hcl2.mono hszr).trans hbel; have hx3 : w.heap.size < w3.heap.size := hxl3; have hadl4 : (ad.add k).block < w3.heap.size := (by obtain ⟨ad', _, _, _, _, e, hb, _⟩ := HL3.out.at_ hlt; injection e with e; subst e; rw [block_of_add]; exact hb)))
        have HBW := Lib.hid (HBE.out.trans ((hcl2.mono hszr).trans hbel))
        have HON := Lib.hid hown
        clear hcl hcl2 hcl3 hcl4 hgrow hbel hown hcell k0 k1 HR9 HBE HLR HAR HOC HO
        go_wp2
        go_roundw
        case rel => exact ⟨k + 1, A', c', by omega, by go_num, rfl, by rw [HBS.out]; exact HON.out, HBW.out⟩
        case measure => simp [intOf]; omega
      · obtain rfl : k = m := by omega
        have HBF := Lib.hid (HB3.out.trans (HBE.out.mono HB3.out.size))
        have HOF := Lib.hid (HO.out.mono HB3.out.size)
        have HSL : Hid ((shapesTo l d k).length = k) := Lib.hid (by simp [shapesTo])
        go_wp2
        go_ret2
        rw [HV.out]
        exact ⟨Ab, cb, by simp only [HSL.out]; rfl, by simp only [HSL.out]; exact HOF.out, HBF.out⟩
  · have HV : Hid (shapesE l d = ([], shapedC l d)) := Lib.hid (by unfold shapesE; rw [if_pos hz])
    have g : (shapedC l d != 0) = true := by simpa using hz
    clear hz
    generalize shapedC l d = z at g HV ⊢
    go_wp2
    go_ret2
    rw [HV.out]; exact ⟨none, 0, rfl, OwnI.nil_ _ _ _, HB2.out⟩

/-! ### Chance, of both sides -/
theorem chanceE_1 {c : List Int} {d : Int} {p : List Int} (h : chkS c d ≠ 0) : chanceE c d p = (0, chkS c d) := by unfold chanceE; rw [if_pos h]
theorem chanceE_2 {c : List Int} {d : Int} {p : List Int} (h : chkS c d = 0) (h2 : chk p ≠ 0) : chanceE c d p = (0, chk p) := by unfold chanceE; rw [if_neg (by omega), if_pos h2]
theorem chanceE_3 {c : List Int} {d : Int} {p : List Int} (h : chkS c d = 0) (h2 : chk p = 0) (h3 : (p.length : Int) ≠ d) : chanceE c d p = (0, 3) := by unfold chanceE; rw [if_neg (by omega), if_neg (by omega), if_pos h3]
theorem chanceE_4 {c : List Int} {d : Int} {p : List Int} (h : chkS c d = 0) (h2 : chk p = 0) (h3 : (p.length : Int) = d) : chanceE c d p = (waysOf c p, 0) := by unfold chanceE; rw [if_neg (by omega), if_neg (by omega), if_neg (by omega)]

set_option maxHeartbeats 1000000 in
set_option maxRecDepth 100000 in
theorem rchanceE_any (A B : Option Addr) (n c m cb : Nat) (l p : List Int) (d : Int) (w : World) (h : RdI w A n l) (h2 : RdI w B m p) (hd : I64 d) :
    Calls Try.prog 31 #[.agg #[.slice A n c, .int .i64 d], .slice B m cb] w (Num2M (chanceE l d p) w) := by
  have hlen := h.len
  have hplen := h2.len
  go_enter Try.func31, Try.ntmps31
  go_upto_region 1 with fail
  have HA := Lib.hid (h.alloc (.cells #[.slice A n c, .int .i64 d] 24))
  have HP := Lib.hid (h2.alloc (.cells #[.slice A n c, .int .i64 d] 24))
  have HB := Lib.hid ((Below.refl _ w).alloc (Nat.le_refl _) (.cells #[.slice A n c, .int .i64 d] 24))
  have HX := Lib.hid (Blk.new w 24 #[.slice A n c, .int .i64 d])
  have HLN := Lib.hid hlen
  have HPL := Lib.hid hplen
  clear h h2 hlen hplen
  generalize w.alloc (.cells #[.slice A n c, .int .i64 d] 24) = W at HA HB HX HP ⊢
  have c0 : W.cell? ⟨w.heap.size, 0, none⟩ = some (.slice A n c) := by rw [HX.out.cell]; rfl
  have c1 : W.cell? ⟨w.heap.size, 1, none⟩ = some (.int .i64 d) := by rw [HX.out.cell]; rfl
  go_wp2_with fail
  refine (rcheckS_any A n c l d W HA.out hd).mono ?_; rintro e w2 ⟨rfl, hb⟩
  have HA2 := Lib.hid (HA.out.below hb)
  have HP2 := Lib.hid (HP.out.below hb)
  have HX2 := Lib.hid (HX.out.below hb)
  have HB2 := Lib.hid (HB.out.trans (hb.mono HB.out.size))
  have c02 : w2.cell? ⟨w.heap.size, 0, none⟩ = some (.slice A n c) := by rw [HX2.out.cell]; rfl
  have c12 : w2.cell? ⟨w.heap.size, 1, none⟩ = some (.int .i64 d) := by rw [HX2.out.cell]; rfl
  clear hb HX c0 c1 HX2 HA HP HB
  by_cases hz : chkS l d = 0
  · have HZ := Lib.hid hz
    have hk := chkS_ok hz
    have HC := Lib.hid (refCheck_any B m cb p w2 HP2.out)
    rw [hz]
    clear hz
    by_cases hp : chk p = 0
    · have HPK := Lib.hid hp
      rw [hp] at HC
      clear hp
      by_cases hmd : (m : Int) = d
      · have HV := Lib.hid (chanceE_4 HZ.out HPK.out (by rw [HPL.out]; exact hmd))
        have HQ := Lib.hid (partitioned_any A B n c m cb l p d w2 HA2.out HP2.out HPK.out (by have := HLN.out; omega) (by have := HLN.out; omega) hk.2.2.1)
        have gm : ((m : Int) != d) = false := by simp; omega
        clear hk hmd
        generalize waysOf l p = x at HV HQ
        go_wp2_with fail
        refine HC.out.mono ?_; rintro e w' ⟨rfl, rfl⟩
        go_wp2_with fail
        refine HQ.out.mono ?_; rintro e w3 ⟨rfl, hb3⟩
        have HB3 := Lib.hid (HB2.out.trans (hb3.mono HB2.out.size))
        clear hb3
        go_wp2
        go_ret2
        rw [HV.out]; exact ⟨rfl, HB3.out⟩
      · have HV := Lib.hid (chanceE_3 HZ.out HPK.out (by rw [HPL.out]; exact hmd))
        have gm : ((m : Int) != d) = true := by simp; omega
        clear hk hmd
        go_wp2_with fail
        refine HC.out.mono ?_; rintro e w' ⟨rfl, rfl⟩
        go_wp2
        go_ret2
        rw [HV.out]; exact ⟨rfl, HB2.out⟩
    · have HV := Lib.hid (chanceE_2 HZ.out hp)
      have g : (chk p != 0) = true := by simpa using hp
      clear hp hk
      generalize chk p = z at HC g HV
      go_wp2_with fail
      refine HC.out.mono ?_; rintro e w' ⟨rfl, rfl⟩
      go_wp2
      go_ret2
      rw [HV.out]; exact ⟨rfl, HB2.out⟩
  · have HV := Lib.hid (chanceE_1 (p := p) hz)
    have g : (chkS l d != 0) = true := by simpa using hz
    clear hz
    generalize chkS l d = z at g HV ⊢
    go_wp2
    go_ret2
    rw [HV.out]; exact ⟨rfl, HB2.out⟩

set_option maxHeartbeats 1000000 in
set_option maxRecDepth 100000 in
theorem chancePE_any (A B : Option Addr) (n c m cb : Nat) (l p : List Int) (d : Int) (w : World) (h : RdI w A n l) (h2 : RdI w B m p) (hd : I64 d) :
    Calls Try.prog 30 #[.agg #[.slice A n c, .int .i64 d], .slice B m cb] w (Num2M (chanceE l d p) w) := by
  have hlen := h.len
  have hplen := h2.len
  go_enter Try.func30, Try.ntmps30
  go_upto_region 1 with fail
  have HA := Lib.hid (h.alloc (.cells #[.slice A n c, .int .i64 d] 24))
  have HP := Lib.hid (h2.alloc (.cells #[.slice A n c, .int .i64 d] 24))
  have HB := Lib.hid ((Below.refl _ w).alloc (Nat.le_refl _) (.cells #[.slice A n c, .int .i64 d] 24))
  have HX := Lib.hid (Blk.new w 24 #[.slice A n c, .int .i64 d])
  have HLN := Lib.hid hlen
  have HPL := Lib.hid hplen
  clear h h2 hlen hplen
  generalize w.alloc (.cells #[.slice A n c, .int .i64 d] 24) = W at HA HB HX HP ⊢
  have c0 : W.cell? ⟨w.heap.size, 0, none⟩ = some (.slice A n c) := by rw [HX.out.cell]; rfl
  have c1 : W.cell? ⟨w.heap.size, 1, none⟩ = some (.int .i64 d) := by rw [HX.out.cell]; rfl
  go_wp2_with fail
  refine (checkS_any A n c l d W HA.out hd).mono ?_; rintro e w2 ⟨rfl, hb⟩
  have HA2 := Lib.hid (HA.out.below hb)
  have HP2 := Lib.hid (HP.out.below hb)
  have HX2 := Lib.hid (HX.out.below hb)
  have HB2 := Lib.hid (HB.out.trans (hb.mono HB.out.size))
  have c02 : w2.cell? ⟨w.heap.size, 0, none⟩ = some (.slice A n c) := by rw [HX2.out.cell]; rfl
  have c12 : w2.cell? ⟨w.heap.size, 1, none⟩ = some (.int .i64 d) := by rw [HX2.out.cell]; rfl
  clear hb HX c0 c1 HX2 HA HP HB
  by_cases hz : chkS l d = 0
  · have HZ := Lib.hid hz
    have hk := chkS_ok hz
    have HC := Lib.hid (check_any B m cb p w2 HP2.out)
    rw [hz]
    clear hz
    by_cases hp : chk p = 0
    · have HPK := Lib.hid hp
      rw [hp] at HC
      clear hp
      by_cases hmd : (m : Int) = d
      · have HV := Lib.hid (chanceE_4 HZ.out HPK.out (by rw [HPL.out]; exact hmd))
        have gm : ((m : Int) != d) = false := by simp; omega
        have hn6 : n ≤ 6 := by have := HLN.out; omega
        have hn1 : 1 ≤ n := by have := HLN.out; omega
        have HK6 := Lib.hid (pad6_kinds (c := l) (by rw [HLN.out]; exact hn6) hk.2.2.1)
        have HP6 := Lib.hid (pad6_len (c := l) (by rw [HLN.out]; exact hn6))
        clear hk hmd
        go_wp2_with fail
        refine HC.out.mono ?_; rintro e w' ⟨rfl, rfl⟩
        go_wp2_with fail
        refine (leftOf_any A n c l w2 HA2.out hn6 hn1).mono ?_; rintro e w3 ⟨rfl, hb3⟩
        have HP3 := Lib.hid (HP2.out.below hb3)
        have HB3 := Lib.hid (HB2.out.trans (hb3.mono HB2.out.size))
        clear hb3
        have HQ := Lib.hid (chance_any B m cb p (pad6 l) w3 HP3.out HPK.out HP6.out HK6.out)
        rw [show chanceP (sizesOf p) (pad6 l) = waysOf l p from rfl] at HQ
        generalize waysOf l p = x at HV HQ
        go_wp2_with fail
        refine HQ.out.mono ?_; rintro e w4 ⟨rfl, hb4⟩
        have HB4 := Lib.hid (HB3.out.trans (hb4.mono HB3.out.size))
        clear hb4
        go_wp2
        go_ret2
        rw [HV.out]; exact ⟨rfl, HB4.out⟩
      · have HV := Lib.hid (chanceE_3 HZ.out HPK.out (by rw [HPL.out]; exact hmd))
        have gm : ((m : Int) != d) = true := by simp; omega
        clear hk hmd
        go_wp2_with fail
        refine HC.out.mono ?_; rintro e w' ⟨rfl, rfl⟩
        go_wp2
        go_ret2
        rw [HV.out]; exact ⟨rfl, HB2.out⟩
    · have HV := Lib.hid (chanceE_2 HZ.out hp)
      have g : (chk p != 0) = true := by simpa using hp
      clear hp hk
      generalize chk p = z at HC g HV
      go_wp2_with fail
      refine HC.out.mono ?_; rintro e w' ⟨rfl, rfl⟩
      go_wp2
      go_ret2
      rw [HV.out]; exact ⟨rfl, HB2.out⟩
  · have HV := Lib.hid (chanceE_1 (p := p) hz)
    have g : (chkS l d != 0) = true := by simpa using hz
    clear hz
    generalize chkS l d = z at g HV ⊢
    go_wp2
    go_ret2
    rw [HV.out]; exact ⟨rfl, HB2.out⟩
end Go.Proofs.Ytcmacejpoihhlaa

namespace Go.Proofs.Ytcmacejpoihhlaa
open Go.RowKit

/-- a copy, nil of nil -/
def Cloned (n : Nat) (l : List Int) (w : World) (e : Ending) (w' : World) : Prop := ∃ B d, e = .returned (.slice B n d) ∧ OwnI w' w.heap.size 3 B n d l ∧ Below w.heap.size w w' ∧ (n = 0 ∨ ∃ g, B = some ⟨g, 0, none⟩)
set_option maxHeartbeats 400000 in
theorem clone2_any (A : Option Addr) (n c : Nat) (l : List Int) (w : World) (h : RdI w A n l) (hn : n ≤ 1000) : Calls Try.prog 99 #[.slice A n c] w (Cloned n l w) := by
  cases A with
  | some a =>
    have hl := h.len
    refine (clone_any (some a) n c l w h hn rfl).mono ?_
    rintro e w' ⟨B, d, rfl, ho, hb⟩
    rw [hl] at ho ⊢
    refine ⟨B, d, rfl, ho, hb, ?_⟩
    rcases Nat.eq_zero_or_pos n with h0 | h0
    · exact .inl h0
    · obtain ⟨g, e, _, _⟩ := ho.form h0
      exact .inr ⟨g, e⟩
  | none =>
    have hn0 : n = 0 := by
      rcases Nat.eq_zero_or_pos n with h0 | h0
      · exact h0
      · obtain ⟨ad, e, _⟩ := h.1.2.2 h0; cases e
    subst hn0
    have hl : l = [] := List.eq_nil_of_length_eq_zero (by have := h.len; omega)
    subst hl
    have q : ∀ (w : World) (a : Option Addr) (n c n' c' : Nat), (binOp .eql 22 (.slice a n c) (.slice none n' c')).run Try.prog w = .ok (.bool a.isNone) w := fun w a n c n' c' => Lib.run_eql_slice_nil w _ _ a n c n' c' Try.underlying22
    go_enter Try.func99, Try.ntmps99
    go_wp2
    go_ret
    exact ⟨none, 0, rfl, OwnI.nil_ _ _ _, Below.refl _ _, .inl rfl⟩

def faV (b3 b5 b6 b7 b12 : Nat) : Value := .func (.func 98) #[] #[.pointer (some ⟨b3, 0, none⟩), .pointer (some ⟨b5, 0, none⟩), .pointer (some ⟨b6, 0, none⟩), .pointer (some ⟨b7, 0, none⟩), .pointer (some ⟨b12, 0, none⟩)]
/-- the boxes of Fairest: limits, draw, counts, ways, try; what they hold -/
structure FaS (b3 b5 b6 b7 b12 base : Nat) (A : Option Addr) (n c : Nat) (l : List Int) (d : Nat) (s : List Int × Int) (W : World) : Prop where
  x3 : Blk W b3 22 #[.slice A n c]
  x5 : Blk W b5 3 #[.int .i64 d]
  x6 : ∃ (Ac : Option Addr) (cc : Nat), Blk W b6 22 #[.slice Ac s.1.length cc] ∧ OwnI W base 3 Ac s.1.length cc s.1 ∧ (Ac = none ↔ s.1 = [])
  x7 : Blk W b7 3 #[.int .i64 s.2]
  x12 : Blk W b12 104 #[faV b3 b5 b6 b7 b12]
  rd : RdI W A n l
  ne : ∀ b, A.map (·.block) = some b → b ≠ b6 ∧ b ≠ b7
  lt : b3 < base ∧ b5 < base ∧ b6 < base ∧ b7 < base ∧ b12 < base ∧ base ≤ W.heap.size
  df : b3 ≠ b6 ∧ b3 ≠ b7 ∧ b5 ≠ b6 ∧ b5 ≠ b7 ∧ b6 ≠ b7 ∧ b12 ≠ b6 ∧ b12 ≠ b7
/-- all but the boxes of counts and ways is as it was -/
structure FaK (b6 b7 : Nat) (W W' : World) : Prop where
  os : W'.os = W.os
  tape : W'.tape = W.tape
  output : W'.output = W.output
  size : W.heap.size ≤ W'.heap.size
  block : ∀ k, k < W.heap.size → k ≠ b6 → k ≠ b7 → W'.heap[k]? = W.heap[k]?
theorem FaK.refl (b6 b7 : Nat) (W : World) : FaK b6 b7 W W := ⟨rfl, rfl, rfl, Nat.le_refl _, fun _ _ _ _ => rfl⟩
theorem FaK.trans {b6 b7 : Nat} {a b c : World} (h : FaK b6 b7 a b) (k : FaK b6 b7 b c) : FaK b6 b7 a c :=
  ⟨k.os.trans h.os, k.tape.trans h.tape, k.output.trans h.output, Nat.le_trans h.size k.size, fun i hi h1 h2 => (k.block i (Nat.lt_of_lt_of_le hi h.size) h1 h2).trans (h.block i hi h1 h2)⟩
theorem FaK.of_below {b6 b7 : Nat} {a b : World} (h : Below a.heap.size a b) : FaK b6 b7 a b := ⟨h.os, h.tape, h.output, h.size, fun k hk _ _ => h.block k hk⟩
theorem FaK.rd {b6 b7 : Nat} {W W' : World} {N : Option Addr} {k : Nat} {l : List Int} (h : FaK b6 b7 W W') (hr : RdI W N k l) (hn : ∀ b, N.map (·.block) = some b → b ≠ b6 ∧ b ≠ b7) : RdI W' N k l :=
  ⟨hr.1.keep h.size (fun p hp hA => World.cell?_of_block (h.block p.block hp (hn _ hA).1 (hn _ hA).2)), hr.2⟩
theorem FaS.below {b3 b5 b6 b7 b12 base : Nat} {A : Option Addr} {n c : Nat} {l : List Int} {d : Nat} {s : List Int × Int} {W W' : World} (h : FaS b3 b5 b6 b7 b12 base A n c l d s W) (hb : Below W.heap.size W W') : FaS b3 b5 b6 b7 b12 base A n c l d s W' := by
  obtain ⟨Ac, cc, h1, h2, h3⟩ := h.x6
  exact ⟨h.x3.below hb, h.x5.below hb, ⟨Ac, cc, h1.below hb, h2.below hb, h3⟩, h.x7.below hb, h.x12.below hb, h.rd.below hb, h.ne, by have := h.lt; have := hb.size; omega, h.df⟩
theorem FaS.put {b3 b5 b6 b7 b12 base : Nat} {A : Option Addr} {n c : Nat} {l : List Int} {d : Nat} {s : List Int × Int} {W : World} (h : FaS b3 b5 b6 b7 b12 base A n c l d s W) {g k cc : Nat} {now : List Int} {x : Int} (ho : OwnI W base 3 (some ⟨g, 0, none⟩) k cc now) (hk : 0 < k) :
    FaS b3 b5 b6 b7 b12 base A n c l d (now, x) ((W.setCell ⟨b6, 0, none⟩ (.slice (some ⟨g, 0, none⟩) k cc)).setCell ⟨b7, 0, none⟩ (.int .i64 x)) := by
  obtain ⟨Ac, cc', h1, h2, h3⟩ := h.x6
  obtain ⟨d1, d2, d3, d4, d5, d6, d7⟩ := h.df
  have hlt := h.lt
  have hg := (ho.1.block (k := g) rfl).1
  have hkl := ho.len
  refine ⟨(h.x3.far (p := ⟨b6, 0, none⟩) d1 _).far (p := ⟨b7, 0, none⟩) d2 _, (h.x5.far (p := ⟨b6, 0, none⟩) d3 _).far (p := ⟨b7, 0, none⟩) d4 _, ⟨some ⟨g, 0, none⟩, cc, ?_, ?_, ?_⟩,
    (h.x7.far (p := ⟨b6, 0, none⟩) (fun e => d5 e.symm) _).set_ 0 _, (h.x12.far (p := ⟨b6, 0, none⟩) d6 _).far (p := ⟨b7, 0, none⟩) d7 _,
    (h.rd.setCell (p := ⟨b6, 0, none⟩) (fun e => (h.ne _ e).1 rfl) _).setCell (p := ⟨b7, 0, none⟩) (fun e => (h.ne _ e).2 rfl) _, h.ne, by simp [World.setCell]; omega, h.df⟩
  · show Blk _ b6 _ #[.slice (some ⟨g, 0, none⟩) now.length cc]
    rw [hkl]
    exact (h1.set_ 0 _).far (p := ⟨b7, 0, none⟩) d5 _
  · show OwnI _ base _ _ now.length cc now
    rw [hkl]
    exact (ho.far (p := ⟨b6, 0, none⟩) (fun e => by have h9 : g = b6 := (by injection e); omega) _).far (p := ⟨b7, 0, none⟩) (fun e => by have h9 : g = b7 := (by injection e); omega) _
  · refine ⟨(fun e => by cases e), fun e => ?_⟩
    have h9 : now = [] := e
    rw [h9] at hkl; simp at hkl; omega
theorem FaK.put {b6 b7 : Nat} {W W' : World} (h : FaK b6 b7 W W') (u v : Value) : FaK b6 b7 W ((W'.setCell ⟨b6, 0, none⟩ u).setCell ⟨b7, 0, none⟩ v) :=
  ⟨h.os, h.tape, h.output, by simp [World.setCell]; exact h.size, fun k hk h1 h2 => (Below.heap_setCell _ _ _ _ (by simpa using h2)).trans ((Below.heap_setCell _ _ _ _ (by simpa using h1)).trans (h.block k hk h1 h2))⟩

/-- 'append(s, x...)', both of numbers, in a region that draws its order. -/
theorem step_appI (w : World) {ops : Array Oper} {o : Oper} {a : Act} {K : Act → World → Prop} {Q : Exit → Act → World → Prop} {E : Prop} (hgd : o.guard = none) (s x : Operand)
    (ho : o.op = .call { callee := .builtin .append, args := #[s, x], argTypes := #[22, 22] })
    {base n c m d : Nat} {A B : Option Addr} {l r : List Int} (hs : a.eval s = .slice A n c) (hx : a.eval x = .slice B m d) (hown : OwnI w base 3 A n c l) (hr : RdI w B m r) (hnm : n + m ≤ 1000000) (hbase : base ≤ w.heap.size)
    (h : ∀ A' c' w', Apped w w' base A A' (n + m) c' (l ++ r) → K (a.put o.dst (.slice A' (n + m) c')) w') :
    if Region.wanted o (yielded ops a.tmps) = true then Oper.wp Try.prog o a w K Q else E := by
  obtain ⟨i0, hi0, hz0, hz1, hz2⟩ := info_parts intInfo
  refine step_app w hgd s x 22 ho base 3 i0 _ 8 Try.underlying22 hi0 hz0 hz1 hz2 rfl (by decide) A n c (ints l) hs hown.1 B m d (ints r) hx hr.1 (ints_oneCell' _) hnm hbase ?_
  intro A' c' w' h1 h2 h3
  refine h A' c' w' ⟨⟨by rw [ints_append]; exact h1, ?_⟩, h2, (fun k hk => by rcases h3 with e | e <;> rw [e] at hk; exact .inl hk; simp at hk; exact .inr (by omega)), below_app hown.1 h2 hbase⟩
  intro v hv
  rcases List.mem_append.1 hv with hv | hv
  · exact hown.2 v hv
  · exact hr.2 v hv

set_option maxHeartbeats 2000000 in
set_option maxRecDepth 100000 in
theorem fairRec_any (b3 b5 b6 b7 b12 base : Nat) (A : Option Addr) (n c : Nat) (l : List Int) (d : Nat) (all : Int) (hl : ∀ x ∈ l, 1 ≤ x ∧ x ≤ 9) (hn1 : 1 ≤ n) (hn6 : n ≤ 6) (hd1 : 1 ≤ d) (hd6 : d ≤ 6) (hda : (d : Int) ≤ all) (ha12 : all ≤ 12) :
    ∀ (ls now : List Int) (rest : Int) (s : List Int × Int) (N : Option Addr) (k c' : Nat) (W : World), l.drop now.length = ls → FaS b3 b5 b6 b7 b12 base A n c l d s W → RdI W N k now → (∀ b, N.map (·.block) = some b → base ≤ b) → Now l now rest all →
    Calls Try.prog 98 #[.slice N k c', .int .i64 rest, .pointer (some ⟨b3, 0, none⟩), .pointer (some ⟨b5, 0, none⟩), .pointer (some ⟨b6, 0, none⟩), .pointer (some ⟨b7, 0, none⟩), .pointer (some ⟨b12, 0, none⟩)] W
      fun e W' => e = .returned (.tuple #[]) ∧ FaS b3 b5 b6 b7 b12 base A n c l d (tryF d ls now rest s) W' ∧ FaK b6 b7 W W' := by
  intro ls
  induction ls with
  | nil =>
    intro now rest s N k c' W hdr hfs hrn hN hnow
    have hln := hfs.rd.len
    have hkl := hrn.len
    have hkn : k = n := by
      have h1 := hnow.len
      have h2 : l.length ≤ now.length := by rw [← List.drop_eq_nil_iff]; exact hdr
      omega
    subst hkn
    have HFS := Lib.hid hfs
    have HRN := Lib.hid hrn
    have HNW := Lib.hid hnow
    have c3 : W.cell? ⟨b3, 0, none⟩ = some (.slice A k c) := by rw [hfs.x3.cell]; rfl
    have c5 : W.cell? ⟨b5, 0, none⟩ = some (.int .i64 d) := by rw [hfs.x5.cell]; rfl
    have HLK := Lib.hid hkl
    have HLL := Lib.hid hln
    have hr0 := hnow.nn
    clear hfs hrn hnow hdr hkl hln
    by_cases hrest : 0 < rest
    · have HV : Hid (tryF d [] now rest s = s) := Lib.hid (by unfold tryF; rw [if_pos hrest])
      go_enter Try.func98, Try.ntmps98
      go_wp2
      refine bodyPost_ret (results_none rfl _ _ _) rfl ?_
      exact ⟨rfl, by rw [HV.out]; exact HFS.out, FaK.refl _ _ _⟩
    · have hrest0 : rest = 0 := by omega
      subst hrest0
      have HV : Hid (tryF d [] now 0 s = fairStep d s now) := Lib.hid (by unfold tryF; rw [if_neg (by omega)])
      have HZ := Lib.hid (HNW.out.shaped (by rw [HLK.out]; exact hn1) (by rw [HLL.out]; exact hn6) hd1 hd6 hda)
      have q : ∀ (w : World) (a : Option Addr) (n c n' c' : Nat), (binOp .eql 22 (.slice a n c) (.slice none n' c')).run Try.prog w = .ok (.bool a.isNone) w := fun w a n c n' c' => Lib.run_eql_slice_nil w _ _ a n c n' c' Try.underlying22
      clear hrest
      go_enter Try.func98, Try.ntmps98
      go_wp2_with fail
      refine (guessD_any N k c' now d W HRN.out HZ.out).mono ?_; rintro e w2 ⟨A2, c2, rfl, _, hb2⟩
      have HFS2 := Lib.hid (HFS.out.below hb2)
      have HRN2 := Lib.hid (HRN.out.below hb2)
      have HK2 := Lib.hid (FaK.of_below (b6 := b6) (b7 := b7) hb2)
      rw [show (bestTo now d (countR d).toNat).2 = mostW now d from rfl]
      obtain ⟨x, hx⟩ : ∃ x, mostW now d = x := ⟨_, rfl⟩
      rw [hx]
      have HX := Lib.hid hx
      obtain ⟨Ac, cc, x6, o6, n6⟩ := HFS2.out.x6
      have c6 : w2.cell? ⟨b6, 0, none⟩ = some (.slice Ac s.1.length cc) := by rw [x6.cell]; rfl
      have c7 : w2.cell? ⟨b7, 0, none⟩ = some (.int .i64 s.2) := by rw [HFS2.out.x7.cell]; rfl
      have f6 := x6.frozen 0
      have f7 := HFS2.out.x7.frozen 0
      have HN6 := Lib.hid n6
      clear hb2 hx c3 c5 x6 o6 n6
      generalize bestTo now d (countR d).toNat = bb
      obtain ⟨yn, hyn⟩ : ∃ yn, Ac.isNone = yn := ⟨_, rfl⟩
      have HYN := Lib.hid hyn
      by_cases hput : yn = true ∨ x < s.2
      · have HV2 : Hid (fairStep d s now = (now, x)) := Lib.hid (by
          unfold fairStep
          rw [HX.out, if_pos]
          rcases hput with h1 | h1
          · left; refine HN6.out.1 ?_
            have := HYN.out; rw [h1] at this; simpa using this
          · exact .inr h1)
        have hcase : yn = true ∨ (yn = false ∧ x < s.2) := by cases yn <;> simp_all
        have HCL : Hid (∀ W', RdI W' N k now → Calls Try.prog 99 #[.slice N k c'] W' (Cloned k now W')) := Lib.hid (fun W' h => clone2_any N k c' now W' h (by omega))
        clear hput
        rcases hcase with h1 | ⟨h1, h2⟩
        all_goals
          rw [h1] at hyn
          go_wp2_with fail
          refine (HCL.out w2 HRN2.out).mono ?_; rintro e w3 ⟨B, db, rfl, hob, hb3, hBg⟩
          obtain ⟨g, rfl⟩ : ∃ g, B = some ⟨g, 0, none⟩ := by
            rcases hBg with h9 | h9
            · omega
            · exact h9
          have hlt := HFS2.out.lt
          have HFS3 := Lib.hid (HFS2.out.below hb3)
          have HK3 := Lib.hid (HK2.out.trans (FaK.of_below hb3))
          have HOB := Lib.hid (hob.mono hlt.2.2.2.2.2)
          have e6 := (hb3.cell (p := ⟨b6, 0, none⟩) (by show b6 < _; omega)).trans c6
          have e7 := (hb3.cell (p := ⟨b7, 0, none⟩) (by show b7 < _; omega)).trans c7
          have g6 := (hb3.frozen (p := ⟨b6, 0, none⟩) (by show b6 < _; omega)).trans f6
          have g7 := (hb3.frozen (p := ⟨b7, 0, none⟩) (by show b7 < _; omega)).trans f7
          have hne67 : b6 ≠ b7 := HFS2.out.df.2.2.2.2.1
          clear hob hb3 hBg c6 c7 f6 f7 hlt
          go_wp2
          refine bodyPost_ret (results_none rfl _ _ _) rfl ?_
          exact ⟨rfl, by rw [HV.out, HV2.out]; exact HFS3.out.put HOB.out hn1, HK3.out.put _ _⟩
      · have hyf : yn = false := by cases yn <;> simp_all
        have hxs : s.2 ≤ x := by
          by_cases h1 : x < s.2
          · exact absurd (.inr h1) hput
          · omega
        have HV2 : Hid (fairStep d s now = s) := Lib.hid (by
          unfold fairStep
          rw [HX.out, if_neg]
          rintro (h1 | h1)
          · have := HN6.out.2 h1
            have h3 := HYN.out
            rw [this, hyf] at h3; cases h3
          · omega)
        rw [hyf] at hyn
        clear hput hyf
        go_wp2
        refine bodyPost_ret (results_none rfl _ _ _) rfl ?_
        exact ⟨rfl, by rw [HV.out, HV2.out]; exact HFS2.out, HK2.out⟩
  | cons x xs ih =>
    intro now rest s N k c' W hdr hfs hrn hN hnow
    have hln := hfs.rd.len
    have hkl := hrn.len
    have hkn : k < n := by
      by_cases h : now.length < l.length
      · omega
      · rw [List.drop_eq_nil_of_le (by omega)] at hdr; cases hdr
    have hxg : l[k]? = some x := by
      have h1 := congrArg (·[0]?) hdr
      simp at h1
      rw [← hkl]; exact h1
    have hdr2 : l.drop (now.length + 1) = xs := by
      have h1 := congrArg List.tail hdr
      simpa using h1
    obtain ⟨ad, x', rfl, hadl, hxx, _, hxc⟩ := hfs.rd.at_ hkn
    obtain rfl : x' = x := by have := hxx.out; rw [hxg] at this; injection this with this; exact this.symm
    have hx9 := hl _ (List.mem_of_getElem? hxg)
    have hr0 := hnow.nn
    have hr12 : rest ≤ 12 := by
      have h1 := hnow.sum
      have h2 := sumI_nonneg now (fun v hv => by have := hnow.pos v hv; omega)
      omega
    obtain ⟨rn, rfl⟩ : ∃ rn : Nat, rest = rn := ⟨rest.toNat, by omega⟩
    obtain ⟨xn, rfl⟩ : ∃ xn : Nat, x' = xn := ⟨x'.toNat, by omega⟩
    obtain ⟨m, hm⟩ : ∃ m : Nat, (min (rn : Int) xn).toNat = m := ⟨_, rfl⟩
    have hmm : m ≤ rn ∧ m ≤ xn ∧ (m = rn ∨ m = xn) := by omega
    have HTF : Hid (tryF d ((xn : Int) :: xs) now rn s = tryTo d xs now rn s m) := Lib.hid (by rw [tryF_cons, hm])
    have HSTEP : Hid (∀ q : Nat, q < m → Now l (now ++ [(q : Int) + 1]) ((rn : Int) - ((q : Int) + 1)) all) := Lib.hid (fun q hq => hnow.step hl (by omega) (by omega) (by rw [hkl, getD_of_get hxg]; omega))
    have HFS := Lib.hid hfs
    have HRN := Lib.hid hrn
    have HN := Lib.hid (show ∀ b, N.map (·.block) = some b → b ≠ b6 ∧ b ≠ b7 from fun b e => by have h1 := hN b e; have := hfs.lt; omega)
    have HLK := Lib.hid hkl
    have HD2 := Lib.hid hdr2
    have IH := Lib.hid ih
    have hlt := hfs.lt
    have hdf := hfs.df
    have HAD := Lib.hid (hfs.ne ad.block rfl)
    have hkI : (k : Int) < n := by omega
    have gkn : ((k : Int) == n) = false := by simp; omega
    have hxc0 := hxc
    have HL9 := Lib.hid hl
    clear hfs hrn hnow hdr hkl hln hxg hdr2 hxx ih hm hxc hN hl
    have hml : m ≤ 12 := by omega
    go_enter Try.func98, Try.ntmps98
    have c3 : W.cell? ⟨b3, 0, none⟩ = some (.slice (some ad) n c) := by rw [HFS.out.x3.cell]; rfl
    go_wp2_with fail
    go_loopw [11] (fun i wr => ∃ q : Nat, q ≤ m ∧ i = .int .i64 ((q : Int) + 1) ∧ FaS b3 b5 b6 b7 b12 base (some ad) n c l d (tryTo d xs now rn s q) wr ∧ FaK b6 b7 W wr) (fun i _ => m + 1 - (intOf i).toNat)
    case atStart => exact ⟨0, by omega, rfl, HFS.out, FaK.refl _ _ _⟩
    case round =>
      obtain ⟨q, hq, rfl, hfs, hfk⟩ := hrel
      have HFQ := Lib.hid hfs
      have HKQ := Lib.hid hfk
      have HRQ := Lib.hid (hfk.rd HRN.out HN.out)
      have e3 : wr.cell? ⟨b3, 0, none⟩ = some (.slice (some ad) n c) := by rw [hfs.x3.cell]; rfl
      have e12 : wr.cell? ⟨b12, 0, none⟩ = some (faV b3 b5 b6 b7 b12) := by rw [hfs.x12.cell]; rfl
      have ex : wr.cell? (ad.add k) = some (.int .i64 xn) := by
        have h1 := hfk.block (ad.add k).block (by rw [block_of_add]; exact hadl) (by rw [block_of_add]; exact HAD.out.1) (by rw [block_of_add]; exact HAD.out.2)
        exact (World.cell?_of_block h1).trans hxc0
      have hszq := hfs.lt.2.2.2.2.2
      clear hfs hfk c3
      by_cases hqm : q < m
      · have hc1 : (q : Int) + 1 ≤ rn := by omega
        have hc2 : (q : Int) + 1 ≤ xn := by omega
        have hcm : (q : Int) + 1 ≤ min (rn : Int) xn := by omega
        have HCL : Hid (∀ W', RdI W' N k now → Calls Try.prog 99 #[.slice N k c'] W' (Cloned k now W')) := Lib.hid (fun W' h => clone2_any N k c' now W' h (by omega))
        have HE : Hid (∀ Wx, FaS b3 b5 b6 b7 b12 base (some ad) n c l d (tryTo d xs now rn s q) Wx → Wx.cell? ⟨b12, 0, none⟩ = some (.func (.func 98) #[] #[.pointer (some ⟨b3, 0, none⟩), .pointer (some ⟨b5, 0, none⟩), .pointer (some ⟨b6, 0, none⟩), .pointer (some ⟨b7, 0, none⟩), .pointer (some ⟨b12, 0, none⟩)])) := Lib.hid (fun Wx h => by rw [h.x12.cell]; rfl)
        have HI64 : Hid (I64 ((q : Int) + 1)) := Lib.hid (I64.small (by omega))
        have hk7 : k + 1 ≤ 1000000 := by omega
        unfold faV at e12
        have hwr : IntKind.i64.wrap ((rn : Int) - ((q : Int) + 1)) = (rn : Int) - ((q : Int) + 1) := IntWalk.i64_in _ (by omega)
        have HBA := Lib.hid ((Below.refl wr.heap.size wr).alloc (Nat.le_refl _) (.cells #[.int .i64 ((q : Int) + 1)] 3))
        have HBD := Lib.hid ((Below.refl wr.heap.size wr).drew)
        go_upto_region 8 with fail
        go_region_held3 (fun w' => w'.cell? ⟨b12, 0, none⟩ = some (.func (.func 98) #[] #[.pointer (some ⟨b3, 0, none⟩), .pointer (some ⟨b5, 0, none⟩), .pointer (some ⟨b6, 0, none⟩), .pointer (some ⟨b7, 0, none⟩), .pointer (some ⟨b12, 0, none⟩)])) (first | exact e12 | exact HE.out _ (HFQ.out.below HBA.out) | exact HE.out _ ((HFQ.out.below HBA.out).below ((Below.refl _ _).drew)) | exact HE.out _ (HFQ.out.below HB4.out) | exact HE.out _ (HFQ.out.below (HB4.out.alloc HB4.out.size _)) | exact HE.out _ (HFQ.out.below HB5.out) | exact (by rw [hf6.x12.cell]; rfl) | exact e12) (first
          | (go_at_call 99; ((with_reducible refine (HCL.out wr.drew HRQ.out.drew).mono ?_); rintro e w4 ⟨B, db, rfl, hob, hb4, _⟩; have HB4 := Lib.hid (HBD.out.trans hb4); have HOB := Lib.hid hob))
          | (go_at_call 99; ((with_reducible refine (HCL.out (wr.alloc (.cells #[.int .i64 ((q : Int) + 1)] 3)).drew (HRQ.out.alloc _).drew).mono ?_); rintro e w4 ⟨B, db, rfl, hob, hb4, _⟩; have HB4 := Lib.hid (HBA.out.trans ((Below.refl _ _).drew.trans hb4 |>.mono (Nat.le_of_lt (by simp)))); have HV4 := Lib.hid ((RdI.one wr 3 ((q : Int) + 1) HI64.out).drew.below hb4); have HOB := Lib.hid (hob.mono (base' := wr.heap.size) (by simp))))
          | (refine step_appI w4 (by rfl) (.tmp 48) (.tmp 50) (by rfl) (by rfl) (by rfl) HOB.out HV4.out hk7 HB4.out.size ?_; intro A5 c5 w5 kk; have HB5 := Lib.hid (HB4.out.trans kk.below); have HO5 := Lib.hid kk.own)
          | (refine step_appI (w4.alloc (.cells #[.int .i64 ((q : Int) + 1)] 3)) (by rfl) (.tmp 48) (.tmp 50) (by rfl) (by rfl) (by rfl) (HOB.out.alloc _) (RdI.one w4 3 ((q : Int) + 1) HI64.out) hk7 (HB4.out.alloc HB4.out.size _).size ?_; intro A5 c5 w5 kk; have HB5 := Lib.hid ((HB4.out.alloc HB4.out.size (.cells #[.int .i64 ((q : Int) + 1)] 3)).trans kk.below); have HO5 := Lib.hid kk.own)
          | (go_at_call 98; refine (IH.out (now ++ [(q : Int) + 1]) ((rn : Int) - ((q : Int) + 1)) (tryTo d xs now rn s q) A5 (k + 1) c5 w5 (by rw [List.length_append]; exact HD2.out) (HFQ.out.below HB5.out) HO5.out.rd (fun b e => Nat.le_trans hszq (HO5.out.1.block e).1) (HSTEP.out q hqm)).mono ?_; rintro e w6 ⟨rfl, hf6, hk6⟩))
        all_goals
          go_wp2
          go_roundw
          case rel => exact ⟨q + 1, by omega, by push_cast; rfl, (by rw [tryTo_succ]; exact hf6), HKQ.out.trans ((FaK.of_below HB5.out).trans hk6)⟩
          case measure => simp only [intOf]; omega
      · have hqe : q = m := by omega
        subst hqe
        have hcm : ¬((q : Int) + 1 ≤ min (rn : Int) xn) := by omega
        have hcc : (rn : Int) < (q : Int) + 1 ∨ (xn : Int) < (q : Int) + 1 := by omega
        obtain ⟨mm, hmn⟩ : ∃ mm : Int, min (rn : Int) xn = mm := ⟨_, rfl⟩
        have hmm2 : ¬((q : Int) + 1 ≤ mm) := by omega
        clear hcm hcc
        go_wp2
        go_end0
        exact ⟨rfl, by rw [HTF.out]; exact HFQ.out, HKQ.out⟩
end Go.Proofs.Ytcmacejpoihhlaa

namespace Go.Proofs.Ytcmacejpoihhlaa
open Go.RowKit Go.Shelf

set_option maxHeartbeats 400000 in
theorem cellsMk_any (X M : Array Value) (d : Bool) (w : World) : Calls Try.prog 127 #[.agg X, .agg M, .bool d] w fun e w' => e = .returned (.func (.func 139) #[] #[.pointer (some ⟨w.heap.size, 0, none⟩), .pointer (some ⟨w.heap.size + 1 + 1, 0, none⟩), .pointer (some ⟨w.heap.size + 1, 0, none⟩)]) ∧
    w' = ((w.alloc (.cells X 116)).alloc (.cells M 114)).alloc (.cells #[.bool d] 4) := by
  go_enter Try.func127, Try.ntmps127
  go_wp2
  go_ret
  exact ⟨rfl, rfl⟩

set_option maxHeartbeats 2000000 in
set_option maxRecDepth 100000 in
theorem cellsIter_any (lp : Nat) (J : List Int → World → Prop) (b1 b2 b3 n : Nat) (T M : List Int) (d : Bool) (f : Nat → Nat → Int) (W : World) (h12 : n ≤ 12) (hT0 : T[0]? = some (n : Int)) (hM : ∀ a b : Nat, a < n → b < n → M[a * 12 + b]? = some (f a b))
    (hJ : ∀ pre W', J pre W' → Blk W' b1 116 (ints T).toArray ∧ Blk W' b3 114 (ints M).toArray ∧ Blk W' b2 4 #[.bool d]) (h0 : J [] W)
    (hY : ∀ (pre : List Int) (x : Int) W1, J pre W1 → (∃ a b, a < n ∧ b < n ∧ x = f a b) → YieldAt Fence.wide 1 Try.prog lp #[.int .i64 x] W1 fun e W' => e = .returned (.bool true) ∧ J (pre ++ [x]) W') :
    CallsIn Fence.wide 2 Try.prog 139 #[.func (.yield lp) #[] #[], .pointer (some ⟨b1, 0, none⟩), .pointer (some ⟨b2, 0, none⟩), .pointer (some ⟨b3, 0, none⟩)] W fun e W' => (∃ v, e = .returned v) ∧ J (seqF n d f) W' := by
  have HJ := Lib.hid hJ
  have HY := Lib.hid hY
  have H0 := Lib.hid h0
  have HT0 := Lib.hid hT0
  have HM := Lib.hid hM
  clear hJ hY h0 hT0 hM
  refine callsIn_of_wp Try.func139 rfl trivial ?_ rfl
  simp only [Try.ntmps139, List.size_toArray, List.length_cons, List.length_nil, Nat.reduceAdd, Nat.reduceSub, Array.replicate_succ, Array.replicate_zero, List.push_toArray, List.append_toArray, List.nil_append, List.cons_append]
  have HC : Hid (∀ pre W', J pre W' → W'.cell? ⟨b1, 0, none⟩ = some (.int .i64 n) ∧ W'.cell? ⟨b2, 0, none⟩ = some (.bool d) ∧ ∀ a b : Nat, a < n → b < n → W'.cell? ⟨b3, a * 12 + b, none⟩ = some (.int .i64 (f a b))) := Lib.hid (fun pre W' h => by
    obtain ⟨h1, h2, h3⟩ := HJ.out pre W' h
    exact ⟨by rw [h1.cell, ints_arr_get HT0.out], by rw [h3.cell]; rfl, fun a b ha hb => by rw [h2.cell, ints_arr_get (HM.out a b ha hb)]⟩)
  have c0 := (HC.out _ _ H0.out).1
  gi_wp2_with fail
  gi_loopw [9] (fun i wr => ∃ a : Nat, a ≤ n ∧ i = .int .i64 a ∧ J (seqTo n d f a 0) wr) (fun i _ => n - (intOf i).toNat)
  case atStart => exact ⟨0, by omega, rfl, H0.out⟩
  case round =>
    obtain ⟨a, ha, rfl, hj⟩ := hrel
    have HA := Lib.hid hj
    clear hj
    by_cases han : a < n
    · have haI : (a : Int) < n := by omega
      have c0 := (HC.out _ _ HA.out).1
      have HRW : Hid (seqTo n d f a n = seqTo n d f (a + 1) 0) := Lib.hid (seqTo_row n d f a)
      gi_wp2_with fail
      gi_loopw [14] (fun i wr => ∃ b : Nat, b ≤ n ∧ i = .int .i64 b ∧ J (seqTo n d f a b) wr) (fun i _ => n - (intOf i).toNat)
      case atStart => exact ⟨0, by omega, rfl, HA.out⟩
      case round =>
        obtain ⟨b, hb, rfl, hj⟩ := hrel
        have HB := Lib.hid hj
        clear hj
        by_cases hbn : b < n
        · have hbI : (b : Int) < n := by omega
          obtain ⟨_, c1, c2'⟩ := HC.out _ _ HB.out
          have c2 := c2' a b han hbn
          clear c2'
          by_cases hd : (d && a == b) = true
          · have HS := Lib.hid (seqTo_skip (n := n) (f := f) hd)
            obtain ⟨hd1, hd2⟩ := Bool.and_eq_true_iff.1 hd
            rw [beq_iff_eq] at hd2
            subst hd1
            subst hd2
            clear hd
            gi_wp2
            all_goals refine ⟨(fun f9 h9 => by cases h9), ?_⟩
            gi_wp2
            refine ⟨⟨a + 1, by omega, by go_num, by rw [HS.out]; exact HB.out⟩, ?_⟩
            simp [intOf]; omega
          · have hd' : (d && a == b) = false := by simpa using hd
            have HS := Lib.hid (seqTo_take (n := n) (f := f) hd')
            obtain ⟨fn, tmps, assign, body, hy, hR⟩ := HY.out _ (f a b) wr HB.out ⟨a, b, han, hbn, rfl⟩
            have hcase : d = false ∨ (d = true ∧ ((a : Int) == b) = false) := by
              cases d
              · exact .inl rfl
              · refine .inr ⟨rfl, ?_⟩
                rw [Bool.true_and] at hd'
                rw [beq_eq_false_iff_ne] at hd' ⊢
                omega
            have haI0 : (0 : Int) ≤ a := by omega
            have hbI0 : (0 : Int) ≤ b := by omega
            have ha12 : (a : Int) < 12 := by omega
            have hb12 : (b : Int) < 12 := by omega
            clear hd hd'
            generalize f a b = x at c2 hy hR HS
            rcases hcase with rfl | ⟨rfl, hab⟩
            all_goals
              gi_wp2_with fail
              refine hR.mono ?_
              rintro e w7 ⟨rfl, hj7⟩
              have HJ7 := Lib.hid hj7
              clear hj7 hy hR HB
              gi_wp2
              refine ⟨⟨b + 1, by omega, by go_num, by rw [HS.out]; exact HJ7.out⟩, ?_⟩
              simp [intOf]; omega
        · have hbn2 : b = n := by omega
          subst hbn2
          rw [HRW.out] at HB
          gi_wp2
          refine ⟨⟨a + 1, by omega, by go_num, HB.out⟩, ?_⟩
          simp [intOf]; omega
    · have han2 : a = n := by omega
      subst han2
      rw [seqTo_end] at HA
      gi_wp2
      go_end0
      exact ⟨⟨_, rfl⟩, HA.out⟩
end Go.Proofs.Ytcmacejpoihhlaa

namespace Go.Proofs.Ytcmacejpoihhlaa
open Go.RowKit Go.Shelf

theorem grown_any {w w' : World} (h : w.grownBy w' none) (q : Nat) : w.grownBy w' (some q) := ⟨h.os, h.tape, h.output, h.size, fun k hk _ => h.block k hk (by simp)⟩
theorem grown_drew (w : World) (r : Option Nat) : w.grownBy w.drew r := ⟨rfl, rfl, rfl, Nat.le_refl _, fun _ _ _ => rfl⟩
theorem blk_rdI {w : World} {q n : Nat} {l : List Int} (h : Blk w q 3 (ints l).toArray) (hl : l.length = n) (hn : n ≤ 1000) (hi : ∀ v ∈ l, I64 v) : RdI w (some ⟨q, 0, none⟩) n l := by
  refine ⟨⟨by simp [hl], by omega, fun _ => ⟨_, rfl, h.lt, fun j u hu => ?_⟩⟩, hi⟩
  obtain ⟨x, hx, rfl⟩ : ∃ x, l[j]? = some x ∧ u = .int .i64 x := by
    rw [ints_get] at hu
    obtain ⟨x, hx, rfl⟩ := Option.map_eq_some_iff.1 hu
    exact ⟨x, hx, rfl⟩
  rw [show (Addr.add ⟨q, 0, none⟩ j) = ⟨q, j, none⟩ from by unfold Addr.add; split <;> simp_all, h.cell, ints_arr_get hx]
theorem blk_of_made {w : World} {base q n : Nat} {xs : List Value} (h : w.ownsRow base 3 1 (.slice (some ⟨q, 0, none⟩) n n) n xs) : Blk w q 3 xs.toArray := by
  rcases h.2 with ⟨e, _⟩ | ⟨g, cap, cur, e, _, hb, _, _, hs, ht⟩
  · cases e
  · injection e with e1 e2 e3
    injection e1 with e1
    injection e1 with e1
    subst e1 e3
    rw [Nat.mul_one] at hs ht
    have : cur.toList = xs := by rw [← ht, List.take_of_length_le (by rw [Array.length_toList]; omega)]
    unfold Blk
    rw [hb, ← this]
def fillTo (n k : Nat) : List Int := rangeI k ++ List.replicate (n - k) 0
theorem fillTo_len {n k : Nat} (h : k ≤ n) : (fillTo n k).length = n := by simp [fillTo, rangeI]; omega
theorem fillTo_succ {n k : Nat} (h : k < n) : fillTo n (k + 1) = (fillTo n k).set k (k : Int) := by
  unfold fillTo
  obtain ⟨m, rfl⟩ : ∃ m, n = k + 1 + m := ⟨n - (k + 1), by omega⟩
  rw [show k + 1 + m - k = m + 1 by omega, show k + 1 + m - (k + 1) = m by omega, rangeI_succ, List.replicate_succ, List.set_append_right _ _ (by rw [rangeI_len]; exact Nat.le_refl _), rangeI_len, Nat.sub_self, List.set_cons_zero]
  simp
theorem fillTo_all (n : Nat) : fillTo n n = rangeI n := by simp [fillTo]

set_option maxHeartbeats 400000 in
theorem ordersMk_any (n : Int) (w : World) : Calls Try.prog 110 #[.int .i64 n] w fun e w' => e = .returned (.func (.func 132) #[] #[.pointer (some ⟨w.heap.size, 0, none⟩)]) ∧ w' = w.alloc (.cells #[.int .i64 n] 3) := by
  go_enter Try.func110, Try.ntmps110
  go_wp2
  go_ret
  exact ⟨rfl, rfl⟩

set_option maxHeartbeats 2000000 in
set_option maxRecDepth 100000 in
theorem ordersIter_any (lp : Nat) (J : Nat → World → Prop) (g n : Nat) (W : World) (h1 : 1 ≤ n) (h6 : n ≤ 6)
    (hJn : ∀ k W', J k W' → W'.cell? ⟨g, 0, none⟩ = some (.int .i64 n)) (hJg : ∀ k W1 W2, J k W1 → W1.grownBy W2 (some W.heap.size) → J k W2) (h0 : J 0 W)
    (hY : ∀ (k : Nat) (A' : Option Addr) (c' : Nat) W1, k < cntP n → J k W1 → W.heap.size < W1.heap.size → OwnI W1 (W.heap.size + 1) 3 A' n c' (prm n k) → YieldAt Fence.wide 1 Try.prog lp #[.slice A' n c'] W1 fun e W' => e = .returned (.bool true) ∧ J (k + 1) W' ∧ W'.heap[W.heap.size]? = W1.heap[W.heap.size]?) :
    CallsIn Fence.wide 2 Try.prog 132 #[.func (.yield lp) #[] #[], .pointer (some ⟨g, 0, none⟩)] W fun e W' => (∃ v, e = .returned v) ∧ J (cntP n) W' := by
  have HJN := Lib.hid hJn
  have HJG := Lib.hid hJg
  have HY := Lib.hid hY
  have H0 := Lib.hid h0
  have HPF := Lib.hid (perms_f h1 h6)
  have hcn := hJn _ _ h0
  clear hJn hJg hY h0
  obtain ⟨i0, hi0, hz0, hz1, hz2⟩ := info_parts intInfo
  refine callsIn_of_wp Try.func132 rfl trivial ?_ rfl
  simp only [Try.ntmps132, List.size_toArray, List.length_cons, List.length_nil, Nat.reduceAdd, Nat.reduceSub, Array.replicate_succ, Array.replicate_zero, List.push_toArray, List.append_toArray, List.nil_append, List.cons_append]
  refine wpIn_wide.2 (wp_scope_straight ((wpIn_wide (n := 2)).1 ?_))
  obtain ⟨w3, hrun, hown, hg3⟩ := run_make_full (P := Try.prog) W W.heap.size 22 3 i0 (.int .i64 0) 1 Try.underlying22 hi0 hz0 hz1 .i64 .i64 n (by rw [hz2]; omega) (by unfold maxLen; omega) (Nat.le_refl _)
  obtain ⟨q, hq⟩ : ∃ q, W.heap.size = q := ⟨_, rfl⟩
  rw [hq] at hrun hown
  have HB3 : Hid (Blk w3 q 3 (ints (fillTo n 0)).toArray) := Lib.hid (by
    have h := blk_of_made hown
    rw [Nat.mul_one, show (Value.int .i64 0).cells = #[Value.int .i64 0] from rfl, toList_madeCells_one] at h
    rw [show fillTo n 0 = List.replicate n 0 from by simp [fillTo, rangeI]]
    simpa [ints] using h)
  have HJ3 := Lib.hid (HJG.out _ _ _ H0.out (grown_any hg3 _))
  rw [hq] at HJG HY
  clear hown hg3 hi0 hz0 hz1 hz2 H0
  gi_wp2_with fail
  gi_loopw [11] (fun i wr => ∃ k : Nat, k ≤ n ∧ i = .int .i64 k ∧ Blk wr q 3 (ints (fillTo n k)).toArray ∧ J 0 wr) (fun i _ => n - (intOf i).toNat)
  case atStart => exact ⟨0, by omega, rfl, HB3.out, HJ3.out⟩
  case round =>
    obtain ⟨k, hk, rfl, hb, hj⟩ := hrel
    have HB := Lib.hid hb
    have HJ := Lib.hid hj
    clear hb hj HB3 HJ3 hrun hcn
    by_cases hkn : k < n
    · have hkI : (k : Int) < n := by omega
      obtain ⟨v, hv⟩ : ∃ v, (fillTo n k)[k]? = some v := ⟨_, get_getD (by rw [fillTo_len hk]; exact hkn)⟩
      have hc : wr.cell? ⟨q, k, none⟩ = some (.int .i64 v) := by rw [HB.out.cell, ints_arr_get hv]
      have hf := HB.out.frozen k
      have HS := Lib.hid (fillTo_succ hkn)
      clear hv
      gi_wp2
      refine ⟨⟨k + 1, by omega, by go_num, ?_, ?_⟩, ?_⟩
      · rw [HS.out, ← ints_arr_set]; exact HB.out.set_ k (.int .i64 k)
      · exact HJG.out _ _ _ HJ.out (grown_set _ q k _)
      · simp [intOf]; omega
    · obtain rfl : n = k := by omega
      have HB0 : Hid (Blk wr q 3 (ints (prm n 0)).toArray) := Lib.hid (by rw [HPF.out.first, ← fillTo_all]; exact HB.out)
      clear HB
      gi_wp2_with fail
      refine wpIn_label ?_
      gi_wp2_with fail
      obtain ⟨R, hRdef⟩ : ∃ R : Nat → World → Prop, ∀ j wr, R j wr ↔ ∃ i : Nat, i < cntP n ∧ j = cntP n - i ∧ J i wr ∧ Blk wr q 3 (ints (prm n i)).toArray := ⟨_, fun _ _ => Iff.rfl⟩
      have HRD := Lib.hid hRdef
      clear hRdef
      gi_loopw [5] (fun _ wr => ∃ j, R j wr) (fun _ wr => leastOf (fun j => R j wr))
      case atStart => exact ⟨cntP n, (HRD.out _ _).2 ⟨0, HPF.out.pos, by omega, HJ.out, HB0.out⟩⟩
      case round =>
        obtain ⟨hle, hmin⟩ := leastOf_spec hrel
        obtain ⟨k, hk, hjl, hjk, hbk⟩ := (HRD.out _ _).1 hle
        have HJ1 := Lib.hid hjk
        have HB1 := Lib.hid hbk
        have HLE := Lib.hid hjl
        have hok := HPF.out.ok k hk
        have HLN : Hid ((prm n k).length = n) := Lib.hid (okOrd_len hok)
        have HI : Hid (∀ v ∈ prm n k, I64 v) := Lib.hid (fun v hv => I64.small (by have := okOrd_mem hok v hv; omega))
        have HR1 := Lib.hid (blk_rdI hbk HLN.out (by omega) HI.out)
        have hq1 := hbk.lt
        clear hjk hbk hjl hok hle hmin hrel HJ HB0
        gi_wp2_with fail
        refine ⟨trivial, ?_⟩
        refine (callsIn_wide.2 (clone_any (some ⟨q, 0, none⟩) n n (prm n k) wr HR1.out (by omega) rfl)).mono ?_; rintro e w5 ⟨A', c', rfl, ho5, hb5⟩
        rw [HLN.out] at ho5 ⊢
        have HJ5 := Lib.hid (HJG.out _ _ _ HJ1.out (grown_of_below hb5 _))
        have HB5 := Lib.hid (HB1.out.below hb5)
        have HO5 := Lib.hid (ho5.mono (base' := q + 1) hq1)
        clear ho5 hb5 HR1 HJ1 HB1
        obtain ⟨fn, tmps, assign, body, hy, hR⟩ := HY.out k A' c' w5 hk HJ5.out HB5.out.lt HO5.out
        gi_wp2_with fail
        refine hR.mono ?_
        rintro e w7 ⟨rfl, hj7, hh7⟩
        have HJ7 := Lib.hid hj7
        have HB7 : Hid (Blk w7 q 3 (ints (prm n k)).toArray) := Lib.hid (hh7.trans HB5.out)
        have hcn := HJN.out _ _ hj7
        have HNX := HPF.out.next k hk
        obtain ⟨o, ho⟩ : ∃ o, prm n k = o := ⟨_, rfl⟩
        rw [ho] at HB7 HLN HI HNX
        have HN := Lib.hid HNX
        clear hj7 hh7 hy hR HJ5 HB5 HO5 ho HNX
        have HCE : Hid (∀ (i : Nat) v, o[i]? = some v → w7.cell? ⟨q, i, none⟩ = some (.int .i64 v)) := Lib.hid (fun i v hv => by rw [HB7.out.cell, ints_arr_get hv])
        gi_wp2_with fail
        gi_loopw [5] (fun i wr => ∃ m : Nat, m ≤ n - 1 ∧ i = .int .i64 ((m : Int) - 1) ∧ Hid (findI o (n - 1) = findI o m) ∧ ∃ d, wr = w7.drewN d) (fun i _ => (intOf i + 1).toNat)
        case atStart => exact ⟨n - 1, by omega, by congr 1; omega, Lib.hid rfl, 0, rfl⟩
        case round =>
          obtain ⟨m, hm, rfl, HF, d0, rfl⟩ := hrel
          by_cases hm0 : m = 0
          · subst hm0
            have HEND : Hid (J (cntP n) w7) := Lib.hid (by
              have h2 := HN.out
              unfold nxtO at h2
              rw [HF.out, show findI o 0 = none from rfl] at h2
              by_cases h3 : k + 1 < cntP n
              · rw [if_pos h3] at h2; cases h2
              · have h4 : k + 1 = cntP n := by omega
                rw [← h4]; exact HJ7.out)
            gi_wp2
            rw [Exit.noGoto_ret]
            refine bodyPost_ret (results_none rfl _ _ _) rfl ?_
            exact ⟨⟨_, rfl⟩, HJG.out _ _ _ HEND.out (grown_of_below (below_drewN (Below.refl _ _) _) _)⟩
          · obtain ⟨i, rfl⟩ : ∃ i, m = i + 1 := ⟨m - 1, by omega⟩
            have hiI : (((i + 1 : Nat) : Int) - 1) = i := by omega
            rw [hiI]
            obtain ⟨u, hu⟩ : ∃ u, o[i]? = some u := ⟨_, get_getD (by rw [HLN.out]; omega)⟩
            obtain ⟨v, hv⟩ : ∃ v, o[i + 1]? = some v := ⟨_, get_getD (by rw [HLN.out]; omega)⟩
            have hcu := HCE.out i u hu
            have hcv := HCE.out (i + 1) v hv
            have hin : (i : Int) + 1 < n := by omega
            have hin' : (i : Int) < n := by omega
            have hi0 : (0 : Int) ≤ i := by omega
            have hi6 : i < 6 := by omega
            have HFU : Hid (findI o (i + 1) = if v < u then findI o i else some i) := Lib.hid (by
              rw [show findI o (i + 1) = if o.getD (i + 1) 0 < o.getD i 0 then findI o i else some i from rfl, getD_of_get hu, getD_of_get hv])
            by_cases hlt : v < u
            · have HF2 := Lib.hid (HF.out.trans (HFU.out.trans (if_pos hlt)))
              gi_wp2_with fail
              refine wpIn_wide.2 ?_
              go_quiet (fail)
              gi_wp2
              exact ⟨⟨i, by omega, rfl, HF2, _, rfl⟩, by simp [intOf]⟩
            · have HF2 := Lib.hid (HF.out.trans (HFU.out.trans (if_neg hlt)))
              have HNP : Hid (k + 1 < cntP n ∧ prm n (k + 1) = turnAt o i (findK o u (n - 1))) := Lib.hid (by
                have h2 := HN.out
                unfold nxtO at h2
                rw [HF2.out] at h2
                simp only [getD_of_get hu] at h2
                by_cases h3 : k + 1 < cntP n
                · rw [if_pos h3] at h2
                  injection h2 with h2
                  exact ⟨h3, h2.symm⟩
                · rw [if_neg h3] at h2; cases h2)
              have huv : u ≤ v := by omega
              have HV := Lib.hid hv
              have HU := Lib.hid hu
              have hnN : (n : Int) - 1 = ((n - 1 : Nat) : Int) := by omega
              clear HFU hv hu
              gi_wp2_with fail
              refine wpIn_wide.2 ?_
              go_quiet (fail)
              gi_wp2_with fail
              gi_loopw [6] (fun kk wr => ∃ p : Nat, i + 1 ≤ p ∧ p ≤ n - 1 ∧ kk = .int .i64 p ∧ Hid (findK o u (n - 1) = findK o u p) ∧ ∃ d, wr = w7.drewN d) (fun kk _ => (intOf kk).toNat)
              case atStart => exact ⟨n - 1, by omega, by omega, by rw [← hnN], Lib.hid rfl, _, rfl⟩
              case round =>
                obtain ⟨p, hip, hpn, rfl, HK, d1, rfl⟩ := hrel
                obtain ⟨z, hz⟩ : ∃ z, o[p]? = some z := ⟨_, get_getD (by rw [HLN.out]; omega)⟩
                have hcz := HCE.out p z hz
                have hpN : (p : Int) < n := by omega
                have hp0 : (0 : Int) ≤ p := by omega
                have hp6 : p < 6 := by omega
                obtain ⟨p', rfl⟩ : ∃ p', p = p' + 1 := ⟨p - 1, by omega⟩
                have HKU : Hid (findK o u (p' + 1) = if z < u then findK o u p' else p' + 1) := Lib.hid (by
                  rw [show findK o u (p' + 1) = if o.getD (p' + 1) 0 < u then findK o u p' else p' + 1 from rfl, getD_of_get hz])
                have HZ := Lib.hid hz
                by_cases hlz : z < u
                · have HK2 := Lib.hid (HK.out.trans (HKU.out.trans (if_pos hlz)))
                  have hne : i + 1 ≠ p' + 1 := fun e => by
                    have h1 := HV.out
                    rw [e, hz] at h1
                    injection h1 with h1
                    omega
                  clear hz
                  gi_wp2_with fail
                  refine wpIn_wide.2 ?_
                  go_quiet (fail)
                  gi_wp2
                  exact ⟨⟨p', by omega, by omega, rfl, HK2, _, rfl⟩, by simp [intOf]⟩
                · have HK2 := Lib.hid (HK.out.trans (HKU.out.trans (if_neg hlz)))
                  generalize p' + 1 = p at *
                  have hzu : u ≤ z := by omega
                  clear hz HKU HK
                  gi_wp2_with fail
                  refine wpIn_wide.2 ?_
                  go_quiet (fail)
                  gi_wp2_with fail
                  obtain ⟨wx, hwx⟩ : ∃ wx, (w7.drewN d1).drewN nq = wx := ⟨_, rfl⟩
                  have HBX : Hid (Blk wx q 3 (ints o).toArray) := Lib.hid (by rw [← hwx]; exact (HB7.out.drewN _).drewN _)
                  have HJX : Hid (J (k + 1) wx) := Lib.hid (by rw [← hwx]; exact HJG.out _ _ _ HJ7.out (grown_of_below (below_drewN (below_drewN (Below.refl _ _) _) _) _))
                  have cxi : wx.cell? ⟨q, i, none⟩ = some (.int .i64 u) := by rw [HBX.out.cell, ints_arr_get HU.out]
                  have cxp : wx.cell? ⟨q, p, none⟩ = some (.int .i64 z) := by rw [HBX.out.cell, ints_arr_get HZ.out]
                  have fxi := HBX.out.frozen i
                  have fxp := HBX.out.frozen p
                  have hnei : i ≠ p := by omega
                  have HSW : Hid ((o.set i z).set p u = swapAt o i p) := Lib.hid (by unfold swapAt; rw [getD_of_get HU.out, getD_of_get HZ.out])
                  rw [hwx]
                  clear hwx hcu hcv hcz hcn HCE HF HF2 HB7 HJ7 HN hlt hlz huv hzu
                  refine wpIn_wide.2 ?_
                  go_region
                  gi_wp2_with fail
                  refine ⟨trivial, ?_⟩
                  have HB8 : Hid (Blk ((wx.setCell ⟨q, i, none⟩ (.int .i64 z)).setCell ⟨q, p, none⟩ (.int .i64 u)).drew q 3 (ints (swapAt o i p)).toArray) := Lib.hid (by
                    rw [← HSW.out, ← ints_arr_set, ← ints_arr_set]; exact ((HBX.out.set_ i _).set_ p _).drew)
                  have HJ8 : Hid (J (k + 1) ((wx.setCell ⟨q, i, none⟩ (.int .i64 z)).setCell ⟨q, p, none⟩ (.int .i64 u)).drew) := Lib.hid (HJG.out _ _ _ HJX.out (grown_trans (grown_trans (grown_set wx q i _) (grown_set _ q p _)) (grown_drew _ _)))
                  have HSL : Hid ((swapAt o i p).length = (i + 1) + (n - (i + 1))) := Lib.hid (by rw [swapAt_len, HLN.out]; omega)
                  have HSI : Hid (∀ v ∈ swapAt o i p, I64 v) := Lib.hid (fun v hv => by
                    rw [← HSW.out] at hv
                    rcases List.mem_or_eq_of_mem_set hv with hv | rfl
                    · rcases List.mem_or_eq_of_mem_set hv with hv | rfl
                      · exact HI.out v hv
                      · exact HI.out v (List.mem_of_getElem? HZ.out)
                    · exact HI.out v (List.mem_of_getElem? HU.out))
                  generalize ((wx.setCell ⟨q, i, none⟩ (.int .i64 z)).setCell ⟨q, p, none⟩ (.int .i64 u)).drew = wz at HB8 HJ8 ⊢
                  refine (callsIn_wide.2 (reverseB_any q (i + 1) (n - (i + 1)) (n - (i + 1)) (swapAt o i p) wz HB8.out HSL.out (by omega) HSI.out)).mono ?_; rintro e w9 ⟨rfl, hb9, hg9⟩
                  have hnew : R (cntP n - (k + 1)) w9 := (HRD.out _ _).2 ⟨k + 1, HNP.out.1, rfl, HJG.out _ _ _ HJ8.out hg9, by rw [HNP.out.2, HK2.out]; exact hb9⟩
                  gi_wp2
                  exact ⟨⟨_, hnew⟩, Nat.lt_of_le_of_lt ((leastOf_spec ⟨_, hnew⟩).2 _ hnew) (by rw [HLE.out]; omega)⟩
end Go.Proofs.Ytcmacejpoihhlaa
