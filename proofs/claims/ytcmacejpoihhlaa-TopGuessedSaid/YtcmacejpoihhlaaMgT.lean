/- Walks: all partitions of a stock with their ways, handed out one by one. Walks: Shapes: how many ways each partition has. Walks: the best guess of the program. Walks: the ways of a partition, of all, and the best guess, by the reference. Plain law: the ordered choices of packets of a stock, counted by the rank of their partition. Walks: the fairest counts: the program's try, by recursion. Walk: the ordered choices of packets of a stock, counted by the rank of their partition. Walks: how an answer is marked. Walks and words that several design laws share: stocks that are valid, long lists, Pick; the box and two stocks. Walk: a scoring made of numbers. Walk: the warm-up of the design laws: some of the chapter's examples. -/
import Derived.Stop.RegionWithIn
import Derived.Test.YtcmacejpoihhlaaMgS
import Derived.Test.YtcmacejpoihhlaaMgO
import Derived.Test.YtcmacejpoihhlaaMgE
import Derived.Test.YtcmacejpoihhlaaMgB
import Derived.Test.YtcmacejpoihhlaaMgI
import Derived.Test.YtcmacejpoihhlaaMgP
import Derived.Test.YtcmacejpoihhlaaMgR
import Derived.Test.YtcmacejpoihhlaaMgC
import Derived.Test.YtcmacejpoihhlaaMgM
import Derived.Test.YtcmacejpoihhlaaMgQ
import Derived.Test.YtcmacejpoihhlaaMgG
namespace Go.Proofs.Ytcmacejpoihhlaa
open Go.RowKit Go.Shelf

theorem pr_zero : ∀ d, d < 7 → pr d 0 = List.replicate d 0 := by decide +kernel

theorem count_pos {d : Nat} (h1 : 1 ≤ d) (h6 : d ≤ 6) : 1 ≤ countR d ∧ countR d ≤ 203 := by
  have h : ∀ d, d < 7 → 1 ≤ d → 1 ≤ countR d ∧ countR d ≤ 203 := by decide +kernel
  exact h d (by omega) h1

set_option maxHeartbeats 1000000 in
set_option maxRecDepth 100000 in
theorem shapesIter_any (lp : Nat) (J : Nat → Nat → World → Prop) (bd bc : Nat) (A : Option Addr) (n c : Nat) (cnt : List Int) (d B0 : Nat) (W : World) (hd1 : 1 ≤ d) (hd6 : d ≤ 6) (hn1 : 1 ≤ n) (hn6 : n ≤ 6) (hok : okCounts cnt = true)
    (hJ : ∀ (k B : Nat) W', J k B W' → B ≤ W'.heap.size ∧ W'.cell? ⟨bd, 0, none⟩ = some (.int .i64 d) ∧ W'.cell? ⟨bc, 0, none⟩ = some (.slice A n c) ∧ RdI W' A n cnt)
    (hJb : ∀ (k B : Nat) W1 W2, J k B W1 → Below W1.heap.size W1 W2 → J k B W2) (hJd : ∀ (k B : Nat) W1, J k B W1 → J k B W1.drew) (h0 : J 0 B0 W)
    (hY : ∀ (k B : Nat) (A' : Option Addr) (c' : Nat) W1, (k : Int) < countR d → J k B W1 → OwnI W1 B 3 A' d c' (pr d k) → YieldAt Fence.wide 1 Try.prog lp #[.slice A' d c', .int .i64 (waysOf cnt (pr d k))] W1 fun e W' => e = .returned (.bool true) ∧ ∃ B', J (k + 1) B' W' ∧ RdI W' A' d (pr d k)) :
    CallsIn Fence.wide 2 Try.prog 122 #[.func (.yield lp) #[] #[], .pointer (some ⟨bd, 0, none⟩), .pointer (some ⟨bc, 0, none⟩)] W fun e W' => (∃ v, e = .returned v) ∧ ∃ B, J (countR d).toNat B W' := by
  have HJ := Lib.hid hJ
  have HJB := Lib.hid hJb
  have HJD := Lib.hid hJd
  have HY := Lib.hid hY
  have H0 := Lib.hid h0
  have hw0 := hJ _ _ _ h0
  have hcd := hw0.2.1
  have hB0 := hw0.1
  clear hJ hJb hY h0 hw0 hJd
  obtain ⟨i0, hi0, hz0, hz1, hz2⟩ := info_parts intInfo
  refine callsIn_of_wp Try.func122 rfl trivial ?_ rfl
  simp only [Try.ntmps122, List.size_toArray, List.length_cons, List.length_nil, Nat.reduceAdd, Nat.reduceSub, Array.replicate_succ, Array.replicate_zero, List.push_toArray, List.append_toArray, List.nil_append, List.cons_append]
  obtain ⟨w3, hrun, hown, hg3⟩ := run_make_full (P := Try.prog) W W.heap.size 22 3 i0 (.int .i64 0) 1 Try.underlying22 hi0 hz0 hz1 .i64 .i64 d (by rw [hz2]; omega) (by unfold maxLen; omega) (Nat.le_refl _)
  have HO3 : Hid (OwnI w3 B0 3 (some ⟨W.heap.size, 0, none⟩) d d (pr d 0)) := by
    refine ⟨⟨?_, by omega⟩, fun v hv => ?_⟩
    · rw [show (madeCells (Value.int .i64 0).cells (d * 1)).toList = ints (pr d 0) from by rw [Nat.mul_one]; show (madeCells #[Value.int .i64 0] d).toList = _; rw [toList_madeCells_one, pr_zero d (by omega)]; simp [ints]] at hown
      exact (Own.mono (w := w3) (A := some ⟨W.heap.size, 0, none⟩) (c := d) (size := 1) ⟨hown, by omega⟩ hB0).1
    · rw [pr_zero d (by omega)] at hv
      rw [(List.mem_replicate.1 hv).2]
      exact I64.small (by omega)
  have HJ3 := Lib.hid (HJB.out _ _ _ _ H0.out ((Below.refl _ W).grown hg3 (Nat.le_refl _) (by simp)))
  have hcp := count_pos hd1 hd6
  obtain ⟨m, hm⟩ : ∃ m : Nat, countR d = m := ⟨(countR d).toNat, by omega⟩
  have HCM := Lib.hid hm
  rw [hm] at hcp HY
  have hm1 : 1 ≤ m := by omega
  rw [hm, Int.toNat_natCast]
  have HCK : Hid (∀ k : Nat, chk (pr d k) = 0) := Lib.hid (pr_chk hd1 (by omega))
  have HNX : Hid (∀ k : Nat, nextE (pr d k) = if k + 1 < m then (pr d (k + 1), 0) else if k + 1 = m then ([], 7) else nextE (pr d k)) := Lib.hid (fun k => by
    by_cases h1 : k + 1 < m
    · rw [if_pos h1]
      have := (next_pr hd1 (by omega) (r := k) (by rw [hm]; omega)).1
      unfold nextE
      rw [if_neg (by rw [HCK.out k]; simp), this]
    · rw [if_neg h1]
      by_cases h2 : k + 1 = m
      · rw [if_pos h2]
        have := last_pr hd1 (by omega) (r := k) (by rw [hm]; omega)
        unfold nextE
        rw [if_neg (by rw [HCK.out k]; simp), this]
      · rw [if_neg h2])
  have HLC : Hid (cnt.length = n) := Lib.hid (HJ.out _ _ _ H0.out).2.2.2.len
  have HPL : Hid (∀ k : Nat, (pr d k).length = d) := Lib.hid (fun k => pr_len d k)
  clear hown hg3 hi0 hz0 hz1 hz2 hm hcp H0 hB0
  gi_wp2_with fail
  obtain ⟨R, hRdef⟩ : ∃ R : Nat → Value → Value → World → Prop, ∀ j p e wr, R j p e wr ↔ ∃ B : Nat, (∃ (k : Nat) (A' : Option Addr) (c' : Nat), k < m ∧ j = m - k ∧ p = .slice A' d c' ∧ e = .int .i64 0 ∧ J k B wr ∧ OwnI wr B 3 A' d c' (pr d k)) ∨ (j = 0 ∧ e = .int .i64 7 ∧ J m B wr) := ⟨_, fun _ _ _ _ => Iff.rfl⟩
  have HRD := Lib.hid hRdef
  clear hRdef
  gi_loopw [4, 5] (fun p e wr => ∃ j, R j p e wr) (fun p e wr => leastOf (fun j => R j p e wr))
  case atStart => exact ⟨m, (HRD.out _ _ _ _).2 ⟨B0, .inl ⟨0, _, _, by omega, by omega, rfl, rfl, HJ3.out, HO3.out⟩⟩⟩
  case round =>
    obtain ⟨hle, hmin⟩ := leastOf_spec hrel
    obtain ⟨B, ⟨k, A', c', hkm, hj, rfl, rfl, hj1, ho⟩ | ⟨hj, rfl, hj1⟩⟩ := (HRD.out _ _ _ _).1 hle
    · have HJ1 := Lib.hid hj1
      have HO1 := Lib.hid ho
      obtain ⟨hB, hcd1, hcc1, hrd1⟩ := HJ.out _ _ _ hj1
      have HRC := Lib.hid hrd1
      have HLE := Lib.hid hj
      clear hj1 ho hrd1 hle hmin hrel HJ3 HO3 hrun hj hcd
      gi_wp2_with fail
      refine ⟨trivial, ?_⟩
      refine (callsIn_wide.2 (leftOf_any A n c cnt wr HRC.out hn6 hn1)).mono ?_; rintro e w5 ⟨rfl, hb5⟩
      have HJ5 := Lib.hid (HJB.out _ _ _ _ HJ1.out hb5)
      have HO5 := Lib.hid (HO1.out.below hb5)
      clear hb5 HJ1 HO1 HRC hcd1 hcc1
      gi_wp2_with fail
      refine ⟨trivial, ?_⟩
      refine (callsIn_wide.2 (chance_any A' d c' (pr d k) (pad6 cnt) w5 HO5.out.rd (HCK.out k) (pad6_len (by rw [HLC.out]; exact hn6)) (pad6_kinds (by rw [HLC.out]; exact hn6) hok))).mono ?_; rintro e w6 ⟨rfl, hb6⟩
      have HJ6 := Lib.hid (HJB.out _ _ _ _ HJ5.out hb6)
      have HO6 := Lib.hid (HO5.out.below hb6)
      clear hb6 HJ5 HO5
      obtain ⟨fn, tmps, assign, body, hy, hR⟩ := HY.out k B A' c' w6 (by omega) HJ6.out HO6.out
      unfold waysOf at hy
      generalize chanceP (sizesOf (pr d k)) (pad6 cnt) = x at hy ⊢
      gi_wp2_with fail
      refine hR.mono ?_
      rintro e w7 ⟨rfl, B7, hj7, hr7⟩
      have HJ7 := Lib.hid hj7
      have HR7 := Lib.hid hr7
      clear hj7 hr7 hy hR HJ6 HO6
      gi_wp2_with fail
      refine ⟨trivial, ?_⟩
      have hB7 := (HJ.out _ _ _ HJ7.out).1
      have hnx := HNX.out k
      by_cases hk1 : k + 1 < m
      · rw [if_pos hk1] at hnx
        refine (callsIn_wide.2 (next_any A' d c' (pr d k) w7 HR7.out)).mono ?_; rintro e w8 ⟨A8, c8, rfl, ho8, hb8⟩
        rw [hnx] at ho8 ⊢
        simp only at ho8 ⊢
        rw [HPL.out] at ho8
        rw [HPL.out]
        have HJ8 := Lib.hid (HJB.out _ _ _ _ HJ7.out hb8)
        have HO8 := Lib.hid (ho8.mono hB7)
        clear ho8 hb8 hnx HJ7 HR7 hB7
        gi_wp2
        have hnew := (HRD.out (m - (k + 1)) _ (.int .i64 0) w8).2 ⟨B7, .inl ⟨k + 1, A8, c8, hk1, rfl, rfl, rfl, HJ8.out, HO8.out⟩⟩
        exact ⟨⟨_, hnew⟩, Nat.lt_of_le_of_lt ((leastOf_spec ⟨_, hnew⟩).2 _ hnew) (by rw [HLE.out]; omega)⟩
      · rw [if_neg hk1, if_pos (by omega)] at hnx
        refine (callsIn_wide.2 (next_any A' d c' (pr d k) w7 HR7.out)).mono ?_; rintro e w8 ⟨A8, c8, rfl, ho8, hb8⟩
        rw [hnx] at ho8 ⊢
        simp only at ho8 ⊢
        have HJ8 := Lib.hid (HJB.out _ _ _ _ HJ7.out hb8)
        clear hb8 hnx HJ7 HR7 hB7
        have hkm1 : k + 1 = m := by omega
        rw [hkm1] at HJ8
        gi_wp2
        have hnew := (HRD.out 0 (.slice A8 0 c8) (.int .i64 7) w8).2 ⟨B7, .inr ⟨rfl, rfl, HJ8.out⟩⟩
        exact ⟨⟨_, hnew⟩, Nat.lt_of_le_of_lt ((leastOf_spec ⟨_, hnew⟩).2 _ hnew) (by rw [HLE.out]; omega)⟩
    · have HJ1 := Lib.hid hj1
      clear hle hmin hrel hj1 HJ3 HO3 hrun hj
      gi_wp2
      go_end0
      exact ⟨⟨_, rfl⟩, B, HJ1.out⟩
end Go.Proofs.Ytcmacejpoihhlaa

namespace Go.Proofs.Ytcmacejpoihhlaa
open Go.RowKit Go.Shelf
attribute [local go_sem] Oper.semAt_some

/-- an append, its run known, inside a fence -/
theorem wpListIn_app_run {F : Fence} {n : Nat} {P : Program} (w : World) {ops : Array Oper} {rest : List Oper} {o : Oper} {a : Act} {Q : Exit → Act → World → Prop}
    (hg : o.guard = none) (s x : Operand) (t : TypeId) (hop : o.op = Op.call { callee := Callee.builtin Builtin.append, args := #[s, x], argTypes := #[t, t] })
    (v u : Value) (hs : a.eval s = v) (hx : a.eval x = u) {v' : Value} {w' : World} (hrun : (Builtin.append_ #[t, t] o.type #[v, u]).run P w = .ok v' w') (hK : wpListIn F n P ops Q rest (a.put o.dst v') w') :
    wpListIn F n P ops Q (o :: rest) a w := by
  refine wpListIn_plain hg fun K hK' => ?_
  unfold Oper.wpIn
  refine ⟨?_, ?_⟩
  · simp [Oper.about, hop, resolve, Target.leads, Sem.run_pure]
  · rw [Oper.semAt_plain F _ _ (by rw [hop]; intro c hc'; cases hc')]
    simp [execOp, hop, resolve, invoke, builtin, hs, hx, hrun, Result.andThen]
    exact hK' _ _ hK

set_option maxHeartbeats 1000000 in
set_option maxRecDepth 100000 in
theorem shaped_any (A : Option Addr) (n c : Nat) (l : List Int) (d : Int) (w : World) (h : RdI w A n l) (hd : I64 d) : Calls Try.prog 90 #[.agg #[.slice A n c, .int .i64 d]] w (NumM (shapedC l d) w) := by
  go_enter Try.func90, Try.ntmps90
  go_upto_region 1 with fail
  have HA := Lib.hid (h.alloc (.cells #[.slice A n c, .int .i64 d] 24))
  have HB := Lib.hid ((Below.refl _ w).alloc (Nat.le_refl _) (.cells #[.slice A n c, .int .i64 d] 24))
  have HX := Lib.hid (Blk.new w 24 #[.slice A n c, .int .i64 d])
  clear h
  generalize w.alloc (.cells #[.slice A n c, .int .i64 d] 24) = W at HA HB HX ⊢
  have c0 : W.cell? ⟨w.heap.size, 0, none⟩ = some (.slice A n c) := by rw [HX.out.cell]; rfl
  have c1 : W.cell? ⟨w.heap.size, 1, none⟩ = some (.int .i64 d) := by rw [HX.out.cell]; rfl
  go_wp2_with fail
  refine (checkS_any A n c l d W HA.out hd).mono ?_; rintro e w2 ⟨rfl, hb⟩
  have HX2 := Lib.hid (HX.out.below hb)
  have HB2 := Lib.hid (HB.out.trans (hb.mono HB.out.size))
  have c12 : w2.cell? ⟨w.heap.size, 1, none⟩ = some (.int .i64 d) := by rw [HX2.out.cell]; rfl
  clear hb HX c0 c1 HX2
  by_cases hz : chkS l d = 0
  · by_cases h6 : 6 < d
    · have HV : Hid (shapedC l d = 8) := Lib.hid (by unfold shapedC; rw [if_neg (by omega), if_pos h6])
      rw [hz]
      go_wp2
      go_ret
      exact ⟨ret_int HV.out.symm, HB2.out⟩
    · have HV : Hid (shapedC l d = 0) := Lib.hid (by unfold shapedC; rw [if_neg (by omega), if_neg h6])
      rw [hz]
      have g6 : d ≤ 6 := by omega
      go_wp2
      go_ret
      exact ⟨ret_int HV.out.symm, HB2.out⟩
  · have HV : Hid (shapedC l d = chkS l d) := Lib.hid (by unfold shapedC; rw [if_pos hz])
    have g : (chkS l d != 0) = true := by simpa using hz
    clear hz
    generalize chkS l d = z at g HV ⊢
    go_wp2
    go_ret
    exact ⟨ret_int HV.out.symm, HB2.out⟩

/-- the iterator's maker: what it was given lies in two boxes -/
theorem shapesMk_any (A : Option Addr) (n c : Nat) (d : Int) (w : World) : Calls Try.prog 91 #[.slice A n c, .int .i64 d] w fun e w' => e = .returned (.func (.func 122) #[] #[.pointer (some ⟨w.heap.size + 1, 0, none⟩), .pointer (some ⟨w.heap.size, 0, none⟩)]) ∧ w' = (w.alloc (.cells #[.slice A n c] 22)).alloc (.cells #[.int .i64 d] 3) := by
  go_enter Try.func91, Try.ntmps91
  go_wp2
  go_ret
  exact ⟨rfl, rfl⟩

/-- what stands between two rounds of Shapes: the boxes and the loop's record from block g on, the numbers so far -/
structure ShJ (w : World) (g : Nat) (rec : Loop) (A : Option Addr) (n c : Nat) (cnt : List Int) (d : Nat) (k B : Nat) (W : World) : Prop where
  out : ∃ (Ao : Option Addr) (co : Nat), Blk W g 22 #[.slice Ao k co] ∧ OwnI W (g + 5) 3 Ao k co (shapesTo cnt d k) ∧ ∀ b, Ao.map (·.block) = some b → b < B
  bc : Blk W (g + 1) 22 #[.slice A n c]
  bd : Blk W (g + 2) 3 #[.int .i64 d]
  df : W.heap[g + 3]? = some (.deferred (some []))
  lp : W.heap[g + 4]? = some (.loop rec)
  rd : RdI W A n cnt
  ne : ∀ b, A.map (·.block) = some b → b < g
  bel : Below w.heap.size w W
  le : g + 5 ≤ B ∧ B ≤ W.heap.size ∧ w.heap.size ≤ g
theorem ShJ.below {w W W' : World} {g : Nat} {rec : Loop} {A : Option Addr} {n c : Nat} {cnt : List Int} {d k B : Nat} (h : ShJ w g rec A n c cnt d k B W) (hb : Below W.heap.size W W') : ShJ w g rec A n c cnt d k B W' := by
  obtain ⟨Ao, co, h1, h2, h3⟩ := h.out
  have hle := h.le
  exact ⟨⟨Ao, co, h1.below hb, h2.below hb, h3⟩, h.bc.below hb, h.bd.below hb, (hb.block _ (by omega)).trans h.df, (hb.block _ (by omega)).trans h.lp, h.rd.below hb, h.ne, h.bel.trans (hb.mono h.bel.size), by have := hb.size; omega⟩

set_option maxHeartbeats 1000000 in
set_option maxRecDepth 100000 in
theorem shapesP_any (A : Option Addr) (n c : Nat) (l : List Int) (d : Int) (w : World) (h : RdI w A n l) (hd : I64 d) : Calls Try.prog 35 #[.agg #[.slice A n c, .int .i64 d]] w (IntsErr (shapesE l d) w) := by
  by_cases hz : shapedC l d = 0
  · refine (callsIn_wide (n := 3)).1 ?_
    refine callsIn_of_wp_marks Try.func35 rfl trivial ?_ rfl
    simp only [Try.ntmps35, List.size_toArray, List.length_cons, List.length_nil, Nat.reduceAdd, Nat.reduceSub, Array.replicate_succ, Array.replicate_zero, List.push_toArray, List.append_toArray, List.nil_append, List.cons_append]
    gi_wp2_with fail
    have HA := Lib.hid (h.alloc (.cells #[.slice A n c, .int .i64 d] 24))
    have HB := Lib.hid ((Below.refl _ w).alloc (Nat.le_refl _) (.cells #[.slice A n c, .int .i64 d] 24))
    have HX := Lib.hid (Blk.new w 24 #[.slice A n c, .int .i64 d])
    clear h
    generalize w.alloc (.cells #[.slice A n c, .int .i64 d] 24) = W at HA HB HX ⊢
    refine ⟨trivial, ?_⟩
    refine (callsIn_wide.2 (shaped_any A n c l d W HA.out hd)).mono ?_; rintro e w2 ⟨rfl, hb⟩
    have HA2 := Lib.hid (HA.out.below hb)
    have HX2 := Lib.hid (HX.out.below hb)
    have HB2 := Lib.hid (HB.out.trans (hb.mono HB.out.size))
    have c0 : w2.cell? ⟨w.heap.size, 0, none⟩ = some (.slice A n c) := by rw [HX2.out.cell]; rfl
    have c1 : w2.cell? ⟨w.heap.size, 1, none⟩ = some (.int .i64 d) := by rw [HX2.out.cell]; rfl
    have hlx := HX2.out.lt
    clear hb HX HA HB
    have hck : chkS l d = 0 ∧ d ≤ 6 := by
      unfold shapedC at hz
      by_cases h1 : chkS l d = 0
      · refine ⟨h1, ?_⟩
        rw [if_neg (by omega)] at hz
        by_cases h2 : 6 < d
        · rw [if_pos h2] at hz; omega
        · omega
      · rw [if_pos h1] at hz; omega
    have hk := chkS_ok hck.1
    obtain ⟨d, rfl⟩ : ∃ d' : Nat, d = d' := ⟨d.toNat, by omega⟩
    have hd1 : 1 ≤ d := by omega
    have hd6 : d ≤ 6 := by omega
    have hlen := HA2.out.len
    have hn1 : 1 ≤ n := by omega
    have hn6 : n ≤ 6 := by omega
    have HOK := Lib.hid hk.2.2.1
    have HLN := Lib.hid hlen
    have HV : Hid (shapesE l d = (shapesTo l d (countR d).toNat, 0)) := Lib.hid (by unfold shapesE; rw [if_neg (by omega), Int.toNat_natCast])
    rw [hz]
    clear hz hck hk hlen
    gi_wp2_with fail
    have HB3 := Lib.hid (HB2.out.alloc HB2.out.size (.cells #[.slice none 0 0] 22))
    have HA3 := Lib.hid (HA2.out.alloc (.cells #[.slice none 0 0] 22))
    have HXO := Lib.hid (Blk.new w2 22 #[.slice none 0 0])
    have hs3 : (w2.alloc (.cells #[.slice none 0 0] 22)).heap.size = w2.heap.size + 1 := by simp
    have HGE : Hid (w.heap.size ≤ w2.heap.size) := Lib.hid HB2.out.size
    have HNE : Hid (∀ b, A.map (·.block) = some b → b < w2.heap.size) := Lib.hid (fun b hb => HA2.out.block (by omega) hb)
    clear c0 c1
    generalize w2.alloc (.cells #[.slice none 0 0] 22) = w3 at HB3 HA3 HXO hs3 ⊢
    refine ⟨trivial, ?_⟩
    refine (callsIn_wide.2 (shapesMk_any A n c d w3)).mono ?_; rintro e w' ⟨rfl, rfl⟩
    have hs4 : ((w3.alloc (.cells #[.slice A n c] 22)).alloc (.cells #[.int .i64 d] 3)).heap.size = w2.heap.size + 3 := by simp; omega
    have hb4 := (HB3.out.alloc (by have := HGE.out; omega) (.cells #[.slice A n c] 22)).alloc (by have := HGE.out; simp; omega) (.cells #[.int .i64 d] 3)
    have hx1 := (Blk.new w3 22 #[.slice A n c]).alloc (.cells #[.int .i64 d] 3)
    have hx2 := Blk.new (w3.alloc (.cells #[.slice A n c] 22)) 3 #[.int .i64 d]
    rw [show (w3.alloc (.cells #[.slice A n c] 22)).heap.size = w3.heap.size + 1 by simp] at hx2
    rw [hs3] at hx1 hx2 ⊢
    have HX1 := Lib.hid hx1
    have HXD := Lib.hid hx2
    have HB4 := Lib.hid hb4
    have HA4 := Lib.hid ((HA3.out.alloc (.cells #[.slice A n c] 22)).alloc (.cells #[.int .i64 d] 3))
    have HXO4 := Lib.hid ((HXO.out.alloc (.cells #[.slice A n c] 22)).alloc (.cells #[.int .i64 d] 3))
    clear hx1 hx2 hb4 HB3 HA3 HXO hs3
    generalize (w3.alloc (.cells #[.slice A n c] 22)).alloc (.cells #[.int .i64 d] 3) = w4 at HX1 HXD HB4 HA4 HXO4 hs4 ⊢
    gi_wp2_with fail
    refine wpIn_range1 (gf := 122) (lb := #[.pointer (some ⟨w2.heap.size + 1 + 1, 0, none⟩), .pointer (some ⟨w2.heap.size + 1, 0, none⟩)]) rfl (enters_of Try.func122 (by kernel_rfl) rfl) ?_
    intro fn rec hrec WL hWL
    have hst : rec.state = .ready := by rw [hrec]
    have hpe : rec.pending = none := by rw [hrec]
    have hps : rec.params.size = 2 := by rw [hrec]; rfl
    have hsz : (w4.alloc (.deferred (some []))).heap.size = w4.heap.size + 1 := by simp
    have hbl : Below w4.heap.size w4 WL := by rw [hWL]; exact ((Below.refl _ w4).alloc (Nat.le_refl _) _).alloc (by simp) _
    have hD : WL.heap[w4.heap.size]? = some (.deferred (some [])) := by
      rw [hWL]; exact (Below.heap_alloc _ _ _ (by simp)).trans (World.alloc_heap_new w4 _)
    have hR : WL.heap[w4.heap.size + 1]? = some (.loop rec) := by
      rw [hWL]; have := World.alloc_heap_new (w4.alloc (.deferred (some []))) (.loop rec); rwa [hsz] at this
    have hLS : WL.heap.size = w2.heap.size + 5 := by rw [hWL]; simp; omega
    rw [hs4] at hD hR
    have HSJ := Lib.hid (show ShJ w w2.heap.size rec A n c l d 0 (w2.heap.size + 5) WL from ⟨⟨none, 0, HXO4.out.below hbl, OwnI.nil_ _ _ _, fun b e => by cases e⟩, HX1.out.below hbl, HXD.out.below hbl, hD, hR, HA4.out.below hbl, HNE.out, HB4.out.trans (hbl.mono HB4.out.size), by omega, by omega, HGE.out⟩)
    have HREC := Lib.hid hrec
    rw [hs4]
    clear hsz hbl hD hR hLS hWL hrec HX1 HXD HB4 HA4 HXO4 hs4 HA2 HX2 HB2 hlx
    refine (shapesIter_any (w2.heap.size + 3 + 1) (ShJ w w2.heap.size rec A n c l d) (w2.heap.size + 1 + 1) (w2.heap.size + 1) A n c l d (w2.heap.size + 5) WL hd1 hd6 hn1 hn6 HOK.out ?_ ?_ ?_ HSJ.out ?_).mono ?_
    · intro k B W' hj
      exact ⟨hj.le.2.1, by rw [hj.bd.cell]; rfl, by rw [hj.bc.cell]; rfl, hj.rd⟩
    · intro k B W1 W2 hj hb
      exact hj.below hb
    · intro k B W1 hj
      exact hj.below ((Below.refl _ W1).drew)
    · intro k B A' c' W1 hk hj ho
      have hl := hj.lp
      have hy := run_yield (P := Try.prog) (args := #[.slice A' d c', .int .i64 (waysOf l (pr d k))]) hl (by rw [hps]; rfl)
      refine ⟨_, _, _, _, hy, roundIn_of_wpIn trivial ?_⟩
      have hbr := run_beginRound (P := Try.prog) hl hst
      obtain ⟨Ao, co, hxo, hown, hAo⟩ := hj.out
      have hle := hj.le
      have hlt : w2.heap.size + 3 + 1 < W1.heap.size := (Array.getElem?_eq_some_iff.1 hl).1
      obtain ⟨WB, hWB⟩ : ∃ WB, WB = W1.putObj (w2.heap.size + 3 + 1) (.loop { rec with state := .busy }) := ⟨_, rfl⟩
      have hgB : W1.grownBy WB (some (w2.heap.size + 3 + 1)) := by rw [hWB]; exact grownBy_putObj' _ _ _
      have hlB : WB.heap[w2.heap.size + 3 + 1]? = some (.loop { rec with state := .busy }) := by rw [hWB]; exact World.putObj_heap_same hlt
      have hdB : WB.heap[w2.heap.size + 3]? = some (.deferred (some [])) := by rw [hWB]; exact (World.putObj_heap_other (by omega)).trans hj.df
      have hxB : Blk WB w2.heap.size 22 #[.slice Ao k co] := hxo.grown hgB (fun e => by injection e with e; omega)
      have hx1B : Blk WB (w2.heap.size + 1) 22 #[.slice A n c] := hj.bc.grown hgB (fun e => by injection e with e; omega)
      have hx2B : Blk WB (w2.heap.size + 2) 3 #[.int .i64 d] := hj.bd.grown hgB (fun e => by injection e with e; omega)
      have hOB : OwnI WB (w2.heap.size + 5) 3 Ao k co (shapesTo l d k) := hown.grown hgB (by
        cases e : Ao.map (·.block) with
        | none => exact .inl rfl
        | some b => exact .inr (fun e2 => by injection e2 with e2; have := (hown.1.block e).1; omega))
      have hpB : OwnI WB B 3 A' d c' (pr d k) := ho.grown hgB (by
        cases e : A'.map (·.block) with
        | none => exact .inl rfl
        | some b => exact .inr (fun e2 => by injection e2 with e2; have := (ho.1.block e).1; omega))
      have hrB : RdI WB A n l := hj.rd.grown hgB (fun g e1 e2 => by injection e1 with e1; have := hj.ne _ e2; omega)
      have hbB : Below w.heap.size w WB := hj.bel.grown hgB (by have := hj.bel.size; omega) (fun b e => by injection e with e; omega)
      have hneA := hj.ne
      rw [← hWB] at hbr
      have hsB : WB.heap.size = W1.heap.size := by rw [hWB]; simp [World.putObj]
      have HXB := Lib.hid (And.intro (And.intro hx1B hx2B) (And.intro hxB hrB))
      have HPB := Lib.hid hpB
      have HOB := Lib.hid hOB
      have HBB := Lib.hid hbB
      have HLB := Lib.hid hlB
      have HDB := Lib.hid hdB
      have HAO := Lib.hid hAo
      have cxo : WB.cell? ⟨w2.heap.size, 0, none⟩ = some (.slice Ao k co) := by rw [hxB.cell]; rfl
      have hBs : B ≤ WB.heap.size := by omega
      clear hj ho hl hlt hWB hgB hxo hown hAo hxB hx1B hx2B hOB hpB hrB hbB hlB hdB hy hsB
      have hx64 : I64 (waysOf l (pr d k)) := by
        have := waysOf_bd (c := l) (p := pr d k) (by rw [HLN.out]; exact hn6) HOK.out (pr_chk hd1 (by omega) k)
        unfold I64; omega
      have HSS : Hid (shapesTo l d (k + 1) = shapesTo l d k ++ [waysOf l (pr d k)]) := Lib.hid (shapesTo_succ l d k)
      have hk203 := (count_pos hd1 hd6).2
      generalize waysOf l (pr d k) = x at hx64 HSS ⊢
      obtain ⟨i0, hi0, hz0, hz1, hz2⟩ := info_parts intInfo
      obtain ⟨A2, c2, W5, hrun, hO5, hg5, ha5⟩ := run_app (P := Try.prog) (WB.alloc (.cells #[.int .i64 x] 3)) (w2.heap.size + 5) 22 22 3 i0 (.int .i64 0) 8 Try.underlying22 hi0 hz0 hz1 hz2 rfl (by omega) Ao k co _ (HOB.out.1.alloc _) (some ⟨WB.heap.size, 0, none⟩) 1 1 _ (RdI.one WB 3 x hx64).1 (ints_oneCell' _) (by omega) (by simp; omega)
      have hg5' : WB.grownBy W5 (Ao.map (·.block)) := grown_trans (World.grownBy_alloc WB _ _) hg5
      rw [show (WB.alloc (.cells #[.int .i64 x] 3)).heap.size = WB.heap.size + 1 by simp] at ha5
      have HRUN := Lib.hid hrun
      have HO5 := Lib.hid hO5
      have HG5 := Lib.hid hg5'
      have HA5 := Lib.hid ha5
      have hb5 := below_app HOB.out.1 hg5' (by omega)
      have c5 : W5.cell? ⟨w2.heap.size, 0, none⟩ = some (.slice Ao k co) := (hb5.cell (p := ⟨w2.heap.size, 0, none⟩) (by show w2.heap.size < _; omega)).trans cxo
      have hx5 : Blk W5 w2.heap.size 22 #[.slice Ao k co] := (hb5.block _ (by omega)).trans HXB.out.2.1
      have f5 := hx5.frozen 0
      have HX5 := Lib.hid hx5
      have HB5 := Lib.hid hb5
      have hrr : ({ rec with state := .ready, pending := none } : Loop) = rec := by
        cases rec
        simp only at hst hpe
        subst hst hpe
        rfl
      obtain ⟨W6, hW6⟩ : ∃ W6, W6 = W5.setCell ⟨w2.heap.size, 0, none⟩ (.slice A2 (k + 1) c2) := ⟨_, rfl⟩
      have hl6 : W6.heap[w2.heap.size + 3 + 1]? = some (.loop { rec with state := .busy }) := by rw [hW6]; exact (Below.heap_setCell _ _ _ _ (by simp; omega)).trans ((hb5.block _ (by omega)).trans HLB.out)
      have hlt6 := (Array.getElem?_eq_some_iff.1 hl6).1
      have hend : (Instr.endRound (w2.heap.size + 3 + 1) none).run Try.prog W6 = .ok (.bool true) (W6.putObj (w2.heap.size + 3 + 1) (.loop rec)) := by
        have h9 := run_endRound (P := Try.prog) none hl6
        have h10 : ({ rec with state := (if (none : Option Code).isNone = true then LoopState.ready else LoopState.done), pending := none } : Loop) = rec := hrr
        rw [h9]
        show Result.ok (Value.bool true) (W6.putObj _ (.loop { rec with state := (if (none : Option Code).isNone = true then LoopState.ready else LoopState.done), pending := none })) = _
        rw [h10]
      obtain ⟨W7, hW7⟩ : ∃ W7, W7 = W6.putObj (w2.heap.size + 3 + 1) (.loop rec) := ⟨_, rfl⟩
      have hg7 : W6.grownBy W7 (some (w2.heap.size + 3 + 1)) := by rw [hW7]; exact grownBy_putObj' _ _ _
      have q1 : Blk W7 (w2.heap.size + 1) 22 #[.slice A n c] := Blk.grown (by rw [hW6]; exact Blk.far ((hb5.block _ (by omega)).trans HXB.out.1.1) (p := ⟨w2.heap.size, 0, none⟩) (by simp) _) hg7 (fun e => by injection e with e; omega)
      have q2 : Blk W7 (w2.heap.size + 2) 3 #[.int .i64 d] := Blk.grown (by rw [hW6]; exact Blk.far ((hb5.block _ (by omega)).trans HXB.out.1.2) (p := ⟨w2.heap.size, 0, none⟩) (by simp) _) hg7 (fun e => by injection e with e; omega)
      have q3 : Blk W7 w2.heap.size 22 #[.slice A2 (k + 1) c2] := Blk.grown (by rw [hW6]; exact hx5.set_ 0 (.slice A2 (k + 1) c2)) hg7 (fun e => by injection e with e; omega)
      have q4 : W7.heap[w2.heap.size + 3]? = some (.deferred (some [])) := by
        rw [hW7]
        refine (World.putObj_heap_other (by omega)).trans ?_
        rw [hW6]
        exact (Below.heap_setCell _ _ _ _ (by simp)).trans ((hb5.block _ (by omega)).trans HDB.out)
      have q5 : W7.heap[w2.heap.size + 4]? = some (.loop rec) := by rw [hW7]; exact World.putObj_heap_same hlt6
      have hO5' : OwnI W5 (w2.heap.size + 5) 3 A2 (k + 1) c2 (shapesTo l d (k + 1)) := by
        rw [HSS.out]
        refine ⟨by rw [ints_append]; exact hO5, fun v hv => ?_⟩
        rcases List.mem_append.1 hv with hv | hv
        · exact HOB.out.2 v hv
        · simp at hv; subst hv; exact hx64
      have hA2 : ∀ b, A2.map (·.block) = some b → w2.heap.size + 5 ≤ b := fun b hb => (hO5.block hb).1
      have q6 : OwnI W7 (w2.heap.size + 5) 3 A2 (k + 1) c2 (shapesTo l d (k + 1)) := by
        refine OwnI.grown (w := W6) ?_ hg7 ?_
        · rw [hW6]; exact hO5'.far (p := ⟨w2.heap.size, 0, none⟩) (fun e => by have h9 : w2.heap.size + 5 ≤ w2.heap.size := hA2 _ e; omega) _
        · cases e : A2.map (·.block) with
          | none => exact .inl rfl
          | some b => exact .inr (fun e2 => by injection e2 with e2; have := hA2 b e; omega)
      have keepR : ∀ {X : Option Addr} {m : Nat} {r : List Int}, RdI WB X m r → (∀ b, X.map (·.block) = some b → b ≠ w2.heap.size ∧ b ≠ w2.heap.size + 3 + 1 ∧ Ao.map (·.block) ≠ some b) → RdI W7 X m r := by
        intro X m r hr hn
        refine RdI.grown (w := W6) ?_ hg7 (fun g e1 e2 => by injection e1 with e1; subst e1; exact (hn _ e2).2.1 rfl)
        rw [hW6]
        exact (hr.grown hg5' (fun g e1 e2 => (hn _ e2).2.2 e1)).setCell (fun e => (hn _ e).1 rfl) _
      have q7 : RdI W7 A n l := keepR HXB.out.2.2 (fun b hb => by
        have h1 := hneA b hb
        refine ⟨by omega, by omega, fun e => ?_⟩
        have := (HOB.out.1.block e).1
        omega)
      have q8 : RdI W7 A' d (pr d k) := keepR HPB.out.rd (fun b hb => by
        have h1 := (HPB.out.1.block hb).1
        refine ⟨by omega, by omega, fun e => ?_⟩
        have := HAO.out b e
        omega)
      have q9 : Below w.heap.size w W7 := (HBB.out.trans (by rw [hW6]; exact (hb5.mono (by omega)).setCell (p := ⟨w2.heap.size, 0, none⟩) hle.2.2 _)).grown hg7 (by have := HBB.out.size; have := hb5.size; rw [hW6]; simp [World.setCell]; omega) (fun b e => by injection e with e; omega)
      have hs7 : WB.heap.size ≤ W7.heap.size := by have := hb5.size; have := hg7.size; rw [hW6] at this; simp [World.setCell] at this; omega
      have HQ := Lib.hid (And.intro (show ShJ w w2.heap.size rec A n c l d (k + 1) W7.heap.size W7 from ⟨⟨A2, c2, q3, q6, fun b hb => (q6.1.block hb).2⟩, q1, q2, q4, q5, q7, hneA, q9, by omega, Nat.le_refl _, hle.2.2⟩) q8)
      rw [← hW7] at hend
      have HEND := Lib.hid hend
      have HW6 := Lib.hid hW6
      clear hrr hW6 hl6 hlt6 hend hW7 hg7 q1 q2 q3 q4 q5 hO5' hA2 q6 keepR q7 q8 q9 hs7
      clear hrun hO5 hg5 hg5' ha5 hi0 hz0 hz1 hz2 hb5 hx5
      have e := HREC.out
      subst e
      gi_wp2
      refine ⟨WB, hbr, ?_⟩
      gi_wp2_with (gi_at_builtin; refine wpListIn_app_run _ rfl (.tmp 20) (.tmp 22) _ rfl _ _ rfl rfl HRUN.out ?_)
      rw [← HW6.out]
      exact ⟨_, _, HEND.out, rfl, _, HQ.out⟩
    · rintro e W2 ⟨⟨v, rfl⟩, B, hj⟩
      have hel := run_endLoop (P := Try.prog) hj.lp (by rw [hst]; simp)
      rw [hpe] at hel
      obtain ⟨Ao, co, hxo, hown, hAo⟩ := hj.out
      have hle := hj.le
      obtain ⟨W4, hW4⟩ : ∃ W4, W4 = W2.putObj (w2.heap.size + 3 + 1) (.loop { rec with state := .exhausted, pending := none }) := ⟨_, rfl⟩
      rw [← hW4] at hel
      have hg4 : W2.grownBy W4 (some (w2.heap.size + 3 + 1)) := by rw [hW4]; exact grownBy_putObj' _ _ _
      have hd4 : W4.heap[w2.heap.size + 3]? = some (.deferred (some [])) := by rw [hW4]; exact (World.putObj_heap_other (by omega)).trans hj.df
      have hx4 : Blk W4 w2.heap.size 22 #[.slice Ao (countR d).toNat co] := hxo.grown hg4 (fun e => by injection e with e; omega)
      have hA2 : ∀ b, Ao.map (·.block) = some b → w2.heap.size + 5 ≤ b := fun b hb => (hown.1.block hb).1
      have hne : ∀ r, r < w2.heap.size + 5 → Ao.map (·.block) = none ∨ Ao.map (·.block) ≠ some r := fun r hr => by
        cases e : Ao.map (·.block) with
        | none => exact .inl rfl
        | some b => exact .inr (fun e2 => by injection e2 with e2; have := hA2 b e; omega)
      have ho4 : OwnI W4 (w2.heap.size + 5) 3 Ao (countR d).toNat co (shapesTo l d (countR d).toNat) := hown.grown hg4 (hne _ (by omega))
      have hb4 : Below w.heap.size w W4 := hj.bel.grown hg4 (by have := hj.bel.size; omega) (fun b e => by injection e with e; omega)
      have hg6 := grownBy_putObj' W4 (w2.heap.size + 3) (.deferred none)
      have ho6 := ho4.grown hg6 (hne _ (by omega))
      have hb6 : Below w.heap.size w (W4.putObj (w2.heap.size + 3) (.deferred none)) := hb4.grown hg6 (by have := hb4.size; omega) (fun b e => by injection e with e; omega)
      have c4 : W4.cell? ⟨w2.heap.size, 0, none⟩ = some (.slice Ao (countR d).toNat co) := by rw [hx4.cell]; rfl
      have HF := Lib.hid (And.intro hd4 (And.intro (ho6.mono (base' := w.heap.size) (by omega)) hb6))
      clear hg4 hd4 hx4 hA2 hne ho4 hb4 hg6 ho6 hb6 hxo hown hAo hj hW4
      refine ⟨none, W4, hel, ?_⟩
      clear hel
      gi_wp2
      obtain ⟨hd4, ho6, hb6⟩ := HF.out
      refine ⟨by simp, .inl ⟨_, _, rfl, run_takeDeferred hd4, ?_⟩⟩
      refine ⟨.tuple #[.slice Ao (countR d).toNat co, .int .i64 0], by simp [results, Try.f35, go_sem], ?_⟩
      rw [HV.out]
      have hsl : (shapesTo l d (countR d).toNat).length = (countR d).toNat := by simp [shapesTo]
      exact ⟨Ao, co, by simp only [hsl], by simp only [hsl]; exact ho6, hb6⟩
  · have HV : Hid (shapesE l d = ([], shapedC l d)) := Lib.hid (by unfold shapesE; rw [if_pos hz])
    have HQ : Hid (∀ W', RdI W' A n l → Calls Try.prog 90 #[.agg #[.slice A n c, .int .i64 d]] W' (NumM (shapedC l d) W')) := Lib.hid (fun W' h' => shaped_any A n c l d W' h' hd)
    generalize shapedC l d = z at HQ hz HV
    have g : (z != 0) = true := by simpa using hz
    have HA := Lib.hid (h.alloc (.cells #[.slice A n c, .int .i64 d] 24))
    have HB := Lib.hid ((Below.refl _ w).alloc (Nat.le_refl _) (.cells #[.slice A n c, .int .i64 d] 24))
    clear hz h
    go_enter Try.func35, Try.ntmps35
    go_wp2_with fail
    refine (HQ.out _ HA.out).mono ?_; rintro e w2 ⟨rfl, hb⟩
    go_wp2
    go_ret2
    rw [HV.out]
    exact ⟨none, 0, rfl, OwnI.nil_ _ _ _, HB.out.trans (hb.mono HB.out.size)⟩
end Go.Proofs.Ytcmacejpoihhlaa

namespace Go.Proofs.Ytcmacejpoihhlaa
open Go.RowKit Go.Shelf
attribute [local go_sem] Oper.semAt_some

theorem setCell_same (w : World) (g j : Nat) (v : Value) (h : w.cell? ⟨g, j, none⟩ = some v) : w.setCell ⟨g, j, none⟩ v = w := by
  have hh : (w.setCell ⟨g, j, none⟩ v).heap = w.heap := by
    apply Array.ext_getElem?
    intro i
    by_cases hi : i = g
    · subst hi
      simp only [World.cell?] at h
      cases hb : w.heap[i]? with
      | none => rw [hb] at h; simp at h
      | some o =>
        rw [hb] at h
        cases o <;> simp at h
        rename_i c e fr
        have hlt : j < c.size := (Array.getElem?_eq_some_iff.1 h).1
        have hset : c.setIfInBounds j v = c := by
          apply Array.ext_getElem?
          intro k
          by_cases hk : j = k
          · subst hk; rw [h]; simp [hlt]
          · simp [hk]
        simp [World.setCell, Array.getElem?_modify, hb, hset]
    · rw [Below.heap_setCell _ _ _ _ (by simpa using hi)]
  cases w
  simp only [World.setCell] at hh ⊢
  simp only [hh]

/-- what stands between two rounds of guess: the boxes and the loop's record from block g on, the best so far -/
structure GuJ (w : World) (g : Nat) (rec : Loop) (A : Option Addr) (n c : Nat) (cnt : List Int) (d : Nat) (k B : Nat) (W : World) : Prop where
  best : ∃ (Ab : Option Addr) (cb : Nat), Blk W g 22 #[.slice Ab (bestTo cnt d k).1.length cb] ∧ OwnI W (g + 6) 3 Ab (bestTo cnt d k).1.length cb (bestTo cnt d k).1
  ways : Blk W (g + 1) 3 #[.int .i64 (bestTo cnt d k).2]
  bc : Blk W (g + 2) 22 #[.slice A n c]
  bd : Blk W (g + 3) 3 #[.int .i64 d]
  df : W.heap[g + 4]? = some (.deferred (some []))
  lp : W.heap[g + 5]? = some (.loop rec)
  rd : RdI W A n cnt
  ne : ∀ b, A.map (·.block) = some b → b < g
  bel : Below w.heap.size w W
  le : g + 6 ≤ B ∧ B ≤ W.heap.size ∧ w.heap.size ≤ g
theorem GuJ.below {w W W' : World} {g : Nat} {rec : Loop} {A : Option Addr} {n c : Nat} {cnt : List Int} {d k B : Nat} (h : GuJ w g rec A n c cnt d k B W) (hb : Below W.heap.size W W') : GuJ w g rec A n c cnt d k B W' := by
  obtain ⟨Ab, cb, h1, h2⟩ := h.best
  have hle := h.le
  exact ⟨⟨Ab, cb, h1.below hb, h2.below hb⟩, h.ways.below hb, h.bc.below hb, h.bd.below hb, (hb.block _ (by omega)).trans h.df, (hb.block _ (by omega)).trans h.lp, h.rd.below hb, h.ne, h.bel.trans (hb.mono h.bel.size), by have := hb.size; omega⟩

/-- numbers and a number -/
def IntsNum (x : List Int × Int) (w : World) (e : Ending) (w' : World) : Prop :=
  ∃ A c, e = .returned (.tuple #[.slice A x.1.length c, .int .i64 x.2]) ∧ OwnI w' w.heap.size 3 A x.1.length c x.1 ∧ Below w.heap.size w w'
theorem bestTo_len (c : List Int) (d k : Nat) : (bestTo c d k).1 = [] ∨ (bestTo c d k).1.length = d := by
  rcases (best_ok c d k).at_ with ⟨_, h⟩ | ⟨_, r, _, h, _⟩
  · exact .inl h
  · right; rw [h]; exact pr_len d r

set_option maxHeartbeats 2000000 in
set_option maxRecDepth 100000 in
theorem guessD_any (A : Option Addr) (n c : Nat) (l : List Int) (d : Nat) (w : World) (h : RdI w A n l) (hz : shapedC l d = 0) : Calls Try.prog 94 #[.slice A n c, .int .i64 d] w (IntsNum (bestTo l d (countR d).toNat) w) := by
  refine (callsIn_wide (n := 3)).1 ?_
  refine callsIn_of_wp_marks Try.func94 rfl trivial ?_ rfl
  simp only [Try.ntmps94, List.size_toArray, List.length_cons, List.length_nil, Nat.reduceAdd, Nat.reduceSub, Array.replicate_succ, Array.replicate_zero, List.push_toArray, List.append_toArray, List.nil_append, List.cons_append]
  have hck : chkS l d = 0 ∧ d ≤ 6 := by
    unfold shapedC at hz
    by_cases h1 : chkS l d = 0
    · refine ⟨h1, ?_⟩
      rw [if_neg (by omega)] at hz
      by_cases h2 : (6 : Int) < d
      · rw [if_pos h2] at hz; omega
      · omega
    · rw [if_pos h1] at hz; omega
  have hk := chkS_ok hck.1
  have hd1 : 1 ≤ d := by omega
  have hd6 : d ≤ 6 := by omega
  have hlen := h.len
  have hn1 : 1 ≤ n := by omega
  have hn6 : n ≤ 6 := by omega
  have HOK := Lib.hid hk.2.2.1
  have HLN := Lib.hid hlen
  clear hz hck hk hlen
  gi_wp2_with fail
  have HA := Lib.hid ((h.alloc (.cells #[.slice none 0 0] 22)).alloc (.cells #[.int .i64 0] 3))
  have HB := Lib.hid (((Below.refl _ w).alloc (Nat.le_refl _) (.cells #[.slice none 0 0] 22)).alloc (by simp) (.cells #[.int .i64 0] 3))
  have hx0 := (Blk.new w 22 #[.slice none 0 0]).alloc (.cells #[.int .i64 0] 3)
  have hx1 := Blk.new (w.alloc (.cells #[.slice none 0 0] 22)) 3 #[.int .i64 0]
  rw [show (w.alloc (.cells #[.slice none 0 0] 22)).heap.size = w.heap.size + 1 by simp] at hx1
  have HX0 := Lib.hid hx0
  have HX1 := Lib.hid hx1
  have hs2 : ((w.alloc (.cells #[.slice none 0 0] 22)).alloc (.cells #[.int .i64 0] 3)).heap.size = w.heap.size + 2 := by simp
  have HNE : Hid (∀ b, A.map (·.block) = some b → b < w.heap.size) := Lib.hid (fun b hb => h.block (by omega) hb)
  clear h hx0 hx1
  generalize (w.alloc (.cells #[.slice none 0 0] 22)).alloc (.cells #[.int .i64 0] 3) = w3 at HA HB HX0 HX1 hs2 ⊢
  refine ⟨trivial, ?_⟩
  refine (callsIn_wide.2 (shapesMk_any A n c d w3)).mono ?_; rintro e w' ⟨rfl, rfl⟩
  have hs4 : ((w3.alloc (.cells #[.slice A n c] 22)).alloc (.cells #[.int .i64 d] 3)).heap.size = w.heap.size + 4 := by simp; omega
  have hb4 := (HB.out.alloc (by omega) (.cells #[.slice A n c] 22)).alloc (by simp; omega) (.cells #[.int .i64 d] 3)
  have hx1 := (Blk.new w3 22 #[.slice A n c]).alloc (.cells #[.int .i64 d] 3)
  have hx2 := Blk.new (w3.alloc (.cells #[.slice A n c] 22)) 3 #[.int .i64 d]
  rw [show (w3.alloc (.cells #[.slice A n c] 22)).heap.size = w3.heap.size + 1 by simp] at hx2
  rw [hs2] at hx1 hx2 ⊢
  have HXC := Lib.hid hx1
  have HXD := Lib.hid hx2
  have HB4 := Lib.hid hb4
  have HA4 := Lib.hid ((HA.out.alloc (.cells #[.slice A n c] 22)).alloc (.cells #[.int .i64 d] 3))
  have HX04 := Lib.hid ((HX0.out.alloc (.cells #[.slice A n c] 22)).alloc (.cells #[.int .i64 d] 3))
  have HX14 := Lib.hid ((HX1.out.alloc (.cells #[.slice A n c] 22)).alloc (.cells #[.int .i64 d] 3))
  clear hx1 hx2 hb4 HB HA HX0 HX1 hs2
  generalize (w3.alloc (.cells #[.slice A n c] 22)).alloc (.cells #[.int .i64 d] 3) = w4 at HXC HXD HB4 HA4 HX04 HX14 hs4 ⊢
  gi_wp2_with fail
  refine wpIn_range1 (gf := 122) (lb := #[.pointer (some ⟨w.heap.size + 2 + 1, 0, none⟩), .pointer (some ⟨w.heap.size + 2, 0, none⟩)]) rfl (enters_of Try.func122 (by kernel_rfl) rfl) ?_
  intro fn rec hrec WL hWL
  have hst : rec.state = .ready := by rw [hrec]
  have hpe : rec.pending = none := by rw [hrec]
  have hps : rec.params.size = 2 := by rw [hrec]; rfl
  have hsz : (w4.alloc (.deferred (some []))).heap.size = w4.heap.size + 1 := by simp
  have hbl : Below w4.heap.size w4 WL := by rw [hWL]; exact ((Below.refl _ w4).alloc (Nat.le_refl _) _).alloc (by simp) _
  have hD : WL.heap[w4.heap.size]? = some (.deferred (some [])) := by
    rw [hWL]; exact (Below.heap_alloc _ _ _ (by simp)).trans (World.alloc_heap_new w4 _)
  have hR : WL.heap[w4.heap.size + 1]? = some (.loop rec) := by
    rw [hWL]; have := World.alloc_heap_new (w4.alloc (.deferred (some []))) (.loop rec); rwa [hsz] at this
  have hLS : WL.heap.size = w.heap.size + 6 := by rw [hWL]; simp; omega
  rw [hs4] at hD hR
  have HSJ := Lib.hid (show GuJ w w.heap.size rec A n c l d 0 (w.heap.size + 6) WL from ⟨⟨none, 0, HX04.out.below hbl, OwnI.nil_ _ _ _⟩, HX14.out.below hbl, HXC.out.below hbl, HXD.out.below hbl, hD, hR, HA4.out.below hbl, HNE.out, HB4.out.trans (hbl.mono HB4.out.size), by omega, by omega, Nat.le_refl _⟩)
  have HREC := Lib.hid hrec
  rw [hs4]
  clear hsz hbl hD hR hLS hWL hrec HXC HXD HB4 HA4 HX04 HX14 hs4
  refine (shapesIter_any (w.heap.size + 4 + 1) (GuJ w w.heap.size rec A n c l d) (w.heap.size + 2 + 1) (w.heap.size + 2) A n c l d (w.heap.size + 6) WL hd1 hd6 hn1 hn6 HOK.out ?_ ?_ ?_ HSJ.out ?_).mono ?_
  · intro k B W' hj
    exact ⟨hj.le.2.1, by rw [hj.bd.cell]; rfl, by rw [hj.bc.cell]; rfl, hj.rd⟩
  · intro k B W1 W2 hj hb
    exact hj.below hb
  · intro k B W1 hj
    exact hj.below ((Below.refl _ W1).drew)
  · intro k B A' c' W1 hk hj ho
    have hl := hj.lp
    have hy := run_yield (P := Try.prog) (args := #[.slice A' d c', .int .i64 (waysOf l (pr d k))]) hl (by rw [hps]; rfl)
    refine ⟨_, _, _, _, hy, roundIn_of_wpIn trivial ?_⟩
    have hbr := run_beginRound (P := Try.prog) hl hst
    obtain ⟨Ab, cb, hxo, hown⟩ := hj.best
    have hle := hj.le
    have hlt : w.heap.size + 4 + 1 < W1.heap.size := (Array.getElem?_eq_some_iff.1 hl).1
    obtain ⟨WB, hWB⟩ : ∃ WB, WB = W1.putObj (w.heap.size + 4 + 1) (.loop { rec with state := .busy }) := ⟨_, rfl⟩
    have hgB : W1.grownBy WB (some (w.heap.size + 4 + 1)) := by rw [hWB]; exact grownBy_putObj' _ _ _
    have hlB : WB.heap[w.heap.size + 4 + 1]? = some (.loop { rec with state := .busy }) := by rw [hWB]; exact World.putObj_heap_same hlt
    have hdB : WB.heap[w.heap.size + 4]? = some (.deferred (some [])) := by rw [hWB]; exact (World.putObj_heap_other (by omega)).trans hj.df
    have hxB : Blk WB w.heap.size 22 #[.slice Ab (bestTo l d k).1.length cb] := hxo.grown hgB (fun e => by injection e with e; omega)
    have hwB : Blk WB (w.heap.size + 1) 3 #[.int .i64 (bestTo l d k).2] := hj.ways.grown hgB (fun e => by injection e with e; omega)
    have hx1B : Blk WB (w.heap.size + 2) 22 #[.slice A n c] := hj.bc.grown hgB (fun e => by injection e with e; omega)
    have hx2B : Blk WB (w.heap.size + 3) 3 #[.int .i64 d] := hj.bd.grown hgB (fun e => by injection e with e; omega)
    have hOB : OwnI WB (w.heap.size + 6) 3 Ab (bestTo l d k).1.length cb (bestTo l d k).1 := hown.grown hgB (by
      cases e : Ab.map (·.block) with
      | none => exact .inl rfl
      | some b => exact .inr (fun e2 => by injection e2 with e2; have := (hown.1.block e).1; omega))
    have hpB : OwnI WB B 3 A' d c' (pr d k) := ho.grown hgB (by
      cases e : A'.map (·.block) with
      | none => exact .inl rfl
      | some b => exact .inr (fun e2 => by injection e2 with e2; have := (ho.1.block e).1; omega))
    have hrB : RdI WB A n l := hj.rd.grown hgB (fun g e1 e2 => by injection e1 with e1; have := hj.ne _ e2; omega)
    have hbB : Below w.heap.size w WB := hj.bel.grown hgB (by have := hj.bel.size; omega) (fun b e => by injection e with e; omega)
    have hneA := hj.ne
    rw [← hWB] at hbr
    have hsB : WB.heap.size = W1.heap.size := by rw [hWB]; simp [World.putObj]
    have hrr : ({ rec with state := .ready, pending := none } : Loop) = rec := by
      cases rec
      simp only at hst hpe
      subst hst hpe
      rfl
    -- what a round leaves, from whatever the body has made of the two boxes
    have HEND : Hid (∀ (W6 : World) (s : List Int × Int) (A9 : Option Addr) (c9 : Nat), Blk W6 w.heap.size 22 #[.slice A9 s.1.length c9] → Blk W6 (w.heap.size + 1) 3 #[.int .i64 s.2] → OwnI W6 (w.heap.size + 6) 3 A9 s.1.length c9 s.1 → bestTo l d (k + 1) = s →
        (∀ b, b ≠ w.heap.size → b ≠ w.heap.size + 1 → W6.heap[b]? = WB.heap[b]?) → W6.heap.size = WB.heap.size → Below w.heap.size WB W6 →
        ∃ W7, (Instr.endRound (w.heap.size + 4 + 1) none).run Try.prog W6 = .ok (.bool true) W7 ∧ GuJ w w.heap.size rec A n c l d (k + 1) B W7 ∧ RdI W7 A' d (pr d k)) := Lib.hid (by
      intro W6 s A9 c9 b1 b2 b3 hs hoth hsz6 hbel6
      have hl6 : W6.heap[w.heap.size + 4 + 1]? = some (.loop { rec with state := .busy }) := (hoth _ (by omega) (by omega)).trans hlB
      have hlt6 := (Array.getElem?_eq_some_iff.1 hl6).1
      have hend : (Instr.endRound (w.heap.size + 4 + 1) none).run Try.prog W6 = .ok (.bool true) (W6.putObj (w.heap.size + 4 + 1) (.loop rec)) := by
        have h9 := run_endRound (P := Try.prog) none hl6
        rw [h9]
        show Result.ok (Value.bool true) (W6.putObj _ (.loop { rec with state := (if (none : Option Code).isNone = true then LoopState.ready else LoopState.done), pending := none })) = _
        rw [show ({ rec with state := (if (none : Option Code).isNone = true then LoopState.ready else LoopState.done), pending := none } : Loop) = rec from hrr]
      have hg7 : W6.grownBy (W6.putObj (w.heap.size + 4 + 1) (.loop rec)) (some (w.heap.size + 4 + 1)) := grownBy_putObj' _ _ _
      have hkeep : ∀ {X : Option Addr} {m : Nat} {r : List Int}, RdI WB X m r → (∀ b, X.map (·.block) = some b → b ≠ w.heap.size ∧ b ≠ w.heap.size + 1 ∧ b ≠ w.heap.size + 4 + 1) → RdI (W6.putObj (w.heap.size + 4 + 1) (.loop rec)) X m r := by
        intro X m r hr hn
        refine RdI.grown (w := W6) ?_ hg7 (fun g e1 e2 => by injection e1 with e1; subst e1; exact (hn _ e2).2.2 rfl)
        exact ⟨hr.1.keep (by omega) (fun p hp hA => World.cell?_of_block (hoth p.block (hn _ hA).1 (hn _ hA).2.1)), hr.2⟩
      refine ⟨_, hend, ⟨⟨A9, c9, by rw [hs]; exact b1.grown hg7 (fun e => by injection e with e; omega), by rw [hs]; exact b3.grown hg7 (by
          cases e : A9.map (·.block) with
          | none => exact .inl rfl
          | some b => exact .inr (fun e2 => by injection e2 with e2; have := (b3.1.block e).1; omega))⟩,
        by rw [hs]; exact b2.grown hg7 (fun e => by injection e with e; omega),
        Blk.grown (w := W6) ((hoth _ (by omega) (by omega)).trans hx1B) hg7 (fun e => by injection e with e; omega),
        Blk.grown (w := W6) ((hoth _ (by omega) (by omega)).trans hx2B) hg7 (fun e => by injection e with e; omega),
        (World.putObj_heap_other (by omega)).trans ((hoth _ (by omega) (by omega)).trans hdB),
        World.putObj_heap_same hlt6, hkeep hrB (fun b hb => by have := hneA b hb; omega), hneA,
        (hbB.trans hbel6).grown hg7 (by have := hbB.size; omega) (fun b e => by injection e with e; omega), ⟨hle.1, by have := hg7.size; omega, hle.2.2⟩⟩,
        hkeep hpB.rd (fun b hb => by have := (hpB.1.block hb).1; omega)⟩)
    have HXB := Lib.hid hxB
    have HWB := Lib.hid hwB
    have HPB := Lib.hid (hpB.mono hle.1)
    have HOB := Lib.hid hOB
    have cx : WB.cell? ⟨w.heap.size, 0, none⟩ = some (.slice Ab (bestTo l d k).1.length cb) := by rw [hxB.cell]; rfl
    have cy : WB.cell? ⟨w.heap.size + 1, 0, none⟩ = some (.int .i64 (bestTo l d k).2) := by rw [hwB.cell]; rfl
    have fx := hxB.frozen 0
    have fy := hwB.frozen 0
    clear hj ho hl hlt hWB hgB hxo hown hxB hwB hx1B hx2B hOB hpB hrB hbB hlB hdB hy hsB hrr hneA
    have hx64 : I64 (waysOf l (pr d k)) := by
      have := waysOf_bd (c := l) (p := pr d k) (by rw [HLN.out]; exact hn6) HOK.out (pr_chk hd1 (by omega) k)
      unfold I64; omega
    have HSS : Hid (bestTo l d (k + 1) = if (bestTo l d k).2 < waysOf l (pr d k) then (pr d k, waysOf l (pr d k)) else bestTo l d k) := Lib.hid (bestTo_succ l d k)
    have HPL := Lib.hid (pr_len d k)
    generalize hxx : waysOf l (pr d k) = x at hx64 HSS ⊢
    obtain ⟨s, hs⟩ : ∃ s, bestTo l d k = s := ⟨_, rfl⟩
    rw [hs] at HXB HWB HOB cx cy HSS
    clear hxx hs
    have e := HREC.out
    subst e
    by_cases hlt : s.2 < x
    · have HS2 : Hid (bestTo l d (k + 1) = (pr d k, x)) := Lib.hid (by rw [HSS.out, if_pos hlt])
      have HE7 : Hid (∃ W7, (Instr.endRound (w.heap.size + 4 + 1) none).run Try.prog ((WB.setCell ⟨w.heap.size, 0, none⟩ (.slice A' d c')).setCell ⟨w.heap.size + 1, 0, none⟩ (.int .i64 x)) = .ok (.bool true) W7 ∧ ∃ B', GuJ w w.heap.size _ A n c l d (k + 1) B' W7 ∧ RdI W7 A' d (pr d k)) := Lib.hid (by
        have hPb : ∀ b, A'.map (·.block) = some b → w.heap.size + 6 ≤ b := fun b e => (HPB.out.1.block e).1
        obtain ⟨W7, e1, e2⟩ := HEND.out ((WB.setCell ⟨w.heap.size, 0, none⟩ (.slice A' d c')).setCell ⟨w.heap.size + 1, 0, none⟩ (.int .i64 x)) (pr d k, x) A' c'
          (by rw [show ((pr d k, x) : List Int × Int).1.length = d from HPL.out]; exact (HXB.out.set_ 0 (.slice A' d c')).far (p := ⟨w.heap.size + 1, 0, none⟩) (by simp) _)
          ((HWB.out.far (p := ⟨w.heap.size, 0, none⟩) (by simp) _).set_ 0 (.int .i64 x))
          (by
            rw [show ((pr d k, x) : List Int × Int).1.length = d from HPL.out]
            exact (HPB.out.far (p := ⟨w.heap.size, 0, none⟩) (fun e => by have h9 : w.heap.size + 6 ≤ w.heap.size := hPb _ e; omega) _).far (p := ⟨w.heap.size + 1, 0, none⟩) (fun e => by have h9 : w.heap.size + 6 ≤ w.heap.size + 1 := hPb _ e; omega) _)
          HS2.out
          (fun b h1 h2 => (Below.heap_setCell _ _ _ _ (by simpa using h2)).trans (Below.heap_setCell _ _ _ _ (by simpa using h1)))
          (by simp [World.setCell])
          (((Below.refl w.heap.size WB).setCell (p := ⟨w.heap.size, 0, none⟩) (Nat.le_refl _) _).setCell (p := ⟨w.heap.size + 1, 0, none⟩) (by simp) _)
        exact ⟨W7, e1, B, e2⟩)
      clear HEND HSJ
      gi_wp2
      refine ⟨WB, hbr, ?_⟩
      clear hbr
      gi_wp2
      obtain ⟨W7, e1, e2⟩ := HE7.out
      exact ⟨_, _, e1, rfl, e2⟩
    · have HS2 : Hid (bestTo l d (k + 1) = s) := Lib.hid (by rw [HSS.out, if_neg hlt])
      have hlt2 : x ≤ s.2 := by omega
      have HE7 : Hid (∃ W7, (Instr.endRound (w.heap.size + 4 + 1) none).run Try.prog WB = .ok (.bool true) W7 ∧ ∃ B', GuJ w w.heap.size _ A n c l d (k + 1) B' W7 ∧ RdI W7 A' d (pr d k)) := Lib.hid (by
        obtain ⟨W7, e1, e2⟩ := HEND.out WB s Ab cb HXB.out HWB.out HOB.out HS2.out (fun _ _ _ => rfl) rfl (Below.refl _ _)
        exact ⟨W7, e1, B, e2⟩)
      clear HEND HSJ hlt
      gi_wp2
      refine ⟨WB, hbr, ?_⟩
      clear hbr
      gi_wp2
      obtain ⟨W7, e1, e2⟩ := HE7.out
      exact ⟨_, _, e1, rfl, e2⟩
  · rintro e W2 ⟨⟨v, rfl⟩, B, hj⟩
    have hel := run_endLoop (P := Try.prog) hj.lp (by rw [hst]; simp)
    rw [hpe] at hel
    obtain ⟨Ab, cb, hxo, hown⟩ := hj.best
    have hle := hj.le
    obtain ⟨W4, hW4⟩ : ∃ W4, W4 = W2.putObj (w.heap.size + 4 + 1) (.loop { rec with state := .exhausted, pending := none }) := ⟨_, rfl⟩
    rw [← hW4] at hel
    have hg4 : W2.grownBy W4 (some (w.heap.size + 4 + 1)) := by rw [hW4]; exact grownBy_putObj' _ _ _
    have hd4 : W4.heap[w.heap.size + 4]? = some (.deferred (some [])) := by rw [hW4]; exact (World.putObj_heap_other (by omega)).trans hj.df
    have hx4 : Blk W4 w.heap.size 22 #[.slice Ab (bestTo l d (countR d).toNat).1.length cb] := hxo.grown hg4 (fun e => by injection e with e; omega)
    have hy4 : Blk W4 (w.heap.size + 1) 3 #[.int .i64 (bestTo l d (countR d).toNat).2] := hj.ways.grown hg4 (fun e => by injection e with e; omega)
    have hAb : ∀ b, Ab.map (·.block) = some b → w.heap.size + 6 ≤ b := fun b hb => (hown.1.block hb).1
    have hne : ∀ r, r < w.heap.size + 6 → Ab.map (·.block) = none ∨ Ab.map (·.block) ≠ some r := fun r hr => by
      cases e : Ab.map (·.block) with
      | none => exact .inl rfl
      | some b => exact .inr (fun e2 => by injection e2 with e2; have := hAb b e; omega)
    have ho4 := hown.grown hg4 (hne _ (by omega))
    have hb4 : Below w.heap.size w W4 := hj.bel.grown hg4 (by have := hj.bel.size; omega) (fun b e => by injection e with e; omega)
    have hg6 := grownBy_putObj' W4 (w.heap.size + 4) (.deferred none)
    obtain ⟨s, hs⟩ : ∃ s, bestTo l d (countR d).toNat = s := ⟨_, rfl⟩
    rw [hs] at hx4 hy4 ho4
    have HSE := Lib.hid hs
    have HX4 := Lib.hid hx4
    have HY4 := Lib.hid hy4
    have HO4 := Lib.hid ho4
    have HB4 := Lib.hid hb4
    have HD4 := Lib.hid hd4
    have c4 : W4.cell? ⟨w.heap.size, 0, none⟩ = some (.slice Ab s.1.length cb) := by rw [hx4.cell]; rfl
    have c5 : W4.cell? ⟨w.heap.size + 1, 0, none⟩ = some (.int .i64 s.2) := by rw [hy4.cell]; rfl
    have f4 := hx4.frozen 0
    have f5 := hy4.frozen 0
    clear hg4 hd4 hx4 hy4 hAb hne ho4 hb4 hg6 hxo hown hj hW4 hs
    refine ⟨none, W4, hel, ?_⟩
    clear hel
    gi_wp2_with fail
    have hS1 : W4.drew.setCell ⟨w.heap.size, 0, none⟩ (.slice Ab s.1.length cb) = W4.drew := setCell_same _ _ _ _ c4
    have hS2 : W4.drew.setCell ⟨w.heap.size + 1, 0, none⟩ (.int .i64 s.2) = W4.drew := setCell_same _ _ _ _ c5
    have c6 : W4.drew.cell? ⟨w.heap.size, 0, none⟩ = some (.slice Ab s.1.length cb) := c4
    have c7 : W4.drew.cell? ⟨w.heap.size + 1, 0, none⟩ = some (.int .i64 s.2) := c5
    gi_region
    all_goals
      clear hS1 hS2 c4 c5
      gi_wp2
      have c8 : (W4.drew.putObj (w.heap.size + 4) (.deferred none)).cell? ⟨w.heap.size, 0, none⟩ = some (.slice Ab s.1.length cb) := (World.cell?_of_block (World.putObj_heap_other (by simp))).trans c6
      have c9 : (W4.drew.putObj (w.heap.size + 4) (.deferred none)).cell? ⟨w.heap.size + 1, 0, none⟩ = some (.int .i64 s.2) := (World.cell?_of_block (World.putObj_heap_other (by simp))).trans c7
      have hg6 : W4.drew.grownBy (W4.drew.putObj (w.heap.size + 4) (.deferred none)) (some (w.heap.size + 4)) := grownBy_putObj' _ _ _
      have hb4 : Below w.heap.size w W4.drew := HB4.out.drew
      have ho6 := (OwnI.drew HO4.out).grown hg6 (by
        cases e : Ab.map (·.block) with
        | none => exact .inl rfl
        | some b => exact .inr (fun e2 => by injection e2 with e2; have := (HO4.out.1.block e).1; omega))
      have hb6 : Below w.heap.size w (W4.drew.putObj (w.heap.size + 4) (.deferred none)) := hb4.grown hg6 (by have := hb4.size; omega) (fun b e => by injection e with e; omega)
      refine ⟨by simp, .inl ⟨_, _, rfl, run_takeDeferred HD4.out, ?_⟩⟩
      refine ⟨.tuple #[.slice Ab s.1.length cb, .int .i64 s.2], ?_, ?_⟩
      · simp [results, Try.f94, go_sem, c8, c9]
      · rw [HSE.out]
        exact ⟨Ab, cb, rfl, ho6.mono (by omega), hb6⟩

/-- what Guess answers: the partition, its ways, the error -/
def guessE (c : List Int) (d : Int) : List Int × Int × Int := if shapedC c d ≠ 0 then ([], 0, shapedC c d) else ((bestTo c d.toNat (countR d.toNat).toNat).1, (bestTo c d.toNat (countR d.toNat).toNat).2, 0)
theorem guessE_bad {c : List Int} {d : Int} (h : shapedC c d ≠ 0) : guessE c d = ([], 0, shapedC c d) := by unfold guessE; rw [if_pos h]
theorem guessE_ok {c : List Int} {d : Nat} (h : shapedC c d = 0) : guessE c d = ((bestTo c d (countR d).toNat).1, (bestTo c d (countR d).toNat).2, 0) := by unfold guessE; rw [if_neg (by omega), Int.toNat_natCast]
/-- numbers, a number and an error -/
def IntsNumE (x : List Int × Int × Int) (w : World) (e : Ending) (w' : World) : Prop :=
  ∃ A c, e = .returned (.tuple #[.slice A x.1.length c, .int .i64 x.2.1, .int .i64 x.2.2]) ∧ OwnI w' w.heap.size 3 A x.1.length c x.1 ∧ Below w.heap.size w w'

set_option maxHeartbeats 1000000 in
set_option maxRecDepth 100000 in
theorem guessP_any (A : Option Addr) (n c : Nat) (l : List Int) (d : Int) (w : World) (h : RdI w A n l) (hd : I64 d) : Calls Try.prog 37 #[.agg #[.slice A n c, .int .i64 d]] w (IntsNumE (guessE l d) w) := by
  go_enter Try.func37, Try.ntmps37
  go_upto_region 1 with fail
  have HA := Lib.hid (h.alloc (.cells #[.slice A n c, .int .i64 d] 24))
  have HB := Lib.hid ((Below.refl _ w).alloc (Nat.le_refl _) (.cells #[.slice A n c, .int .i64 d] 24))
  have HX := Lib.hid (Blk.new w 24 #[.slice A n c, .int .i64 d])
  clear h
  generalize w.alloc (.cells #[.slice A n c, .int .i64 d] 24) = W at HA HB HX ⊢
  have c0 : W.cell? ⟨w.heap.size, 0, none⟩ = some (.slice A n c) := by rw [HX.out.cell]; rfl
  have c1 : W.cell? ⟨w.heap.size, 1, none⟩ = some (.int .i64 d) := by rw [HX.out.cell]; rfl
  go_wp2_with fail
  refine (shaped_any A n c l d W HA.out hd).mono ?_; rintro e w2 ⟨rfl, hb⟩
  have HA2 := Lib.hid (HA.out.below hb)
  have HX2 := Lib.hid (HX.out.below hb)
  have HB2 := Lib.hid (HB.out.trans (hb.mono HB.out.size))
  have c02 : w2.cell? ⟨w.heap.size, 0, none⟩ = some (.slice A n c) := by rw [HX2.out.cell]; rfl
  have c12 : w2.cell? ⟨w.heap.size, 1, none⟩ = some (.int .i64 d) := by rw [HX2.out.cell]; rfl
  clear hb HX c0 c1 HX2
  by_cases hz : shapedC l d = 0
  · have hd0 : 1 ≤ d := by
      have h1 : chkS l d = 0 := by
        unfold shapedC at hz
        by_cases h1 : chkS l d = 0
        · exact h1
        · rw [if_pos h1] at hz; exact hz
      exact (chkS_ok h1).2.2.2.1
    obtain ⟨d, rfl⟩ : ∃ d' : Nat, d = d' := ⟨d.toNat, by omega⟩
    have HV := Lib.hid (guessE_ok hz)
    have HZ := Lib.hid hz
    rw [hz]
    clear hz
    go_wp2_with fail
    refine (guessD_any A n c l d w2 HA2.out HZ.out).mono ?_; rintro e w3 ⟨A3, c3, rfl, ho, hb3⟩
    generalize bestTo l d (countR d).toNat = s at ho HV ⊢
    have HO := Lib.hid (ho.mono HB2.out.size)
    have HB3 := Lib.hid (HB2.out.trans (hb3.mono HB2.out.size))
    clear ho hb3
    go_wp2
    go_ret3
    rw [HV.out]; exact ⟨A3, c3, rfl, HO.out, HB3.out⟩
  · have HV := Lib.hid (guessE_bad hz)
    have g : (shapedC l d != 0) = true := by simpa using hz
    clear hz
    generalize shapedC l d = z at g HV ⊢
    go_wp2
    go_ret3
    rw [HV.out]; exact ⟨none, 0, rfl, OwnI.nil_ _ _ _, HB2.out⟩
end Go.Proofs.Ytcmacejpoihhlaa

namespace Go.Proofs.Ytcmacejpoihhlaa
open Go.RowKit

theorem sizes_pos (p : List Int) : chk p = 0 → ∀ s ∈ sizesOf p, 1 ≤ s := by
  refine snoc_ind (P := fun p => chk p = 0 → ∀ s ∈ sizesOf p, 1 ≤ s) (fun h => by unfold chk at h; simp at h) (fun p x ih h => ?_) p
  have hk := chk_ok h
  by_cases hp : p = []
  · subst hp
    have h1 := chkGo_unsnoc [] x 0 hk.2.2.2
    have hx : x = 0 := by simp at h1; omega
    subst hx
    intro s hs
    have e : sizesOf [0] = [1] := by decide +kernel
    rw [List.nil_append, e] at hs
    simp at hs; omega
  · have h1 := chkGo_unsnoc p x 0 hk.2.2.2
    have hpl : 0 < p.length := List.length_pos_iff.2 hp
    have hq : chk p = 0 := by
      rw [chk_go hpl (by have := hk.2.1; simp at this; omega)]; exact h1.1
    obtain ⟨b, rfl⟩ : ∃ b : Nat, x = b := ⟨x.toNat, by omega⟩
    have hb : (b : Int) ≤ blk p := h1.2.2
    rw [sizes_more hq hb]
    have ih := ih hq
    have hs := sizesOf_ok hq
    intro s hs'
    by_cases hlt : (b : Int) < blk p
    · rw [if_pos hlt] at hs'
      unfold incAt at hs'
      rcases List.mem_or_eq_of_mem_set hs' with h2 | rfl
      · exact ih s h2
      · have := ih _ (getD_mem (l := sizesOf p) (i := b) (by rw [hs.len]; omega)); omega
    · rw [if_neg hlt] at hs'
      rcases List.mem_append.1 hs' with h2 | h2
      · exact ih s h2
      · simp at h2; omega
theorem waysOf_ref {l p : List Int} (h : chk p = 0) : chanceR l (sizesOf p) (List.replicate l.length false) = waysOf l p := chance_ref (sizes_pos p h)

set_option maxHeartbeats 2000000 in
set_option maxRecDepth 100000 in
theorem partitioned_any (A B : Option Addr) (n c m cb : Nat) (l p : List Int) (d : Int) (w : World) (h : RdI w A n l) (h2 : RdI w B m p) (hk : chk p = 0) (hn6 : n ≤ 6) (hn1 : 1 ≤ n) (hok : okCounts l = true) :
    Calls Try.prog 87 #[.agg #[.slice A n c, .int .i64 d], .slice B m cb] w (NumM (waysOf l p) w) := by
  have hlen := h2.len
  have hln := h.len
  have hck := chk_ok hk
  have hb9 := blk_le9 hk
  have hsm := chk_small hk
  obtain ⟨q, hq⟩ : ∃ q : Nat, blk p = q := ⟨(blk p).toNat, by omega⟩
  have hq1 : 1 ≤ q := by omega
  have hq9 : q ≤ 9 := by omega
  have hm9 : m ≤ 9 := by omega
  have hm1 : 1 ≤ m := by omega
  have HSO := Lib.hid (fun k hk' => sizes_ok (p := p) (m := q) (fun v hv => by have h1 := hck.2.2.1 v hv; have h2 := lt_blk hv; omega) k hk')
  have HPV : Hid (∀ v ∈ p, 0 ≤ v ∧ v < q) := Lib.hid (fun v hv => by have h1 := hck.2.2.1 v hv; have h2 := lt_blk hv; omega)
  have HKK : Hid (Kinds l) := Lib.hid ⟨by omega, fun x hx => by have := okCounts_mem hok x hx; omega⟩
  have HQ := Lib.hid hq
  have HL := Lib.hid hlen
  have HLN := Lib.hid hln
  have HSMP := Lib.hid hsm
  have HWY := Lib.hid (waysOf_ref (l := l) hk)
  obtain ⟨i0, hi0, hz0, hz1, hz2⟩ := info_parts intInfo
  obtain ⟨i1, hi1, hy0, hy1, hy2⟩ := info_parts boolInfo
  clear hb9 hck hk hq hlen hsm hln
  go_enter Try.func87, Try.ntmps87
  go_upto_region 1 with fail
  have HA := Lib.hid (h.alloc (.cells #[.slice A n c, .int .i64 d] 24))
  have HP := Lib.hid (h2.alloc (.cells #[.slice A n c, .int .i64 d] 24))
  have HB := Lib.hid ((Below.refl _ w).alloc (Nat.le_refl _) (.cells #[.slice A n c, .int .i64 d] 24))
  have HX := Lib.hid (Blk.new w 24 #[.slice A n c, .int .i64 d])
  have HAB : Hid (∀ b, A.map (·.block) = some b → b < w.heap.size) := Lib.hid (fun b e => h.block (by omega) e)
  have HBB : Hid (∀ b, B.map (·.block) = some b → b < w.heap.size) := Lib.hid (fun b e => h2.block (by omega) e)
  clear h h2
  have hWs : (w.alloc (.cells #[.slice A n c, .int .i64 d] 24)).heap.size = w.heap.size + 1 := by simp
  generalize w.alloc (.cells #[.slice A n c, .int .i64 d] 24) = W at HA HB HX HP hWs ⊢
  have HWS := Lib.hid hWs
  clear hWs
  go_wp2_with fail
  refine (refBlocks_any B m cb p W HP.out HSMP.out).mono ?_; rintro e w' ⟨rfl, rfl⟩
  rw [HQ.out]
  go_upto_region 2 with (at_make; go_must (refine wpList_make_full W rfl (.tmp 8) (.tmp 8) 22 rfl W.heap.size 3 i0 (.int .i64 0) 1 Try.underlying22 hi0 hz0 hz1 .i64 .i64 q q q rfl rfl rfl rfl (by rw [hz2]; omega) (by unfold maxLen; omega) (Nat.le_refl _) ?_); intro w3 hown hg3)
  have HO3 : Hid (OwnI w3 W.heap.size 3 (some ⟨W.heap.size, 0, none⟩) q q (sizesTo p q 0)) := by
    refine ⟨⟨?_, by omega⟩, fun v hv => ?_⟩
    · rw [show (madeCells (Value.int .i64 0).cells (q * 1)).toList = ints (sizesTo p q 0) from by rw [Nat.mul_one]; show (madeCells #[Value.int .i64 0] q).toList = _; rw [toList_madeCells_one]; simp [ints, sizesTo]] at hown
      exact hown
    · have := (HSO.out 0 (by omega)).pos v hv
      exact I64.small (by omega)
  have HB3 := Lib.hid ((Below.refl W.heap.size W).grown hg3 (Nat.le_refl _) (by simp))
  clear hown hg3
  go_wp2_with fail
  go_loopw [6] (fun i wr => ∃ k : Nat, k ≤ m ∧ i = .int .i64 k ∧ OwnI wr W.heap.size 3 (some ⟨W.heap.size, 0, none⟩) q q (sizesTo p q k) ∧ Below W.heap.size W wr) (fun i _ => m - (intOf i).toNat)
  case atStart => exact ⟨0, by omega, rfl, HO3.out, HB3.out⟩
  case round =>
    obtain ⟨k, hkm, rfl, hown, hbel⟩ := hrel
    have HO := Lib.hid hown
    have HBE := Lib.hid hbel
    have HPR := Lib.hid (HP.out.below hbel)
    clear hown hbel HO3 HB3
    by_cases hlt : k < m
    · obtain ⟨ad, v, rfl, _, hv, _, hcv⟩ := HPR.out.at_ hlt
      have hv2 := HPV.out v (List.mem_of_getElem? hv.out)
      obtain ⟨v, rfl⟩ : ∃ v' : Nat, v = v' := ⟨v.toNat, by omega⟩
      have hvq : v < q := by omega
      have hvqI : (v : Int) < q := by omega
      have hso := HSO.out k (by rw [HL.out]; exact hkm)
      obtain ⟨u, hu⟩ : ∃ u, (sizesTo p q k)[v]? = some u := ⟨_, get_getD (by rw [hso.len]; exact hvq)⟩
      have hu0 := hso.pos u (List.mem_of_getElem? hu)
      have hcu := HO.out.cellAt hu
      have hfu := HO.out.frozenAt v
      have HN : Hid (sizesTo p q (k + 1) = (sizesTo p q k).set v (u + 1)) := Lib.hid (by rw [sizesTo_succ hv.out]; unfold sizeStep; rw [Int.toNat_natCast, getD_of_get hu])
      have HU : Hid (I64 (u + 1)) := Lib.hid (I64.small (by omega))
      have hu9 : u ≤ 9 := by omega
      have hu1 : 0 ≤ u := by omega
      clear hso hu hu0
      go_wp2
      go_roundw
      case rel => exact ⟨k + 1, by omega, by go_num, by rw [HN.out]; exact HO.out.stored v HU.out, HBE.out.setCell (p := ⟨W.heap.size, v, none⟩) (Nat.le_refl _) _⟩
      case measure => simp [intOf]; omega
    · obtain rfl : k = m := by omega
      have HSE : Hid (sizesTo p q k = sizesOf p) := Lib.hid (by unfold sizesOf; rw [HQ.out, Int.toNat_natCast, HL.out])
      rw [HSE.out] at HO
      have hso := HSO.out k (by rw [HL.out]; exact Nat.le_refl _)
      rw [HSE.out] at hso
      have HAR := Lib.hid (HA.out.below HBE.out)
      have HXR := Lib.hid (HX.out.below HBE.out)
      have k0 : wr.cell? ⟨w.heap.size, 0, none⟩ = some (.slice A n c) := by rw [HXR.out.cell]; rfl
      have hxl := HXR.out.lt
      obtain ⟨w5, hrun, hown5, hg5⟩ := run_make_full (P := Try.prog) wr.drew wr.drew.heap.size 136 4 i1 (.bool false) 1 Try.underlying136 hi1 hy0 hy1 .i64 .i64 n (by rw [hy2]; omega) (by unfold maxLen; omega) (Nat.le_refl _)
      have hb5 : Below wr.heap.size wr w5 := (Below.refl wr.heap.size wr).drew.trans ((Below.refl _ _).grown hg5 (Nat.le_refl _) (by simp))
      have HT5 : Hid (Own w5 wr.heap.size 4 1 (some ⟨wr.heap.size, 0, none⟩) n n (bools (List.replicate n false))) := by
        refine ⟨?_, by omega⟩
        rw [show (madeCells (Value.bool false).cells (n * 1)).toList = bools (List.replicate n false) from by rw [Nat.mul_one]; show (madeCells #[Value.bool false] n).toList = _; rw [toList_madeCells_one]; simp [bools]] at hown5
        exact hown5
      have HAR5 := Lib.hid (HAR.out.below hb5)
      have HO5 := Lib.hid (HO.out.rd.below hb5)
      have hsW := HBE.out.size
      have hlw := HWS.out
      have HOB := (HO.out.1.block (k := W.heap.size) rfl).2
      have HI : Hid (Calls Try.prog 121 #[.slice A n c, .slice (some ⟨W.heap.size, 0, none⟩) q q, .int .i64 0, .slice (some ⟨wr.heap.size, 0, none⟩) n n] w5 (NumS (waysOf l p) w5)) := Lib.hid (by
        have := rchance_any A (some ⟨W.heap.size, 0, none⟩) (some ⟨wr.heap.size, 0, none⟩) n c q q n wr.heap.size l (sizesOf p) (fun s hs => (hso.pos s hs).1) (by rw [hso.sum]; exact hm9) hq9 hn6 HKK.out
          (fun g e e2 => by injection e with e; have := HAB.out _ e2; simp at e; omega) (fun g e e2 => by injection e with e; injection e2 with e2; simp at e e2; omega)
          (sizesOf p) [] (List.replicate n false) w5 rfl HAR5.out HO5.out HT5.out
        rw [show List.replicate n false = List.replicate l.length false by rw [HLN.out], HWY.out] at this
        exact this)
      have m0 := (hb5.cell (p := ⟨w.heap.size, 0, none⟩) hxl).trans k0
      have HBF := Lib.hid (HB.out.trans ((HBE.out.trans (hb5.mono hsW)).mono HB.out.size))
      clear hown5 hg5 hso HAR HXR HO HBE HT5 HAR5 HO5 hsW hlw HOB hi0 hz0 hz1 hz2 hi1 hy0 hy1 hy2
      go_upto_region 6 with fail
      go_region_held3 (fun w' => w'.cell? ⟨w.heap.size, 0, none⟩ = some (.slice A n c)) (first | exact k0 | exact m0) (first
        | (go_at_call 121; refine HI.out.mono ?_; rintro e wc ⟨rfl, hcl⟩; have m0 := (hcl.cell _).trans m0))
      have HF := Lib.hid (HBF.out.trans (hcl.below _))
      clear hrun
      go_wp2
      go_ret
      exact ⟨rfl, HF.out⟩
end Go.Proofs.Ytcmacejpoihhlaa

namespace Go.Proofs.Ytcmacejpoihhlaa
open Go.RowKit

/-! ### All partitions have a rank -/
def partsL : Nat → List (List Int)
  | 0 => [[]]
  | d + 1 => (partsL d).flatMap fun p => (List.range ((blk p).toNat + 1)).map fun b : Nat => p ++ [(b : Int)]
theorem mem_partsL (q : List Int) : chkGo 0 q = 0 → q ∈ partsL q.length := by
  induction q using snoc_ind with
  | h0 => intro _; exact List.mem_singleton.2 rfl
  | hs q x ih =>
    intro h
    obtain ⟨h1, h2, h3⟩ := chkGo_unsnoc _ _ _ h
    rw [List.length_append, List.length_singleton]
    show _ ∈ (partsL q.length).flatMap _
    rw [List.mem_flatMap]
    have h3' : x ≤ blk q := h3
    exact ⟨q, ih h1, List.mem_map.2 ⟨x.toNat, List.mem_range.2 (by omega), by rw [show ((x.toNat : Nat) : Int) = x by omega]⟩⟩
def coverB (d : Nat) : Bool := (partsL d).all fun q => (q == pr d (rnk q).toNat) && decide (0 ≤ rnk q) && decide (rnk q < countR d)
theorem cover_1 : coverB 1 = true := by decide +kernel
theorem cover_2 : coverB 2 = true := by decide +kernel
theorem cover_3 : coverB 3 = true := by decide +kernel
theorem cover_4 : coverB 4 = true := by decide +kernel
theorem cover_5 : coverB 5 = true := by decide +kernel
theorem cover_all {d : Nat} (h1 : 1 ≤ d) (h5 : d ≤ 5) : coverB d = true := by
  have h : d = 1 ∨ d = 2 ∨ d = 3 ∨ d = 4 ∨ d = 5 := by omega
  rcases h with rfl | rfl | rfl | rfl | rfl
  · exact cover_1
  · exact cover_2
  · exact cover_3
  · exact cover_4
  · exact cover_5
theorem cover_at {d : Nat} (h1 : 1 ≤ d) (h5 : d ≤ 5) {q : List Int} (hq : chk q = 0) (hl : q.length = d) : q = pr d (rnk q).toNat ∧ 0 ≤ rnk q ∧ rnk q < countR d := by
  have h := cover_all h1 h5
  unfold coverB at h
  rw [List.all_eq_true] at h
  have := h q (by rw [← hl]; exact mem_partsL q (chk_ok hq).2.2.2)
  simp only [Bool.and_eq_true, beq_iff_eq, decide_eq_true_eq] at this
  exact ⟨this.1.1, this.1.2, this.2⟩

/-- the rank of the partition of a choice -/
def rnkOf (x : List Int) : Nat := (rnk (ofL x)).toNat
theorem rnkOf_iff {x : List Int} {d r : Nat} (h1 : 1 ≤ d) (h5 : d ≤ 5) (hx : x.length = d) (hr : (r : Int) < countR d) : rnkOf x = r ↔ ofL x = pr d r := by
  have hc := cover_at h1 h5 (chk_ofL (l := x) (by omega) (by omega)) (by rw [ofL_length, hx])
  unfold rnkOf
  constructor
  · intro e; rw [← e]; exact hc.1
  · intro e; rw [e, rank_pr h1 (by omega) hr]; rfl
theorem rnkOf_lt {x : List Int} {d : Nat} (h1 : 1 ≤ d) (h5 : d ≤ 5) (hx : x.length = d) : rnkOf x < (countR d).toNat := by
  have hc := cover_at h1 h5 (chk_ofL (l := x) (by omega) (by omega)) (by rw [ofL_length, hx])
  unfold rnkOf; omega
def isR (r : Nat) (x : List Int) : Int := if rnkOf x = r then 1 else 0

theorem cw_ways {c : List Int} {d r : Nat} (h1 : 1 ≤ d) (h5 : d ≤ 5) (hr : (r : Int) < countR d) (hc : ∀ x ∈ c, 0 ≤ x) : cw (isR r) d [] c = waysOf c (pr d r) := by
  have hp := pr_chk h1 (by omega) (n := d) r
  have hl := pr_len d r
  rw [cw_congr (h' := isP (pr d r)) (d := d) d [] c (by simp) (fun x hx => by
    unfold isR isP
    by_cases e : rnkOf x = r
    · rw [if_pos e, if_pos ((rnkOf_iff h1 h5 hx hr).1 e)]
    · rw [if_neg e, if_neg (fun h => e ((rnkOf_iff h1 h5 hx hr).2 h))])]
  have hb := (blk_le9 hp).1
  rw [cw_part (B := (blk (pr d r)).toNat) (by omega) (chk_ok hp).2.2.2 d [] c (by simp [hl]) (by rfl) (fun v hv => by cases hv)]
  show 1 * chS c (szs (pr d r) 0 ((blk (pr d r)).toNat - 0)) [] = _
  rw [Int.one_mul, Nat.sub_zero, ← sizes_szs hp, ← waysOf_ref hp]
  refine (chanceR_chS c hc _ _ _ (fun s hs => by have := sizes_pos _ hp s hs; omega) (by simp) (fun k hk => ?_)).symm
  rw [List.getD_eq_getElem?_getD, List.getElem?_replicate, if_pos hk]; simp

/-- the numbers of all partitions are together all ways -/
theorem sum_ways {c : List Int} {d : Nat} (h1 : 1 ≤ d) (h5 : d ≤ 5) (hc : ∀ x ∈ c, 0 ≤ x) : sS (countR d).toNat (fun r => waysOf c (pr d r)) = fallN (sumI c) d := by
  rw [sS_congr (g := fun r => cw (isR r) d [] c) (fun r hr => (cw_ways h1 h5 (by omega) hc).symm), ← cw_sm, ← cw_one d [] c]
  refine cw_congr (d := d) d [] c (by simp) fun x hx => ?_
  rw [sS_one (j := rnkOf x) (rnkOf_lt h1 h5 hx) (fun k _ hk => by unfold isR; rw [if_neg (fun e => hk e.symm)])]
  unfold isR; rw [if_pos rfl]

/-! ### Counted one by one -/
def bump (o : List Int) (j : Nat) : List Int := o.set j (o.getD j 0 + 1)
def itN (f : List Int → List Int) : Nat → List Int → List Int
  | 0, o => o
  | i + 1, o => f (itN f i o)
def crsF : Nat → List Int → List Int → List Int → List Int
  | 0, crs, _, o => bump o (rnkOf crs)
  | r + 1, crs, left, o => (List.range left.length).foldl (fun (o : List Int) (k : Nat) => itN (crsF r (crs ++ [(k : Int)]) (left.set k (left.getD k 0 - 1))) (left.getD k 0).toNat o) o
def crsK (r : Nat) (crs left o : List Int) (k : Nat) : List Int := (List.range k).foldl (fun (o : List Int) (k : Nat) => itN (crsF r (crs ++ [(k : Int)]) (left.set k (left.getD k 0 - 1))) (left.getD k 0).toNat o) o
def crsI (r : Nat) (crs left o : List Int) (k i : Nat) : List Int := itN (crsF r (crs ++ [(k : Int)]) (left.set k (left.getD k 0 - 1))) i (crsK r crs left o k)
theorem crsF_succ (r : Nat) (crs left o : List Int) : crsF (r + 1) crs left o = crsK r crs left o left.length := rfl
theorem crsK_zero (r : Nat) (crs left o : List Int) : crsK r crs left o 0 = o := rfl
theorem crsK_succ (r : Nat) (crs left o : List Int) (k : Nat) : crsK r crs left o (k + 1) = crsI r crs left o k (left.getD k 0).toNat := foldl_range_succ _ _ _
theorem crsI_zero (r : Nat) (crs left o : List Int) (k : Nat) : crsI r crs left o k 0 = crsK r crs left o k := rfl
theorem crsI_succ (r : Nat) (crs left o : List Int) (k i : Nat) : crsI r crs left o k (i + 1) = crsF r (crs ++ [(k : Int)]) (left.set k (left.getD k 0 - 1)) (crsI r crs left o k i) := rfl

theorem bump_len (o : List Int) (j : Nat) : (bump o j).length = o.length := by unfold bump; rw [List.length_set]
theorem crsF_len (r : Nat) : ∀ crs left o : List Int, (crsF r crs left o).length = o.length := by
  induction r with
  | zero => intro crs left o; exact bump_len _ _
  | succ r ih =>
    intro crs left o
    have hi : ∀ f : List Int → List Int, (∀ o, (f o).length = o.length) → ∀ i o, (itN f i o).length = o.length := by
      intro f hf i
      induction i with
      | zero => intro o; rfl
      | succ i ihi => intro o; show (f (itN f i o)).length = _; rw [hf, ihi]
    have key : ∀ k, (crsK r crs left o k).length = o.length := by
      intro k
      induction k with
      | zero => rfl
      | succ k ihk => rw [crsK_succ]; unfold crsI; rw [hi _ (fun o => ih _ _ o), ihk]
    exact key _
theorem crsI_len (r : Nat) (crs left o : List Int) (k i : Nat) : (crsI r crs left o k i).length = o.length := by
  have hK : ∀ k, (crsK r crs left o k).length = o.length := by
    intro k
    induction k with
    | zero => rfl
    | succ k ihk =>
      rw [crsK_succ]
      have : ∀ i, (crsI r crs left o k i).length = o.length := by
        intro i
        induction i with
        | zero => rw [crsI_zero]; exact ihk
        | succ i ihi => rw [crsI_succ, crsF_len]; exact ihi
      exact this _
  induction i with
  | zero => rw [crsI_zero]; exact hK k
  | succ i ihi => rw [crsI_succ, crsF_len]; exact ihi
theorem crsF_get {j : Nat} (r : Nat) : ∀ crs left o : List Int, (∀ x ∈ left, 0 ≤ x) → j < o.length → (crsF r crs left o).getD j 0 = o.getD j 0 + cw (isR j) r crs left := by
  induction r with
  | zero =>
    intro crs left o _ hj
    show (bump o (rnkOf crs)).getD j 0 = o.getD j 0 + isR j crs
    unfold bump isR
    by_cases e : rnkOf crs = j
    · rw [e, getD_set_eq hj, if_pos rfl]
    · rw [getD_set_ne e, if_neg e]; omega
  | succ r ih =>
    intro crs left o hl hj
    show (crsK r crs left o left.length).getD j 0 = o.getD j 0 + sS left.length _
    have key : ∀ k, k ≤ left.length → (crsK r crs left o k).getD j 0 = o.getD j 0 + sS k fun k => left.getD k 0 * cw (isR j) r (crs ++ [(k : Int)]) (left.set k (left.getD k 0 - 1)) := by
      intro k
      induction k with
      | zero => intro _; rw [crsK_zero, sS_zero]; omega
      | succ k ihk =>
        intro hk
        have h0 := hl _ (getD_mem (l := left) (i := k) (by omega))
        have hi : ∀ i : Nat, (i : Int) ≤ left.getD k 0 → (crsI r crs left o k i).getD j 0 = (crsK r crs left o k).getD j 0 + i * cw (isR j) r (crs ++ [(k : Int)]) (left.set k (left.getD k 0 - 1)) := by
          intro i
          induction i with
          | zero => intro _; rw [crsI_zero]; simp
          | succ i ihi =>
            intro hi
            rw [crsI_succ, ih _ _ _ (fun x hx => by
              rcases List.mem_or_eq_of_mem_set hx with hx | rfl
              · exact hl x hx
              · omega) (by rw [crsI_len]; exact hj), ihi (by omega), Int.natCast_add, Int.add_mul]
            simp; omega
        rw [crsK_succ, hi _ (by omega), ihk (by omega), sS_succ, show (((left.getD k 0).toNat : Nat) : Int) = left.getD k 0 by omega]
        omega
    exact key _ (Nat.le_refl _)
theorem crs_all {c : List Int} {d : Nat} (h1 : 1 ≤ d) (h5 : d ≤ 5) (hc : ∀ x ∈ c, 0 ≤ x) : crsF d [] c (List.replicate (countR d).toNat 0) = shapesTo c d (countR d).toNat := by
  refine ext_getD (by rw [crsF_len, List.length_replicate]; simp [shapesTo]) fun i hi => ?_
  rw [crsF_len, List.length_replicate] at hi
  rw [crsF_get d _ _ _ hc (by rw [List.length_replicate]; exact hi), cw_ways h1 h5 (by omega) hc]
  have e1 : (List.replicate (countR d).toNat (0 : Int)).getD i 0 = 0 := by rw [List.getD_eq_getElem?_getD, List.getElem?_replicate, if_pos hi]; rfl
  have e2 : (shapesTo c d (countR d).toNat).getD i 0 = waysOf c (pr d i) := getD_of_get (by unfold shapesTo; rw [List.getElem?_map, List.getElem?_range hi]; rfl)
  rw [e1, e2, Int.zero_add]

/-! ### How great the numbers are -/
def BdO (M : Int) (o : List Int) : Prop := ∀ x ∈ o, 0 ≤ x ∧ x ≤ M
theorem BdO.mono {M N : Int} {o : List Int} (h : BdO M o) (hn : M ≤ N) : BdO N o := fun x hx => by have := h x hx; omega
theorem bump_bd {M : Int} {o : List Int} {j : Nat} (h0 : 0 ≤ M) (h : BdO M o) : BdO (M + 1) (bump o j) := by
  intro x hx
  unfold bump at hx
  rcases List.mem_or_eq_of_mem_set hx with hx | rfl
  · have := h x hx; omega
  · rw [List.getD_eq_getElem?_getD]
    cases e : o[j]? with
    | none => simp; omega
    | some v => have := h v (List.mem_of_getElem? e); simp; omega
theorem crs_bd (r : Nat) : ∀ (crs left o : List Int) (M : Int), 0 ≤ M → (∀ x ∈ left, 0 ≤ x) → sumI left ≤ 16 → BdO M o →
    BdO (M + 16 ^ r) (crsF r crs left o) ∧ ∀ k i : Nat, r ≠ 0 → k ≤ left.length → (i : Int) ≤ left.getD k 0 → BdO (M + (sumI (left.take k) + i) * 16 ^ (r - 1)) (crsI (r - 1) crs left o k i) := by
  induction r with
  | zero =>
    intro crs left o M h0 _ _ h
    exact ⟨by rw [show (16 : Int) ^ 0 = 1 by rfl]; exact bump_bd h0 h, fun k i h => absurd rfl h⟩
  | succ r ih =>
    intro crs left o M h0 hl hs h
    have hp : (0 : Int) ≤ 16 ^ r := Int.pow_nonneg (by decide)
    have hst : ∀ k, 0 ≤ sumI (left.take k) := fun k => by
      rw [← sS_sumI]
      exact sS_nonneg (fun j hj => hl _ (List.mem_of_mem_take (getD_mem hj)))
    have hi : ∀ k, k ≤ left.length → BdO (M + sumI (left.take k) * 16 ^ r) (crsK r crs left o k) → ∀ i : Nat, (i : Int) ≤ left.getD k 0 → BdO (M + (sumI (left.take k) + i) * 16 ^ r) (crsI r crs left o k i) := by
      intro k hk hK i
      induction i with
      | zero => intro _; rw [crsI_zero]; simpa using hK
      | succ i ihi =>
        intro hi
        have hkl : k < left.length := by
          rcases Nat.lt_or_ge k left.length with h | h
          · exact h
          · rw [List.getD_eq_getElem?_getD, List.getElem?_eq_none (by omega)] at hi; simp at hi; omega
        have h0' : 0 ≤ (sumI (left.take k) + i) * 16 ^ r := Int.mul_nonneg (by have := hst k; omega) hp
        have h2 := (ih (crs ++ [(k : Int)]) (left.set k (left.getD k 0 - 1)) (crsI r crs left o k i) (M + (sumI (left.take k) + i) * 16 ^ r) (by omega) (fun x hx => by
          rcases List.mem_or_eq_of_mem_set hx with hx | rfl
          · exact hl x hx
          · omega) (by rw [sumI_set hkl]; omega) (ihi (by omega))).1
        rw [crsI_succ]
        refine h2.mono ?_
        have e : (sumI (left.take k) + ((i + 1 : Nat) : Int)) * 16 ^ r = (sumI (left.take k) + i) * 16 ^ r + 16 ^ r := by
          rw [show sumI (left.take k) + ((i + 1 : Nat) : Int) = (sumI (left.take k) + i) + 1 by omega, Int.add_mul, Int.one_mul]
        omega
    have key : ∀ k, k ≤ left.length → BdO (M + sumI (left.take k) * 16 ^ r) (crsK r crs left o k) := by
      intro k
      induction k with
      | zero => intro _; rw [crsK_zero]; simpa using h
      | succ k ihk =>
        intro hk
        have hx := hl _ (getD_mem (l := left) (i := k) (by omega))
        have h3 := hi k (by omega) (ihk (by omega)) (left.getD k 0).toNat (by omega)
        rw [crsK_succ]
        rwa [take_of_get (get_getD (l := left) (i := k) (by omega)), sumI_snoc, show left.getD k 0 = (((left.getD k 0).toNat : Nat) : Int) by omega] at *
    refine ⟨?_, fun k i _ hk hi' => hi k hk (key k hk) i hi'⟩
    refine (key _ (Nat.le_refl _)).mono ?_
    rw [List.take_length, Int.pow_succ, Int.mul_comm (16 ^ r) 16]
    have := Int.mul_le_mul_of_nonneg_right hs hp
    omega
end Go.Proofs.Ytcmacejpoihhlaa

namespace Go.Proofs.Ytcmacejpoihhlaa
open Go.RowKit

/-- a copy, nil of nil -/
def Cloned (n : Nat) (l : List Int) (w : World) (e : Ending) (w' : World) : Prop := ∃ B d, e = .returned (.slice B n d) ∧ OwnI w' w.heap.size 3 B n d l ∧ Below w.heap.size w w' ∧ (n = 0 ∨ ∃ g, B = some ⟨g, 0, none⟩)
set_option maxHeartbeats 400000 in
theorem clone2_any (A : Option Addr) (n c : Nat) (l : List Int) (w : World) (h : RdI w A n l) (hn : n ≤ 1000) : Calls Try.prog 99 #[.slice A n c] w (Cloned n l w) := by
  cases A with
  | some a =>
    have hl := h.len
    refine (clone_any (some a) n c l w h hn rfl).mono ?_
    rintro e w' ⟨B, d, rfl, ho, hb⟩
    rw [hl] at ho ⊢
    refine ⟨B, d, rfl, ho, hb, ?_⟩
    rcases Nat.eq_zero_or_pos n with h0 | h0
    · exact .inl h0
    · obtain ⟨g, e, _, _⟩ := ho.form h0
      exact .inr ⟨g, e⟩
  | none =>
    have hn0 : n = 0 := by
      rcases Nat.eq_zero_or_pos n with h0 | h0
      · exact h0
      · obtain ⟨ad, e, _⟩ := h.1.2.2 h0; cases e
    subst hn0
    have hl : l = [] := List.eq_nil_of_length_eq_zero (by have := h.len; omega)
    subst hl
    have q : ∀ (w : World) (a : Option Addr) (n c n' c' : Nat), (binOp .eql 22 (.slice a n c) (.slice none n' c')).run Try.prog w = .ok (.bool a.isNone) w := fun w a n c n' c' => Lib.run_eql_slice_nil w _ _ a n c n' c' Try.underlying22
    go_enter Try.func99, Try.ntmps99
    go_wp2
    go_ret
    exact ⟨none, 0, rfl, OwnI.nil_ _ _ _, Below.refl _ _, .inl rfl⟩

def faV (b3 b5 b6 b7 b12 : Nat) : Value := .func (.func 98) #[] #[.pointer (some ⟨b3, 0, none⟩), .pointer (some ⟨b5, 0, none⟩), .pointer (some ⟨b6, 0, none⟩), .pointer (some ⟨b7, 0, none⟩), .pointer (some ⟨b12, 0, none⟩)]
/-- the boxes of Fairest: limits, draw, counts, ways, try; what they hold -/
structure FaS (b3 b5 b6 b7 b12 base : Nat) (A : Option Addr) (n c : Nat) (l : List Int) (d : Nat) (s : List Int × Int) (W : World) : Prop where
  x3 : Blk W b3 22 #[.slice A n c]
  x5 : Blk W b5 3 #[.int .i64 d]
  x6 : ∃ (Ac : Option Addr) (cc : Nat), Blk W b6 22 #[.slice Ac s.1.length cc] ∧ OwnI W base 3 Ac s.1.length cc s.1 ∧ (Ac = none ↔ s.1 = [])
  x7 : Blk W b7 3 #[.int .i64 s.2]
  x12 : Blk W b12 104 #[faV b3 b5 b6 b7 b12]
  rd : RdI W A n l
  ne : ∀ b, A.map (·.block) = some b → b ≠ b6 ∧ b ≠ b7
  lt : b3 < base ∧ b5 < base ∧ b6 < base ∧ b7 < base ∧ b12 < base ∧ base ≤ W.heap.size
  df : b3 ≠ b6 ∧ b3 ≠ b7 ∧ b5 ≠ b6 ∧ b5 ≠ b7 ∧ b6 ≠ b7 ∧ b12 ≠ b6 ∧ b12 ≠ b7
/-- all but the boxes of counts and ways is as it was -/
structure FaK (b6 b7 : Nat) (W W' : World) : Prop where
  os : W'.os = W.os
  tape : W'.tape = W.tape
  output : W'.output = W.output
  size : W.heap.size ≤ W'.heap.size
  block : ∀ k, k < W.heap.size → k ≠ b6 → k ≠ b7 → W'.heap[k]? = W.heap[k]?
theorem FaK.refl (b6 b7 : Nat) (W : World) : FaK b6 b7 W W := ⟨rfl, rfl, rfl, Nat.le_refl _, fun _ _ _ _ => rfl⟩
theorem FaK.trans {b6 b7 : Nat} {a b c : World} (h : FaK b6 b7 a b) (k : FaK b6 b7 b c) : FaK b6 b7 a c :=
  ⟨k.os.trans h.os, k.tape.trans h.tape, k.output.trans h.output, Nat.le_trans h.size k.size, fun i hi h1 h2 => (k.block i (Nat.lt_of_lt_of_le hi h.size) h1 h2).trans (h.block i hi h1 h2)⟩
theorem FaK.of_below {b6 b7 : Nat} {a b : World} (h : Below a.heap.size a b) : FaK b6 b7 a b := ⟨h.os, h.tape, h.output, h.size, fun k hk _ _ => h.block k hk⟩
theorem FaK.rd {b6 b7 : Nat} {W W' : World} {N : Option Addr} {k : Nat} {l : List Int} (h : FaK b6 b7 W W') (hr : RdI W N k l) (hn : ∀ b, N.map (·.block) = some b → b ≠ b6 ∧ b ≠ b7) : RdI W' N k l :=
  ⟨hr.1.keep h.size (fun p hp hA => World.cell?_of_block (h.block p.block hp (hn _ hA).1 (hn _ hA).2)), hr.2⟩
theorem FaS.below {b3 b5 b6 b7 b12 base : Nat} {A : Option Addr} {n c : Nat} {l : List Int} {d : Nat} {s : List Int × Int} {W W' : World} (h : FaS b3 b5 b6 b7 b12 base A n c l d s W) (hb : Below W.heap.size W W') : FaS b3 b5 b6 b7 b12 base A n c l d s W' := by
  obtain ⟨Ac, cc, h1, h2, h3⟩ := h.x6
  exact ⟨h.x3.below hb, h.x5.below hb, ⟨Ac, cc, h1.below hb, h2.below hb, h3⟩, h.x7.below hb, h.x12.below hb, h.rd.below hb, h.ne, by have := h.lt; have := hb.size; omega, h.df⟩
theorem FaS.put {b3 b5 b6 b7 b12 base : Nat} {A : Option Addr} {n c : Nat} {l : List Int} {d : Nat} {s : List Int × Int} {W : World} (h : FaS b3 b5 b6 b7 b12 base A n c l d s W) {g k cc : Nat} {now : List Int} {x : Int} (ho : OwnI W base 3 (some ⟨g, 0, none⟩) k cc now) (hk : 0 < k) :
    FaS b3 b5 b6 b7 b12 base A n c l d (now, x) ((W.setCell ⟨b6, 0, none⟩ (.slice (some ⟨g, 0, none⟩) k cc)).setCell ⟨b7, 0, none⟩ (.int .i64 x)) := by
  obtain ⟨Ac, cc', h1, h2, h3⟩ := h.x6
  obtain ⟨d1, d2, d3, d4, d5, d6, d7⟩ := h.df
  have hlt := h.lt
  have hg := (ho.1.block (k := g) rfl).1
  have hkl := ho.len
  refine ⟨(h.x3.far (p := ⟨b6, 0, none⟩) d1 _).far (p := ⟨b7, 0, none⟩) d2 _, (h.x5.far (p := ⟨b6, 0, none⟩) d3 _).far (p := ⟨b7, 0, none⟩) d4 _, ⟨some ⟨g, 0, none⟩, cc, ?_, ?_, ?_⟩,
    (h.x7.far (p := ⟨b6, 0, none⟩) (fun e => d5 e.symm) _).set_ 0 _, (h.x12.far (p := ⟨b6, 0, none⟩) d6 _).far (p := ⟨b7, 0, none⟩) d7 _,
    (h.rd.setCell (p := ⟨b6, 0, none⟩) (fun e => (h.ne _ e).1 rfl) _).setCell (p := ⟨b7, 0, none⟩) (fun e => (h.ne _ e).2 rfl) _, h.ne, by simp [World.setCell]; omega, h.df⟩
  · show Blk _ b6 _ #[.slice (some ⟨g, 0, none⟩) now.length cc]
    rw [hkl]
    exact (h1.set_ 0 _).far (p := ⟨b7, 0, none⟩) d5 _
  · show OwnI _ base _ _ now.length cc now
    rw [hkl]
    exact (ho.far (p := ⟨b6, 0, none⟩) (fun e => by have h9 : g = b6 := (by injection e); omega) _).far (p := ⟨b7, 0, none⟩) (fun e => by have h9 : g = b7 := (by injection e); omega) _
  · refine ⟨(fun e => by cases e), fun e => ?_⟩
    have h9 : now = [] := e
    rw [h9] at hkl; simp at hkl; omega
theorem FaK.put {b6 b7 : Nat} {W W' : World} (h : FaK b6 b7 W W') (u v : Value) : FaK b6 b7 W ((W'.setCell ⟨b6, 0, none⟩ u).setCell ⟨b7, 0, none⟩ v) :=
  ⟨h.os, h.tape, h.output, by simp [World.setCell]; exact h.size, fun k hk h1 h2 => (Below.heap_setCell _ _ _ _ (by simpa using h2)).trans ((Below.heap_setCell _ _ _ _ (by simpa using h1)).trans (h.block k hk h1 h2))⟩

/-- 'append(s, x...)', both of numbers, in a region that draws its order. -/
theorem step_appI (w : World) {ops : Array Oper} {o : Oper} {a : Act} {K : Act → World → Prop} {Q : Exit → Act → World → Prop} {E : Prop} (hgd : o.guard = none) (s x : Operand)
    (ho : o.op = .call { callee := .builtin .append, args := #[s, x], argTypes := #[22, 22] })
    {base n c m d : Nat} {A B : Option Addr} {l r : List Int} (hs : a.eval s = .slice A n c) (hx : a.eval x = .slice B m d) (hown : OwnI w base 3 A n c l) (hr : RdI w B m r) (hnm : n + m ≤ 1000000) (hbase : base ≤ w.heap.size)
    (h : ∀ A' c' w', Apped w w' base A A' (n + m) c' (l ++ r) → K (a.put o.dst (.slice A' (n + m) c')) w') :
    if Region.wanted o (yielded ops a.tmps) = true then Oper.wp Try.prog o a w K Q else E := by
  obtain ⟨i0, hi0, hz0, hz1, hz2⟩ := info_parts intInfo
  refine step_app w hgd s x 22 ho base 3 i0 _ 8 Try.underlying22 hi0 hz0 hz1 hz2 rfl (by decide) A n c (ints l) hs hown.1 B m d (ints r) hx hr.1 (ints_oneCell' _) hnm hbase ?_
  intro A' c' w' h1 h2 h3
  refine h A' c' w' ⟨⟨by rw [ints_append]; exact h1, ?_⟩, h2, (fun k hk => by rcases h3 with e | e <;> rw [e] at hk; exact .inl hk; simp at hk; exact .inr (by omega)), below_app hown.1 h2 hbase⟩
  intro v hv
  rcases List.mem_append.1 hv with hv | hv
  · exact hown.2 v hv
  · exact hr.2 v hv

set_option maxHeartbeats 2000000 in
set_option maxRecDepth 100000 in
theorem fairRec_any (b3 b5 b6 b7 b12 base : Nat) (A : Option Addr) (n c : Nat) (l : List Int) (d : Nat) (all : Int) (hl : ∀ x ∈ l, 1 ≤ x ∧ x ≤ 9) (hn1 : 1 ≤ n) (hn6 : n ≤ 6) (hd1 : 1 ≤ d) (hd6 : d ≤ 6) (hda : (d : Int) ≤ all) (ha12 : all ≤ 12) :
    ∀ (ls now : List Int) (rest : Int) (s : List Int × Int) (N : Option Addr) (k c' : Nat) (W : World), l.drop now.length = ls → FaS b3 b5 b6 b7 b12 base A n c l d s W → RdI W N k now → (∀ b, N.map (·.block) = some b → base ≤ b) → Now l now rest all →
    Calls Try.prog 98 #[.slice N k c', .int .i64 rest, .pointer (some ⟨b3, 0, none⟩), .pointer (some ⟨b5, 0, none⟩), .pointer (some ⟨b6, 0, none⟩), .pointer (some ⟨b7, 0, none⟩), .pointer (some ⟨b12, 0, none⟩)] W
      fun e W' => e = .returned (.tuple #[]) ∧ FaS b3 b5 b6 b7 b12 base A n c l d (tryF d ls now rest s) W' ∧ FaK b6 b7 W W' := by
  intro ls
  induction ls with
  | nil =>
    intro now rest s N k c' W hdr hfs hrn hN hnow
    have hln := hfs.rd.len
    have hkl := hrn.len
    have hkn : k = n := by
      have h1 := hnow.len
      have h2 : l.length ≤ now.length := by rw [← List.drop_eq_nil_iff]; exact hdr
      omega
    subst hkn
    have HFS := Lib.hid hfs
    have HRN := Lib.hid hrn
    have HNW := Lib.hid hnow
    have c3 : W.cell? ⟨b3, 0, none⟩ = some (.slice A k c) := by rw [hfs.x3.cell]; rfl
    have c5 : W.cell? ⟨b5, 0, none⟩ = some (.int .i64 d) := by rw [hfs.x5.cell]; rfl
    have HLK := Lib.hid hkl
    have HLL := Lib.hid hln
    have hr0 := hnow.nn
    clear hfs hrn hnow hdr hkl hln
    by_cases hrest : 0 < rest
    · have HV : Hid (tryF d [] now rest s = s) := Lib.hid (by unfold tryF; rw [if_pos hrest])
      go_enter Try.func98, Try.ntmps98
      go_wp2
      refine bodyPost_ret (results_none rfl _ _ _) rfl ?_
      exact ⟨rfl, by rw [HV.out]; exact HFS.out, FaK.refl _ _ _⟩
    · have hrest0 : rest = 0 := by omega
      subst hrest0
      have HV : Hid (tryF d [] now 0 s = fairStep d s now) := Lib.hid (by unfold tryF; rw [if_neg (by omega)])
      have HZ := Lib.hid (HNW.out.shaped (by rw [HLK.out]; exact hn1) (by rw [HLL.out]; exact hn6) hd1 hd6 hda)
      have q : ∀ (w : World) (a : Option Addr) (n c n' c' : Nat), (binOp .eql 22 (.slice a n c) (.slice none n' c')).run Try.prog w = .ok (.bool a.isNone) w := fun w a n c n' c' => Lib.run_eql_slice_nil w _ _ a n c n' c' Try.underlying22
      clear hrest
      go_enter Try.func98, Try.ntmps98
      go_wp2_with fail
      refine (guessD_any N k c' now d W HRN.out HZ.out).mono ?_; rintro e w2 ⟨A2, c2, rfl, _, hb2⟩
      have HFS2 := Lib.hid (HFS.out.below hb2)
      have HRN2 := Lib.hid (HRN.out.below hb2)
      have HK2 := Lib.hid (FaK.of_below (b6 := b6) (b7 := b7) hb2)
      rw [show (bestTo now d (countR d).toNat).2 = mostW now d from rfl]
      obtain ⟨x, hx⟩ : ∃ x, mostW now d = x := ⟨_, rfl⟩
      rw [hx]
      have HX := Lib.hid hx
      obtain ⟨Ac, cc, x6, o6, n6⟩ := HFS2.out.x6
      have c6 : w2.cell? ⟨b6, 0, none⟩ = some (.slice Ac s.1.length cc) := by rw [x6.cell]; rfl
      have c7 : w2.cell? ⟨b7, 0, none⟩ = some (.int .i64 s.2) := by rw [HFS2.out.x7.cell]; rfl
      have f6 := x6.frozen 0
      have f7 := HFS2.out.x7.frozen 0
      have HN6 := Lib.hid n6
      clear hb2 hx c3 c5 x6 o6 n6
      generalize bestTo now d (countR d).toNat = bb
      obtain ⟨yn, hyn⟩ : ∃ yn, Ac.isNone = yn := ⟨_, rfl⟩
      have HYN := Lib.hid hyn
      by_cases hput : yn = true ∨ x < s.2
      · have HV2 : Hid (fairStep d s now = (now, x)) := Lib.hid (by
          unfold fairStep
          rw [HX.out, if_pos]
          rcases hput with h1 | h1
          · left; refine HN6.out.1 ?_
            have := HYN.out; rw [h1] at this; simpa using this
          · exact .inr h1)
        have hcase : yn = true ∨ (yn = false ∧ x < s.2) := by cases yn <;> simp_all
        have HCL : Hid (∀ W', RdI W' N k now → Calls Try.prog 99 #[.slice N k c'] W' (Cloned k now W')) := Lib.hid (fun W' h => clone2_any N k c' now W' h (by omega))
        clear hput
        rcases hcase with h1 | ⟨h1, h2⟩
        all_goals
          rw [h1] at hyn
          go_wp2_with fail
          refine (HCL.out w2 HRN2.out).mono ?_; rintro e w3 ⟨B, db, rfl, hob, hb3, hBg⟩
          obtain ⟨g, rfl⟩ : ∃ g, B = some ⟨g, 0, none⟩ := by
            rcases hBg with h9 | h9
            · omega
            · exact h9
          have hlt := HFS2.out.lt
          have HFS3 := Lib.hid (HFS2.out.below hb3)
          have HK3 := Lib.hid (HK2.out.trans (FaK.of_below hb3))
          have HOB := Lib.hid (hob.mono hlt.2.2.2.2.2)
          have e6 := (hb3.cell (p := ⟨b6, 0, none⟩) (by show b6 < _; omega)).trans c6
          have e7 := (hb3.cell (p := ⟨b7, 0, none⟩) (by show b7 < _; omega)).trans c7
          have g6 := (hb3.frozen (p := ⟨b6, 0, none⟩) (by show b6 < _; omega)).trans f6
          have g7 := (hb3.frozen (p := ⟨b7, 0, none⟩) (by show b7 < _; omega)).trans f7
          have hne67 : b6 ≠ b7 := HFS2.out.df.2.2.2.2.1
          clear hob hb3 hBg c6 c7 f6 f7 hlt
          go_wp2
          refine bodyPost_ret (results_none rfl _ _ _) rfl ?_
          exact ⟨rfl, by rw [HV.out, HV2.out]; exact HFS3.out.put HOB.out hn1, HK3.out.put _ _⟩
      · have hyf : yn = false := by cases yn <;> simp_all
        have hxs : s.2 ≤ x := by
          by_cases h1 : x < s.2
          · exact absurd (.inr h1) hput
          · omega
        have HV2 : Hid (fairStep d s now = s) := Lib.hid (by
          unfold fairStep
          rw [HX.out, if_neg]
          rintro (h1 | h1)
          · have := HN6.out.2 h1
            have h3 := HYN.out
            rw [this, hyf] at h3; cases h3
          · omega)
        rw [hyf] at hyn
        clear hput hyf
        go_wp2
        refine bodyPost_ret (results_none rfl _ _ _) rfl ?_
        exact ⟨rfl, by rw [HV.out, HV2.out]; exact HFS2.out, HK2.out⟩
  | cons x xs ih =>
    intro now rest s N k c' W hdr hfs hrn hN hnow
    have hln := hfs.rd.len
    have hkl := hrn.len
    have hkn : k < n := by
      by_cases h : now.length < l.length
      · omega
      · rw [List.drop_eq_nil_of_le (by omega)] at hdr; cases hdr
    have hxg : l[k]? = some x := by
      have h1 := congrArg (·[0]?) hdr
      simp at h1
      rw [← hkl]; exact h1
    have hdr2 : l.drop (now.length + 1) = xs := by
      have h1 := congrArg List.tail hdr
      simpa using h1
    obtain ⟨ad, x', rfl, hadl, hxx, _, hxc⟩ := hfs.rd.at_ hkn
    obtain rfl : x' = x := by have := hxx.out; rw [hxg] at this; injection this with this; exact this.symm
    have hx9 := hl _ (List.mem_of_getElem? hxg)
    have hr0 := hnow.nn
    have hr12 : rest ≤ 12 := by
      have h1 := hnow.sum
      have h2 := sumI_nonneg now (fun v hv => by have := hnow.pos v hv; omega)
      omega
    obtain ⟨rn, rfl⟩ : ∃ rn : Nat, rest = rn := ⟨rest.toNat, by omega⟩
    obtain ⟨xn, rfl⟩ : ∃ xn : Nat, x' = xn := ⟨x'.toNat, by omega⟩
    obtain ⟨m, hm⟩ : ∃ m : Nat, (min (rn : Int) xn).toNat = m := ⟨_, rfl⟩
    have hmm : m ≤ rn ∧ m ≤ xn ∧ (m = rn ∨ m = xn) := by omega
    have HTF : Hid (tryF d ((xn : Int) :: xs) now rn s = tryTo d xs now rn s m) := Lib.hid (by rw [tryF_cons, hm])
    have HSTEP : Hid (∀ q : Nat, q < m → Now l (now ++ [(q : Int) + 1]) ((rn : Int) - ((q : Int) + 1)) all) := Lib.hid (fun q hq => hnow.step hl (by omega) (by omega) (by rw [hkl, getD_of_get hxg]; omega))
    have HFS := Lib.hid hfs
    have HRN := Lib.hid hrn
    have HN := Lib.hid (show ∀ b, N.map (·.block) = some b → b ≠ b6 ∧ b ≠ b7 from fun b e => by have h1 := hN b e; have := hfs.lt; omega)
    have HLK := Lib.hid hkl
    have HD2 := Lib.hid hdr2
    have IH := Lib.hid ih
    have hlt := hfs.lt
    have hdf := hfs.df
    have HAD := Lib.hid (hfs.ne ad.block rfl)
    have hkI : (k : Int) < n := by omega
    have gkn : ((k : Int) == n) = false := by simp; omega
    have hxc0 := hxc
    have HL9 := Lib.hid hl
    clear hfs hrn hnow hdr hkl hln hxg hdr2 hxx ih hm hxc hN hl
    have hml : m ≤ 12 := by omega
    go_enter Try.func98, Try.ntmps98
    have c3 : W.cell? ⟨b3, 0, none⟩ = some (.slice (some ad) n c) := by rw [HFS.out.x3.cell]; rfl
    go_wp2_with fail
    go_loopw [11] (fun i wr => ∃ q : Nat, q ≤ m ∧ i = .int .i64 ((q : Int) + 1) ∧ FaS b3 b5 b6 b7 b12 base (some ad) n c l d (tryTo d xs now rn s q) wr ∧ FaK b6 b7 W wr) (fun i _ => m + 1 - (intOf i).toNat)
    case atStart => exact ⟨0, by omega, rfl, HFS.out, FaK.refl _ _ _⟩
    case round =>
      obtain ⟨q, hq, rfl, hfs, hfk⟩ := hrel
      have HFQ := Lib.hid hfs
      have HKQ := Lib.hid hfk
      have HRQ := Lib.hid (hfk.rd HRN.out HN.out)
      have e3 : wr.cell? ⟨b3, 0, none⟩ = some (.slice (some ad) n c) := by rw [hfs.x3.cell]; rfl
      have e12 : wr.cell? ⟨b12, 0, none⟩ = some (faV b3 b5 b6 b7 b12) := by rw [hfs.x12.cell]; rfl
      have ex : wr.cell? (ad.add k) = some (.int .i64 xn) := by
        have h1 := hfk.block (ad.add k).block (by rw [block_of_add]; exact hadl) (by rw [block_of_add]; exact HAD.out.1) (by rw [block_of_add]; exact HAD.out.2)
        exact (World.cell?_of_block h1).trans hxc0
      have hszq := hfs.lt.2.2.2.2.2
      clear hfs hfk c3
      by_cases hqm : q < m
      · have hc1 : (q : Int) + 1 ≤ rn := by omega
        have hc2 : (q : Int) + 1 ≤ xn := by omega
        have hcm : (q : Int) + 1 ≤ min (rn : Int) xn := by omega
        have HCL : Hid (∀ W', RdI W' N k now → Calls Try.prog 99 #[.slice N k c'] W' (Cloned k now W')) := Lib.hid (fun W' h => clone2_any N k c' now W' h (by omega))
        have HE : Hid (∀ Wx, FaS b3 b5 b6 b7 b12 base (some ad) n c l d (tryTo d xs now rn s q) Wx → Wx.cell? ⟨b12, 0, none⟩ = some (.func (.func 98) #[] #[.pointer (some ⟨b3, 0, none⟩), .pointer (some ⟨b5, 0, none⟩), .pointer (some ⟨b6, 0, none⟩), .pointer (some ⟨b7, 0, none⟩), .pointer (some ⟨b12, 0, none⟩)])) := Lib.hid (fun Wx h => by rw [h.x12.cell]; rfl)
        have HI64 : Hid (I64 ((q : Int) + 1)) := Lib.hid (I64.small (by omega))
        have hk7 : k + 1 ≤ 1000000 := by omega
        unfold faV at e12
        have hwr : IntKind.i64.wrap ((rn : Int) - ((q : Int) + 1)) = (rn : Int) - ((q : Int) + 1) := IntWalk.i64_in _ (by omega)
        have HBA := Lib.hid ((Below.refl wr.heap.size wr).alloc (Nat.le_refl _) (.cells #[.int .i64 ((q : Int) + 1)] 3))
        have HBD := Lib.hid ((Below.refl wr.heap.size wr).drew)
        go_upto_region 8 with fail
        go_region_held3 (fun w' => w'.cell? ⟨b12, 0, none⟩ = some (.func (.func 98) #[] #[.pointer (some ⟨b3, 0, none⟩), .pointer (some ⟨b5, 0, none⟩), .pointer (some ⟨b6, 0, none⟩), .pointer (some ⟨b7, 0, none⟩), .pointer (some ⟨b12, 0, none⟩)])) (first | exact e12 | exact HE.out _ (HFQ.out.below HBA.out) | exact HE.out _ ((HFQ.out.below HBA.out).below ((Below.refl _ _).drew)) | exact HE.out _ (HFQ.out.below HB4.out) | exact HE.out _ (HFQ.out.below (HB4.out.alloc HB4.out.size _)) | exact HE.out _ (HFQ.out.below HB5.out) | exact (by rw [hf6.x12.cell]; rfl) | exact e12) (first
          | (go_at_call 99; ((with_reducible refine (HCL.out wr.drew HRQ.out.drew).mono ?_); rintro e w4 ⟨B, db, rfl, hob, hb4, _⟩; have HB4 := Lib.hid (HBD.out.trans hb4); have HOB := Lib.hid hob))
          | (go_at_call 99; ((with_reducible refine (HCL.out (wr.alloc (.cells #[.int .i64 ((q : Int) + 1)] 3)).drew (HRQ.out.alloc _).drew).mono ?_); rintro e w4 ⟨B, db, rfl, hob, hb4, _⟩; have HB4 := Lib.hid (HBA.out.trans ((Below.refl _ _).drew.trans hb4 |>.mono (Nat.le_of_lt (by simp)))); have HV4 := Lib.hid ((RdI.one wr 3 ((q : Int) + 1) HI64.out).drew.below hb4); have HOB := Lib.hid (hob.mono (base' := wr.heap.size) (by simp))))
          | (refine step_appI w4 (by rfl) (.tmp 48) (.tmp 50) (by rfl) (by rfl) (by rfl) HOB.out HV4.out hk7 HB4.out.size ?_; intro A5 c5 w5 kk; have HB5 := Lib.hid (HB4.out.trans kk.below); have HO5 := Lib.hid kk.own)
          | (refine step_appI (w4.alloc (.cells #[.int .i64 ((q : Int) + 1)] 3)) (by rfl) (.tmp 48) (.tmp 50) (by rfl) (by rfl) (by rfl) (HOB.out.alloc _) (RdI.one w4 3 ((q : Int) + 1) HI64.out) hk7 (HB4.out.alloc HB4.out.size _).size ?_; intro A5 c5 w5 kk; have HB5 := Lib.hid ((HB4.out.alloc HB4.out.size (.cells #[.int .i64 ((q : Int) + 1)] 3)).trans kk.below); have HO5 := Lib.hid kk.own)
          | (go_at_call 98; refine (IH.out (now ++ [(q : Int) + 1]) ((rn : Int) - ((q : Int) + 1)) (tryTo d xs now rn s q) A5 (k + 1) c5 w5 (by rw [List.length_append]; exact HD2.out) (HFQ.out.below HB5.out) HO5.out.rd (fun b e => Nat.le_trans hszq (HO5.out.1.block e).1) (HSTEP.out q hqm)).mono ?_; rintro e w6 ⟨rfl, hf6, hk6⟩))
        all_goals
          go_wp2
          go_roundw
          case rel => exact ⟨q + 1, by omega, by push_cast; rfl, (by rw [tryTo_succ]; exact hf6), HKQ.out.trans ((FaK.of_below HB5.out).trans hk6)⟩
          case measure => simp only [intOf]; omega
      · have hqe : q = m := by omega
        subst hqe
        have hcm : ¬((q : Int) + 1 ≤ min (rn : Int) xn) := by omega
        have hcc : (rn : Int) < (q : Int) + 1 ∨ (xn : Int) < (q : Int) + 1 := by omega
        obtain ⟨mm, hmn⟩ : ∃ mm : Int, min (rn : Int) xn = mm := ⟨_, rfl⟩
        have hmm2 : ¬((q : Int) + 1 ≤ mm) := by omega
        clear hcm hcc
        go_wp2
        go_end0
        exact ⟨rfl, by rw [HTF.out]; exact HFQ.out, HKQ.out⟩
end Go.Proofs.Ytcmacejpoihhlaa

namespace Go.Proofs.Ytcmacejpoihhlaa
open Go.RowKit

theorem OwnI.capC {w : World} {base n c : Nat} {e : TypeId} {A : Option Addr} {l : List Int} (h : OwnI w base e A n c l) : n ≤ c := by
  rcases h.1.1.2 with ⟨h1, h2⟩ | ⟨g, cap, cur, h1, _, _, hnc, _⟩
  · injection h1 with h1 h3 h4; omega
  · injection h1 with h1 h3 h4; omega
theorem RdI.setCell0 {w : World} {A : Option Addr} {n : Nat} {l : List Int} (h : RdI w A n l) {p : Addr} (hp : 0 < n → A.map (·.block) ≠ some p.block) (u : Value) : RdI (w.setCell p u) A n l := by
  rcases Nat.eq_zero_or_pos n with h0 | h0
  · subst h0
    obtain rfl : l = [] := List.eq_nil_of_length_eq_zero (by have := h.len; omega)
    exact RdI.nil_
  · exact h.setCell (hp h0) u
theorem RdI.belowB {w w' : World} {A : Option Addr} {n B : Nat} {l : List Int} (h : RdI w A n l) (hb : Below B w w') (hA : 0 < n → ∀ b, A.map (·.block) = some b → b < B) : RdI w' A n l := by
  rcases Nat.eq_zero_or_pos n with h0 | h0
  · subst h0
    obtain rfl : l = [] := List.eq_nil_of_length_eq_zero (by have := h.len; omega)
    exact RdI.nil_
  · exact ⟨h.1.keep hb.size fun p _ hp => World.cell?_of_block (hb.block p.block (hA h0 _ hp)), h.2⟩
theorem ofE_ok {l : List Int} (h1 : 1 ≤ l.length) (h9 : l.length ≤ 9) : ofE l = (ofL l, 0) := by unfold ofE; rw [if_neg (by omega), if_neg (by omega)]
theorem rankE_ok {l : List Int} (h : chk l = 0) : rankE l = (rnk l, 0) := by unfold rankE; rw [if_neg (by omega)]

set_option maxHeartbeats 4000000 in
set_option maxRecDepth 100000 in
theorem courses_any (d base gO no co : Nat) (h1 : 1 ≤ d) (h5 : d ≤ 5) (hno : no = (countR d).toNat) : ∀ (r : Nat) (crs left o : List Int) (A B : Option Addr) (m n c cb : Nat) (M : Int) (w : World),
    m + r = d → RdI w A m crs → (∀ b, A.map (·.block) = some b → b ≠ gO) → RdI w B n left → (∀ b, B.map (·.block) = some b → b ≠ gO) → n ≤ 4 → (∀ x ∈ left, 0 ≤ x ∧ x ≤ 4) → sumI left ≤ 16 →
    OwnI w base 3 (some ⟨gO, 0, none⟩) no co o → BdO M o → 0 ≤ M → M + 16 ^ r ≤ 1000000000000 →
    Calls Try.prog 46 #[.slice A m c, .slice B n cb, .int .i64 d, .slice (some ⟨gO, 0, none⟩) no co] w
      fun e w' => e = .returned (.tuple #[]) ∧ OwnI w' base 3 (some ⟨gO, 0, none⟩) no co (crsF r crs left o) ∧ w.grownBy w' (some gO) := by
  have HNO := Lib.hid hno
  clear hno
  intro r
  induction r with
  | zero =>
    intro crs left o A B m n c cb M w hm ha hA hb hB hn hl hs ho hbd hM hM2
    obtain rfl : m = d := by omega
    have hlen := ha.len
    have HOE := Lib.hid (ofE_ok (l := crs) (by omega) (by omega))
    have HRE := Lib.hid (rankE_ok (chk_ofL (l := crs) (by omega) (by omega)))
    have HOL := Lib.hid ((ofL_length crs).trans hlen)
    have hlt := rnkOf_lt h1 h5 hlen
    rw [← HNO.out] at hlt
    have hnn := (cover_at h1 h5 (chk_ofL (l := crs) (by omega) (by omega)) (by rw [ofL_length, hlen])).2.1
    obtain ⟨j, hj⟩ : ∃ j : Nat, rnk (ofL crs) = j := ⟨(rnk (ofL crs)).toNat, by omega⟩
    have hjr : rnkOf crs = j := by unfold rnkOf; rw [hj]; rfl
    rw [hjr] at hlt
    have HV : Hid (crsF 0 crs left o = bump o j) := Lib.hid (by show bump o (rnkOf crs) = _; rw [hjr])
    rw [hj] at HRE
    have hol := ho.len
    obtain ⟨x, hx⟩ : ∃ x, o[j]? = some x := ⟨_, get_getD (by omega)⟩
    have hx2 := hbd x (List.mem_of_getElem? hx)
    have HB1 : Hid (bump o j = o.set j (x + 1)) := Lib.hid (by unfold bump; rw [getD_of_get hx])
    have hxM : x + 1 ≤ 1000000000000 := by rw [show (16 : Int) ^ 0 = 1 from rfl] at hM2; omega
    have HA := Lib.hid ha
    have HO := Lib.hid ho
    have HX := Lib.hid hx
    have hgO := (ho.1.block (k := gO) rfl).2
    clear ha hb hA hB hl hs ho hbd hM hM2 hlen hj hjr hnn hol hx
    go_enter Try.func46, Try.ntmps46
    go_wp2_with fail
    refine (refOf_any A m c crs w HA.out).mono ?_; rintro e w2 ⟨A2, c2, rfl, h2, b2⟩
    rw [HOE.out] at h2 ⊢
    simp only at h2 ⊢
    rw [HOL.out] at h2 ⊢
    have hc2 := h2.capC
    have H2 := Lib.hid h2.rd
    have HO2 := Lib.hid (HO.out.below b2)
    have HB2 := Lib.hid b2
    clear h2 b2 HA HO HOE HOL
    go_wp2_with fail
    refine (refRank_any A2 m c2 (ofL crs) w2 H2.out hc2).mono ?_; rintro e w3 ⟨rfl, b3⟩
    rw [HRE.out]
    have HO3 := Lib.hid (HO2.out.below b3)
    have HB3 := Lib.hid (HB2.out.trans (b3.mono HB2.out.size))
    have k0 := HO3.out.cellAt HX.out
    have f0 := HO3.out.frozenAt j
    have hjI : (j : Int) < no := by omega
    have hx0 : 0 ≤ x := hx2.1
    clear b3 H2 HO2 HB2 hx2 HRE
    go_wp2
    refine bodyPost_ret (results_none rfl _ _ _) rfl ?_
    exact ⟨rfl, by rw [HV.out, HB1.out]; exact HO3.out.stored j (I64.small (by omega)), grown_trans (grown_of_below HB3.out _) (grown_set w3 gO j _)⟩
  | succ r ih =>
    intro crs left o A B m n c cb M w hm ha hA hb hB hn hl hs ho hbd hM hM2
    have hmd : m < d := by omega
    have g : ((m : Int) == d) = false := beq_false_of_ne (by omega)
    have HA := Lib.hid ha
    have HAN := Lib.hid hA
    have HB := Lib.hid hb
    have HBN := Lib.hid hB
    have HL := Lib.hid hl
    have HO := Lib.hid ho
    have HM2 := Lib.hid hM2
    have HLL := Lib.hid hb.len
    have HAL := Lib.hid ha.len
    have HBD : Hid (∀ k i : Nat, k ≤ n → (i : Int) ≤ left.getD k 0 → BdO (M + (sumI (left.take k) + i) * 16 ^ r) (crsI r crs left o k i)) := Lib.hid (fun k i hk hi => (crs_bd (r + 1) crs left o M hM (fun x hx => (hl x hx).1) hs hbd).2 k i (by omega) (by rw [HLL.out]; exact hk) hi)
    have HT : Hid (∀ k i : Nat, k < n → (i : Int) + 1 ≤ left.getD k 0 → 0 ≤ M + (sumI (left.take k) + i) * 16 ^ r ∧ M + (sumI (left.take k) + i) * 16 ^ r + 16 ^ r ≤ 1000000000000) := Lib.hid (fun k i hk hi => by
      have hp : (0 : Int) ≤ 16 ^ r := Int.pow_nonneg (by decide)
      have hst : 0 ≤ sumI (left.take k) := sumI_nonneg _ (fun v hv => (hl v (List.mem_of_mem_take hv)).1)
      have hsk : sumI (left.take k) + left.getD k 0 ≤ sumI left := by
        have e1 := sumI_append (left.take (k + 1)) (left.drop (k + 1))
        rw [List.take_append_drop, take_of_get (get_getD (l := left) (i := k) (by rw [HLL.out]; exact hk)), sumI_snoc] at e1
        have := sumI_nonneg (left.drop (k + 1)) (fun v hv => (hl v (List.mem_of_mem_drop hv)).1)
        omega
      have h1 : 0 ≤ (sumI (left.take k) + i) * 16 ^ r := Int.mul_nonneg (by omega) hp
      have h2 : (sumI (left.take k) + i + 1) * 16 ^ r ≤ 16 * 16 ^ r := Int.mul_le_mul_of_nonneg_right (by omega) hp
      rw [Int.add_mul, Int.one_mul] at h2
      have h3 := hM2
      rw [Int.pow_succ, Int.mul_comm (16 ^ r) 16] at h3
      omega)
    have IH := Lib.hid ih
    have HS16 := Lib.hid hs
    have hgO := (ho.1.block (k := gO) rfl).2
    clear ha hA hb hB hl ho hbd hM2 hs ih
    go_enter Try.func46, Try.ntmps46
    go_wp2_with fail
    go_loopw [12] (fun i wr => ∃ k : Nat, k ≤ n ∧ i = .int .i64 k ∧ OwnI wr base 3 (some ⟨gO, 0, none⟩) no co (crsK r crs left o k) ∧ w.grownBy wr (some gO)) (fun i _ => n - (intOf i).toNat)
    case atStart => exact ⟨0, by omega, rfl, HO.out, grown_of_below (Below.refl _ _) _⟩
    case round =>
      obtain ⟨k, hk, rfl, hown, hgr⟩ := hrel
      have HOK := Lib.hid hown
      have HGK := Lib.hid hgr
      clear hown hgr
      by_cases hkn : k < n
      · obtain ⟨ad, x, rfl, hadb, hx, _, hcx⟩ := HB.out.at_ hkn
        have hx4 := HL.out x (List.mem_of_getElem? hx.out)
        obtain ⟨x, rfl⟩ : ∃ x' : Nat, x = x' := ⟨x.toNat, by omega⟩
        have HXD : Hid (left.getD k 0 = x) := Lib.hid (getD_of_get hx.out)
        have HADN := Lib.hid (HBN.out ad.block rfl)
        have HCX := Lib.hid hcx
        have HNX : Hid (crsK r crs left o (k + 1) = crsI r crs left o k x) := Lib.hid (by rw [crsK_succ, HXD.out, Int.toNat_natCast])
        have HXG := Lib.hid hx.out
        have hx4' : x ≤ 4 := by omega
        clear hcx hx4 hx
        obtain ⟨w1, rfl⟩ : ∃ w1, w1 = wr := ⟨_, rfl⟩
        go_wp2_with fail
        go_loopw [13] (fun i wr => ∃ t : Nat, t ≤ x ∧ i = .int .i64 t ∧ OwnI wr base 3 (some ⟨gO, 0, none⟩) no co (crsI r crs left o k t) ∧ w.grownBy wr (some gO)) (fun i _ => x - (intOf i).toNat)
        case atStart => exact ⟨0, by omega, rfl, HOK.out, HGK.out⟩
        case round =>
          obtain ⟨t, ht, rfl, hown, hgr⟩ := hrel
          have HOT := Lib.hid hown
          have HGT := Lib.hid hgr
          have HBT := Lib.hid (HB.out.grown hgr (fun g e1 e2 => HADN.out (by injection e1 with e1; have e3 : ad.block = g := (by injection e2); omega)))
          have HAT := Lib.hid (HA.out.grown hgr (fun g e1 e2 => HAN.out g e2 (by injection e1 with e1; exact e1.symm)))
          have hcx : wr.cell? (ad.add k) = some (.int .i64 x) := (World.cell?_of_block (hgr.block (ad.add k).block (by rw [block_of_add]; exact hadb) (by rw [block_of_add]; intro e; injection e with e; exact HADN.out e))).trans HCX.out
          have hgOr := (hown.1.block (k := gO) rfl).2
          clear hown hgr
          by_cases htx : t < x
          · go_wp2_with fail
            refine (ints_any (some ad) n cb left wr HBT.out (by omega)).mono ?_; rintro e w3 ⟨B3, c3, rfl, ho3, b3⟩
            rw [HLL.out] at ho3 ⊢
            obtain ⟨g3, rfl, hg3, hg3'⟩ := ho3.form (by omega)
            have k3 := ho3.cellAt HXG.out
            have f3 := ho3.frozenAt k
            have HO3 := Lib.hid (ho3.stored k (u := (x : Int) - 1) (I64.small (by omega)))
            have HB3 := Lib.hid b3
            have hkI : (k : Int) < n := by omega
            have HOT3 := Lib.hid ((HOT.out.below b3).far (p := ⟨g3, k, none⟩) (by show some gO ≠ some g3; intro e; injection e with e; omega) (.int .i64 ((x : Int) - 1)))
            have HAT3 := Lib.hid ((HAT.out.below b3).setCell0 (p := ⟨g3, k, none⟩) (fun h0 e => by have := HAT.out.block h0 e; have h : g3 = (⟨g3, k, none⟩ : Addr).block := rfl; omega) (.int .i64 ((x : Int) - 1)))
            clear ho3 b3 hcx
            obtain ⟨w4, hw4⟩ : ∃ w4, w3.setCell ⟨g3, k, none⟩ (.int .i64 ((x : Int) - 1)) = w4 := ⟨_, rfl⟩
            rw [hw4] at HO3 HOT3 HAT3
            have HB4 : Hid (Below wr.heap.size wr w4) := Lib.hid (by rw [← hw4]; exact HB3.out.setCell (p := ⟨g3, k, none⟩) hg3 _)
            have HW4 := Lib.hid hw4
            clear hw4 HB3
            go_wp2_with fail
            rw [HW4.out]
            refine (ints_any A m c crs w4 HAT3.out (by omega)).mono ?_; rintro e w5 ⟨B5, c5, rfl, ho5, b5⟩
            rw [HAL.out] at ho5 ⊢
            have HO5 := Lib.hid ho5
            have HL5 := Lib.hid (HO3.out.below b5)
            have HOT5 := Lib.hid (HOT3.out.below b5)
            have HB5 := Lib.hid (HB4.out.trans (b5.mono HB4.out.size))
            have hs45 := b5.size
            have hs4 := HB4.out.size
            have hk6 : m + 1 ≤ 1000000 := by omega
            clear ho5 b5 k3 f3 HO3 HOT3 HAT3 HB4
            go_wp2_with (at_builtin; go_must (refine wpList_appI1 w5 rfl (.tmp 58) (.tmp 60) rfl _ rfl rfl HO5.out (v := (k : Int)) (I64.small (by omega)) hk6 hs45 ?_); intro A6 c6 w6 kk; have KK := Lib.hid kk; clear kk)
            have hcnd := HT.out k t hkn (by rw [HXD.out]; omega)
            have hbo := HBD.out k t (by omega) (by rw [HXD.out]; omega)
            have HW6 := Lib.hid (HB5.out.trans (KK.out.below.mono hs4))
            have H1 : Hid (∀ b, A6.map (·.block) = some b → b ≠ gO) := Lib.hid (fun b e => by have := (KK.out.own.1.block e).1; omega)
            have H2 : Hid (∀ b, (some (⟨g3, 0, none⟩ : Addr)).map (·.block) = some b → b ≠ gO) := Lib.hid (fun b e => by have h : g3 = b := (by injection e); omega)
            have hg34 : g3 < w4.heap.size := by
              have h : (w3.setCell ⟨g3, k, none⟩ (.int .i64 ((x : Int) - 1))).heap.size = w3.heap.size := by simp [World.setCell]
              rw [HW4.out] at h; omega
            have H3 := Lib.hid (HL5.out.rd.belowB KK.out.below (fun _ b e => by have h : g3 = b := (by injection e); omega))
            have H4 : Hid (∀ y ∈ left.set k ((x : Int) - 1), 0 ≤ y ∧ y ≤ 4) := Lib.hid (fun y hy => by
              rcases List.mem_or_eq_of_mem_set hy with hy | rfl
              · exact HL.out y hy
              · omega)
            have H5 : Hid (sumI (left.set k ((x : Int) - 1)) ≤ 16) := Lib.hid (by
              rw [sumI_set (by rw [HLL.out]; exact hkn), HXD.out]
              have := HS16.out; omega)
            have H6 := Lib.hid (HOT5.out.grown KK.out.grown (.inr (fun e => by
              have h : w4.heap.size ≤ gO := (HO5.out.1.block e.symm).1
              omega)))
            refine (IH.out (crs ++ [(k : Int)]) (left.set k ((x : Int) - 1)) (crsI r crs left o k t) A6 (some ⟨g3, 0, none⟩) (m + 1) n c6 c3 (M + (sumI (left.take k) + t) * 16 ^ r) w6 (by omega) KK.out.own.rd H1.out H3.out H2.out hn H4.out H5.out H6.out hbo hcnd.1 hcnd.2).mono ?_
            rintro e w7 ⟨rfl, ho7, hg7⟩
            have HO7 := Lib.hid ho7
            have HG7 := Lib.hid hg7
            have HN7 : Hid (crsI r crs left o k (t + 1) = crsF r (crs ++ [(k : Int)]) (left.set k ((x : Int) - 1)) (crsI r crs left o k t)) := Lib.hid (by rw [crsI_succ, HXD.out])
            clear ho7 hg7 hcnd hbo
            go_wp2
            go_roundw
            case rel => exact ⟨t + 1, by omega, by go_num, by rw [HN7.out]; exact HO7.out, grown_trans (grown_trans HGT.out (grown_of_below HW6.out _)) HG7.out⟩
            case measure => simp [intOf]; omega
          · obtain rfl : t = x := by omega
            go_wp2
            go_roundw
            case rel => exact ⟨k + 1, by omega, by go_num, by rw [HNX.out]; exact HOT.out, HGT.out⟩
            case measure => simp [intOf]; omega
      · have HV : Hid (crsF (r + 1) crs left o = crsK r crs left o k) := Lib.hid (by
          obtain rfl : k = n := by omega
          rw [crsF_succ, HLL.out])
        go_wp2
        go_end0
        exact ⟨rfl, by rw [HV.out]; exact HOK.out, HGK.out⟩
end Go.Proofs.Ytcmacejpoihhlaa

namespace Go.Proofs.Ytcmacejpoihhlaa
open Go.RowKit

def mkA (M : Mk) : Array Value := #[.int .i64 0, .int .i64 M.pk, .int .i64 M.wr, .int .i64 M.pr, .int .i64 M.nw, .int .i64 0, .int .i64 M.st, .int .i64 0]
/-- what a round of marking knows of memory -/
structure MkW (b : Nat) (w : World) (s : Scoring) (K A B : Option Addr) (kn kc n c d : Nat) (t a : List Int) (m : Array Value) (W : World) : Prop where
  s : Blk W b 79 (scCells s K kn kc)
  x : Blk W (b + 1) 130 #[.slice A n c, .slice B n d]
  o : Blk W (b + 1 + 1) 82 (mkA ⟨0, 0, 0, 0, 0, true⟩)
  m : Blk W (b + 1 + 1 + 1) 82 m
  rt : RdI W A n t
  ra : RdI W B n a
  bel : Below b w W
  ba : ∀ k, A.map (·.block) = some k → k < b
  bb : ∀ k, B.map (·.block) = some k → k < b
section
variable {b : Nat} {w : World} {s : Scoring} {K A B : Option Addr} {kn kc n c d : Nat} {t a : List Int} {m : Array Value} {W W' : World}
theorem MkW.below (h : MkW b w s K A B kn kc n c d t a m W) (hb : Below W.heap.size W W') (hw : b ≤ W.heap.size := by omega) : MkW b w s K A B kn kc n c d t a m W' :=
  ⟨h.s.below hb, h.x.below hb, h.o.below hb, h.m.below hb, h.rt.below hb, h.ra.below hb, h.bel.trans (hb.mono hw), h.ba, h.bb⟩
theorem MkW.lt (h : MkW b w s K A B kn kc n c d t a m W) : b + 1 + 1 + 1 < W.heap.size := h.m.lt
theorem MkW.drewN (h : MkW b w s K A B kn kc n c d t a m W) (k : Nat) : MkW b w s K A B kn kc n c d t a m (W.drewN k) :=
  h.below (below_drewN (Below.refl _ _) k) (by have := h.lt; omega)
theorem MkW.drew (h : MkW b w s K A B kn kc n c d t a m W) : MkW b w s K A B kn kc n c d t a m W.drew :=
  h.below ((Below.refl _ _).drew) (by have := h.lt; omega)
theorem MkW.set (h : MkW b w s K A B kn kc n c d t a m W) (i : Nat) (u : Value) : MkW b w s K A B kn kc n c d t a (m.setIfInBounds i u) (W.setCell ⟨b + 1 + 1 + 1, i, none⟩ u) :=
  ⟨h.s.far (by show b ≠ b + 1 + 1 + 1; omega) _, h.x.far (by show b + 1 ≠ b + 1 + 1 + 1; omega) _, h.o.far (by show b + 1 + 1 ≠ b + 1 + 1 + 1; omega) _, h.m.set_ _ _,
    h.rt.setCell (fun e => by have := h.ba _ e; have h9 : (⟨b + 1 + 1 + 1, i, none⟩ : Addr).block = b + 1 + 1 + 1 := rfl; omega) _, h.ra.setCell (fun e => by have := h.bb _ e; have h9 : (⟨b + 1 + 1 + 1, i, none⟩ : Addr).block = b + 1 + 1 + 1 := rfl; omega) _,
    h.bel.setCell (p := ⟨b + 1 + 1 + 1, i, none⟩) (by show b ≤ b + 1 + 1 + 1; omega) _, h.ba, h.bb⟩
end

theorem mkW_new (s : Scoring) (K A B : Option Addr) (kn kc n c d : Nat) (t a : List Int) (w : World) (h1 : RdI w A n t) (h2 : RdI w B n a) (hn : 0 < n) :
    MkW w.heap.size w s K A B kn kc n c d t a (mkA ⟨0, 0, 0, 0, 0, true⟩) ((((w.alloc (.cells (scCells s K kn kc) 79)).alloc (.cells #[.slice A n c, .slice B n d] 130)).alloc (.cells (mkA ⟨0, 0, 0, 0, 0, true⟩) 82)).alloc (.cells (mkA ⟨0, 0, 0, 0, 0, true⟩) 82)) := by
  have e1 : (w.alloc (.cells (scCells s K kn kc) 79)).heap.size = w.heap.size + 1 := by simp
  have x1 := Blk.new (w.alloc (.cells (scCells s K kn kc) 79)) 130 #[.slice A n c, .slice B n d]
  rw [e1] at x1
  generalize hw1 : w.alloc (.cells (scCells s K kn kc) 79) = w1 at *
  have x0 : Blk w1 w.heap.size 79 (scCells s K kn kc) := by rw [← hw1]; exact Blk.new _ _ _
  have r1 : RdI w1 A n t := by rw [← hw1]; exact h1.alloc _
  have r2 : RdI w1 B n a := by rw [← hw1]; exact h2.alloc _
  have b1 : Below w.heap.size w w1 := by rw [← hw1]; exact (Below.refl _ _).alloc (Nat.le_refl _) _
  have e2 : (w1.alloc (.cells #[.slice A n c, .slice B n d] 130)).heap.size = w.heap.size + 1 + 1 := by simp [e1]
  have x2 := Blk.new (w1.alloc (.cells #[.slice A n c, .slice B n d] 130)) 82 (mkA ⟨0, 0, 0, 0, 0, true⟩)
  rw [e2] at x2
  have e3 : ((w1.alloc (.cells #[.slice A n c, .slice B n d] 130)).alloc (.cells (mkA ⟨0, 0, 0, 0, 0, true⟩) 82)).heap.size = w.heap.size + 1 + 1 + 1 := by simp [e1]
  have x3 := Blk.new ((w1.alloc (.cells #[.slice A n c, .slice B n d] 130)).alloc (.cells (mkA ⟨0, 0, 0, 0, 0, true⟩) 82)) 82 (mkA ⟨0, 0, 0, 0, 0, true⟩)
  rw [e3] at x3
  exact ⟨((x0.alloc _).alloc _).alloc _, (x1.alloc _).alloc _, x2.alloc _, x3, ((r1.alloc _).alloc _).alloc _, ((r2.alloc _).alloc _).alloc _,
    ((b1.alloc (by omega) _).alloc (by omega) _).alloc (by omega) _, fun k e => h1.block hn e, fun k e => h2.block hn e⟩
theorem occ_bd (l : List Int) (x : Int) : 0 ≤ occ l x ∧ occ l x ≤ l.length := by
  unfold occ
  have h1 := List.count_le_length (a := x) (l := l)
  omega

theorem eql_no {y : Int} (h : y ≠ 1) (w : World) : (binOp .eql 3 (.int .i64 y) (.int .i64 1)).run Try.prog w = .ok (.bool false) w := by
  have g : (y == 1) = false := beq_false_of_ne h
  have e : (binOp .eql 3 (.int .i64 y) (.int .i64 1)).run Try.prog w = .ok (.bool (y == 1)) w := by kernel_rfl
  rw [e, g]
/-- the marks of an answer -/
def whI (M : Mk) : Int := if M.wh = true then 1 else 0
def ptL (s : Scoring) (M : Mk) : Int := s.p1 * M.pk + s.p2 * M.pr + s.p4 * M.nw + s.p3 * whI M - s.p5 * M.wr
def markV (s : Scoring) (t a : List Int) : Value :=
  .agg #[.int .i64 (ptL s (mkTo t a t.length)), .int .i64 (mkTo t a t.length).pk, .int .i64 (mkTo t a t.length).wr, .int .i64 (mkTo t a t.length).pr, .int .i64 (mkTo t a t.length).nw, .int .i64 (whI (mkTo t a t.length)), .int .i64 (mkTo t a t.length).st, .int .i64 (honL t a)]

set_option maxHeartbeats 8000000 in
set_option maxRecDepth 100000 in
theorem markS_any (s : Scoring) (K A B : Option Addr) (kn kc n c d : Nat) (t a : List Int) (w : World) (h1 : RdI w A n t) (h2 : RdI w B n a) (ht : chk t = 0) (ha : ∀ v ∈ a, 0 ≤ v ∧ v ≤ 8) (hs : s.ok) :
    Calls Try.prog 115 #[.agg (scCells s K kn kc), .agg #[.slice A n c, .slice B n d]] w fun e w' => e = .returned (markV s t a) ∧ Below w.heap.size w w' := by
  have hlen := h1.len
  have hlen2 := h2.len
  have hn1 : 1 ≤ n := by have := (chk_ok ht).1; omega
  have hn9 : n ≤ 9 := by have := (chk_ok ht).2.1; omega
  have HNEW := Lib.hid (mkW_new s K A B kn kc n c d t a w h1 h2 (by omega))
  have HTK := Lib.hid ht
  have HA0 : Hid (∀ v ∈ a, 0 ≤ v) := Lib.hid (fun v hv => (ha v hv).1)
  have HSO := Lib.hid hs
  have HLN := Lib.hid hlen
  have HLN2 := Lib.hid hlen2
  have HBD : Hid (∀ k, k ≤ n → MkBd k (mkTo t a k)) := Lib.hid (fun k hk => mk_bd t a k (by omega))
  unfold scCells mkA at HNEW
  clear h1 h2 ht ha hs hlen hlen2
  unfold scCells
  go_enter Try.func115, Try.ntmps115
  go_upto_region 3 with fail
  obtain ⟨W, hW⟩ : ∃ W, (((w.alloc (.cells #[.int .i64 s.p1, .int .i64 s.p2, .int .i64 s.p3, .int .i64 s.p4, .int .i64 s.p5, .slice K kn kc] 79)).alloc (.cells #[.slice A n c, .slice B n d] 130)).alloc (.cells #[.int .i64 0, .int .i64 0, .int .i64 0, .int .i64 0, .int .i64 0, .int .i64 0, .int .i64 0, .int .i64 0] 82)).alloc (.cells #[.int .i64 0, .int .i64 0, .int .i64 0, .int .i64 0, .int .i64 0, .int .i64 0, .int .i64 0, .int .i64 0] 82) = W := ⟨_, rfl⟩
  simp only at HNEW
  rw [hW] at HNEW ⊢
  have HM : Hid (MkW w.heap.size w s K A B kn kc n c d t a (mkA (mkTo t a 0)) W) := HNEW
  clear hW HNEW
  obtain ⟨b, hb⟩ : ∃ b, w.heap.size = b := ⟨_, rfl⟩
  rw [hb] at HM ⊢
  have HBB := Lib.hid hb
  clear hb
  have x0 : W.cell? ⟨b + 1, 0, none⟩ = some (.slice A n c) := by rw [HM.out.x.cell]; rfl
  go_wp2_with fail
  go_loopw [6, 7, 18] (fun x y i wr => ∃ k : Nat, k ≤ n ∧ i = .int .i64 k ∧ x = .bool (mkTo t a k).wh ∧ y = .bool (mkTo t a k).wh ∧ MkW b w s K A B kn kc n c d t a (mkA (mkTo t a k)) wr) (fun _ _ i _ => n - (intOf i).toNat)
  case atStart => exact ⟨0, by omega, rfl, rfl, rfl, HM.out⟩
  case round =>
    obtain ⟨i, hi, rfl, rfl, rfl, hmw⟩ := hrel
    have HMW := Lib.hid hmw
    have hsz := hmw.lt
    clear hmw HM x0
    by_cases hin : i < n
    · have x0 : wr.cell? ⟨b + 1, 0, none⟩ = some (.slice A n c) := by rw [HMW.out.x.cell]; rfl
      have x1 : wr.cell? ⟨b + 1, 1, none⟩ = some (.slice B n d) := by rw [HMW.out.x.cell]; rfl
      have HNX : Hid (mkTo t a (i + 1) = mkStep t a (mkTo t a i) i) := Lib.hid (mkTo_succ t a i)
      have HBI := Lib.hid (HBD.out i hi)
      obtain ⟨M, hM⟩ : ∃ M, mkTo t a i = M := ⟨_, rfl⟩
      rw [hM] at HMW HNX HBI ⊢
      clear hM
      have hinI : (i : Int) < n := by omega
      go_wp2_with fail
      refine (hasS_any A B n c n d a i wr HMW.out.ra hin HA0.out).mono ?_; rintro e w2 ⟨rfl, b2⟩
      have HM2 := Lib.hid (HMW.out.below b2 (by omega))
      clear b2 HMW x0 x1
      have hmt : mkInTo t a i 0 = (0, true) := rfl
      have HM3 : Hid (MkW b w s K A B kn kc n c d t a (mkA { M with pr := M.pr + (mkInTo t a i 0).1 }) w2) := Lib.hid (by
        rw [hmt]; simp only [Int.add_zero]; exact HM2.out)
      clear hmt
      have hcw : M.wh = true ∨ M.wh = false := by cases M.wh <;> simp
      rcases hcw with hwh | hwh
      all_goals
        have HWH := Lib.hid hwh
        rw [hwh]
        clear hwh
        go_wp2_with fail
        go_loopw [6, 9, 29] (fun x y j wr => ∃ k : Nat, k ≤ i ∧ j = .int .i64 k ∧ x = .bool (M.wh && (mkInTo t a i k).2) ∧ y = .bool (mkInTo t a i k).2 ∧ MkW b w s K A B kn kc n c d t a (mkA { M with pr := M.pr + (mkInTo t a i k).1 }) wr) (fun _ _ j _ => i - (intOf j).toNat)
        case atStart => exact ⟨0, by omega, rfl, by rw [HWH.out]; rfl, rfl, HM3.out⟩
        case round =>
          obtain ⟨k, hk, rfl, rfl, rfl, hmw⟩ := hrel
          have HMK := Lib.hid hmw
          have hsz2 := hmw.lt
          have hbd := mkInTo_bd t a i k
          have HNK : Hid (mkInTo t a i (k + 1) = mkIn t a i (mkInTo t a i k) k) := Lib.hid (mkInTo_succ t a i k)
          obtain ⟨q, hq⟩ : ∃ q, mkInTo t a i k = q := ⟨_, rfl⟩
          rw [hq] at HMK HNK hbd ⊢
          have HQ := Lib.hid hq
          clear hmw HM3 HM2 hq
          by_cases hki : k < i
          · have x0 : wr.cell? ⟨b + 1, 0, none⟩ = some (.slice A n c) := by rw [HMK.out.x.cell]; rfl
            have x1 : wr.cell? ⟨b + 1, 1, none⟩ = some (.slice B n d) := by rw [HMK.out.x.cell]; rfl
            have hkI : (k : Int) < n := by omega
            go_wp2_with fail
            refine (hasS_any A B n c n d a i wr HMK.out.ra hin HA0.out).mono ?_; rintro e w3 ⟨rfl, b3⟩
            have HM4 := Lib.hid (HMK.out.below b3 (by omega))
            clear b3 HMK x0 x1
            have x0 : w3.cell? ⟨b + 1, 0, none⟩ = some (.slice A n c) := by rw [HM4.out.x.cell]; rfl
            have x1 : w3.cell? ⟨b + 1, 1, none⟩ = some (.slice B n d) := by rw [HM4.out.x.cell]; rfl
            have hsz4 := HM4.out.lt
            go_wp2_with fail
            refine (hasS_any A B n c n d a k w3 HM4.out.ra (by omega) HA0.out).mono ?_; rintro e w4 ⟨rfl, b4⟩
            have HM5 := Lib.hid (HM4.out.below b4 (by omega))
            clear b4 HM4 x0 x1
            have x0 : w4.cell? ⟨b + 1, 0, none⟩ = some (.slice A n c) := by rw [HM5.out.x.cell]; rfl
            have x1 : w4.cell? ⟨b + 1, 1, none⟩ = some (.slice B n d) := by rw [HM5.out.x.cell]; rfl
            have hsz5 := HM5.out.lt
            go_wp2_with fail
            refine (rightS_any A B n c n d t a i k w4 HM5.out.rt HM5.out.ra hin (by omega) hin (by omega)).mono ?_; rintro e w5 ⟨rfl, b5⟩
            have HM6 := Lib.hid (HM5.out.below b5 (by omega))
            clear b5 HM5 x0 x1
            have k3 : w5.cell? ⟨b + 1 + 1 + 1, 3, none⟩ = some (.int .i64 (M.pr + q.1)) := by rw [HM6.out.m.cell]; rfl
            have f3 := HM6.out.m.frozen 3
            have hpr := HBI.out.pr
            by_cases hok : okP t a i k = true
            · have HNQ : Hid (mkIn t a i q k = (q.1 + 1, q.2)) := Lib.hid (by unfold mkIn; rw [if_pos hok])
              rw [hok]
              clear hok
              go_wp2
              go_roundw
              case rel => exact ⟨k + 1, by omega, by go_num, by rw [HNK.out, HNQ.out], by rw [HNK.out, HNQ.out], by rw [HNK.out, HNQ.out, ← Int.add_assoc]; exact HM6.out.set 3 _⟩
              case measure => simp [intOf]; omega
            · have hok2 : okP t a i k = false := by simpa using hok
              have HNQ : Hid (mkIn t a i q k = (q.1, false)) := Lib.hid (by unfold mkIn; rw [if_neg hok])
              rw [hok2]
              clear hok hok2
              go_wp2
              go_roundw
              case rel => exact ⟨k + 1, by omega, by go_num, by rw [HNK.out, HNQ.out, Bool.and_false], by rw [HNK.out, HNQ.out], by rw [HNK.out, HNQ.out]; exact HM6.out⟩
              case measure => simp [intOf]; omega
          · have hki2 : k = i := by omega
            subst hki2
            have hpk := HBI.out.pk
            have hst := HBI.out.st
            have hwr := HBI.out.wr
            have hnw := HBI.out.nw
            clear hki hk HNK
            obtain ⟨q1, q2⟩ := q
            simp only at HMK hbd ⊢
            obtain ⟨v, hv⟩ : ∃ v, t[k]? = some v := ⟨_, get_getD (by rw [HLN.out]; exact hin)⟩
            obtain ⟨u, hu⟩ : ∃ u, a[k]? = some u := ⟨_, get_getD (by rw [HLN2.out]; exact hin)⟩
            have HTV := Lib.hid hv
            have HAU := Lib.hid hu
            have HOT := Lib.hid (occ_bd t v)
            obtain ⟨y1, hy1⟩ : ∃ y1, occ t v = y1 := ⟨_, rfl⟩
            obtain ⟨y2, hy2⟩ : ∃ y2, occ a u = y2 := ⟨_, rfl⟩
            have HC1 : Hid (∀ W', RdI W' A n t → Calls Try.prog 137 #[.slice A n c, .int .i64 v] W' fun e w' => e = .returned (.int .i64 y1) ∧ W' = w') := Lib.hid (fun W' h => by rw [← hy1]; exact (countS_any A n c t v W' h (by omega)).mono (fun _ _ h9 => ⟨h9.1, h9.2.symm⟩))
            have HC2 : Hid (∀ W', RdI W' B n a → Calls Try.prog 137 #[.slice B n d, .int .i64 u] W' fun e w' => e = .returned (.int .i64 y2) ∧ W' = w') := Lib.hid (fun W' h => by rw [← hy2]; exact (countS_any B n d a u W' h (by omega)).mono (fun _ _ h9 => ⟨h9.1, h9.2.symm⟩))
            have HNW : Hid ((if occ t (t.getD k 0) = 1 ∧ occ a (a.getD k 0) = 1 then (1 : Int) else 0) = if y1 = 1 ∧ y2 = 1 then 1 else 0) := Lib.hid (by rw [getD_of_get hv, getD_of_get hu, hy1, hy2])
            clear hv hu hy1 hy2 HOT
            have hq12 : q2 = true ∨ q2 = false := by cases q2 <;> simp
            rcases hq12 with rfl | rfl
            · rw [Bool.and_true, HWH.out]
              have k1 : wr.cell? ⟨b + 1 + 1 + 1, 1, none⟩ = some (.int .i64 M.pk) := by rw [HMK.out.m.cell]; rfl
              have f1 := HMK.out.m.frozen 1
              go_upto_region 20 with fail
              have HM7 := Lib.hid (HMK.out.set 1 (.int .i64 (M.pk + 1)))
              obtain ⟨W7, hW7⟩ : ∃ W7, wr.setCell ⟨b + 1 + 1 + 1, 1, none⟩ (.int .i64 (M.pk + 1)) = W7 := ⟨_, rfl⟩
              rw [hW7] at HM7 ⊢
              clear hW7 HMK k1 f1
              have k6 : W7.cell? ⟨b + 1 + 1 + 1, 6, none⟩ = some (.int .i64 M.st) := by rw [HM7.out.m.cell]; rfl
              have f6 := HM7.out.m.frozen 6
              go_upto_region 23 with fail
              obtain ⟨pk', wr', st', wh', HF, HWL, HM8⟩ : ∃ (pk' wr' st' : Int) (wh' : Bool), Hid (mkStep t a M k = ⟨pk', wr', M.pr + q1, M.nw + (if y1 = 1 ∧ y2 = 1 then 1 else 0), st', wh'⟩) ∧ Hid (wh' = M.wh) ∧ Hid (MkW b w s K A B kn kc n c d t a (mkA ⟨pk', wr', M.pr + q1, M.nw, st', wh'⟩) (if M.wh = true then W7.setCell ⟨b + 1 + 1 + 1, 6, none⟩ (.int .i64 (M.st + 1)) else W7)) := by
                refine ⟨M.pk + 1, M.wr, M.st + (if M.wh = true then 1 else 0), M.wh, Lib.hid ?_, Lib.hid rfl, Lib.hid ?_⟩
                · unfold mkStep
                  rw [HQ.out, HNW.out]
                  simp
                · have h := HM7.out.set 6 (.int .i64 (M.st + 1))
                  by_cases e : M.wh = true
                  · rw [if_pos e, if_pos e]; exact h
                  · rw [if_neg e, if_neg e, Int.add_zero]; exact HM7.out
              rw [HWH.out] at HM8 HWL
              first
                | (rw [if_pos rfl] at HM8; obtain ⟨W8, hW8⟩ : ∃ W8, W7.setCell ⟨b + 1 + 1 + 1, 6, none⟩ (.int .i64 (M.st + 1)) = W8 := ⟨_, rfl⟩; rw [hW8] at HM8 ⊢; clear hW8)
                | (rw [if_neg (by decide)] at HM8; obtain ⟨W8, rfl⟩ : ∃ W8, W8 = W7 := ⟨_, rfl⟩)
              clear HM7 k6 f6
              have hsz8 := HM8.out.lt
              obtain ⟨ad, v', rfl, hadl, hv', _, hcv⟩ := HM8.out.rt.at_ hin
              obtain rfl : v' = v := by have h9 := hv'.out; rw [HTV.out] at h9; injection h9 with h9; exact h9.symm
              obtain ⟨bd, u', rfl, hbdl, hu', _, hcu⟩ := HM8.out.ra.at_ hin
              obtain rfl : u' = u := by have h9 := hu'.out; rw [HAU.out] at h9; injection h9 with h9; exact h9.symm
              have x0 : W8.cell? ⟨b + 1, 0, none⟩ = some (.slice (some ad) n c) := by rw [HM8.out.x.cell]; rfl
              have x1 : W8.cell? ⟨b + 1, 1, none⟩ = some (.slice (some bd) n d) := by rw [HM8.out.x.cell]; rfl
              have HH := Lib.hid (hasS_any (some ad) (some bd) n c n d a k W8.drew HM8.out.ra.drew hin HA0.out)
              have HDR := Lib.hid (HM8.out.drew)
              clear hv' hu'
              have hcy : (y1 = 1 ∧ y2 = 1) ∨ (y1 = 1 ∧ y2 ≠ 1) ∨ y1 ≠ 1 := by omega
              rcases hcy with ⟨rfl, rfl⟩ | ⟨rfl, hy2⟩ | hy1
              · have HI1 : Hid ((if (1 : Int) = 1 ∧ (1 : Int) = 1 then (1 : Int) else 0) = 1) := Lib.hid (by decide)
                rw [HI1.out] at HF
                go_region_held3 (fun w' => ((w'.cell? ⟨b + 1, 0, none⟩ = some (.slice (some ad) n c) ∧ w'.cell? ⟨b + 1, 1, none⟩ = some (.slice (some bd) n d)) ∧ w'.cell? (ad.add k) = some (.int .i64 v')) ∧ w'.cell? (bd.add k) = some (.int .i64 u')) (first | exact ⟨⟨⟨x0, x1⟩, hcv⟩, hcu⟩ | exact ⟨⟨⟨z0, z1⟩, z2⟩, z3⟩ | exact ⟨⟨⟨x0, x1⟩, hcv⟩, hcu⟩) (first
                  | (go_at_call 135; refine HH.out.mono ?_; rintro e w9 ⟨rfl, b9⟩; have z0 := (b9.cell (p := ⟨b + 1, 0, none⟩) (by show b + 1 < W8.heap.size; omega)).trans x0; have z1 := (b9.cell (p := ⟨b + 1, 1, none⟩) (by show b + 1 < W8.heap.size; omega)).trans x1; have z2 := (b9.cell (p := ad.add k) (by rw [block_of_add]; exact hadl)).trans hcv; have z3 := (b9.cell (p := bd.add k) (by rw [block_of_add]; exact hbdl)).trans hcu; have HM9 := Lib.hid (HDR.out.below b9 (by show b ≤ W8.heap.size; omega)))
                  | (go_at_call 137; first | ((with_reducible refine (HC1.out w9 HM9.out.rt).mono ?_); rintro e w' ⟨rfl, rfl⟩) | ((with_reducible refine (HC2.out w9 HM9.out.ra).mono ?_); rintro e w' ⟨rfl, rfl⟩)))
                have k4 : w9.cell? ⟨b + 1 + 1 + 1, 4, none⟩ = some (.int .i64 M.nw) := by rw [HM9.out.m.cell]; rfl
                have f4 := HM9.out.m.frozen 4
                clear HDR HH HM8
                go_wp2
                go_roundw
                case rel => exact ⟨k + 1, by omega, by go_num, by rw [HNX.out, HF.out, HWL.out], by rw [HNX.out, HF.out, HWL.out], by rw [HNX.out, HF.out]; exact HM9.out.set 4 _⟩
                case measure => simp [intOf]; omega
              · have HI1 : Hid ((if (1 : Int) = 1 ∧ y2 = 1 then (1 : Int) else 0) = 0) := Lib.hid (by rw [if_neg]; omega)
                rw [HI1.out, Int.add_zero] at HF
                have gy : (y2 == 1) = false := beq_false_of_ne hy2
                go_region_held3 (fun w' => ((w'.cell? ⟨b + 1, 0, none⟩ = some (.slice (some ad) n c) ∧ w'.cell? ⟨b + 1, 1, none⟩ = some (.slice (some bd) n d)) ∧ w'.cell? (ad.add k) = some (.int .i64 v')) ∧ w'.cell? (bd.add k) = some (.int .i64 u')) (first | exact ⟨⟨⟨x0, x1⟩, hcv⟩, hcu⟩ | exact ⟨⟨⟨z0, z1⟩, z2⟩, z3⟩ | exact ⟨⟨⟨x0, x1⟩, hcv⟩, hcu⟩) (first
                  | (go_at_call 135; refine HH.out.mono ?_; rintro e w9 ⟨rfl, b9⟩; have z0 := (b9.cell (p := ⟨b + 1, 0, none⟩) (by show b + 1 < W8.heap.size; omega)).trans x0; have z1 := (b9.cell (p := ⟨b + 1, 1, none⟩) (by show b + 1 < W8.heap.size; omega)).trans x1; have z2 := (b9.cell (p := ad.add k) (by rw [block_of_add]; exact hadl)).trans hcv; have z3 := (b9.cell (p := bd.add k) (by rw [block_of_add]; exact hbdl)).trans hcu; have HM9 := Lib.hid (HDR.out.below b9 (by show b ≤ W8.heap.size; omega)))
                  | (go_at_call 137; first | ((with_reducible refine (HC1.out w9 HM9.out.rt).mono ?_); rintro e w' ⟨rfl, rfl⟩) | ((with_reducible refine (HC2.out w9 HM9.out.ra).mono ?_); rintro e w' ⟨rfl, rfl⟩)))
                clear HDR HH HM8
                go_wp2
                go_roundw
                case rel => exact ⟨k + 1, by omega, by go_num, by rw [HNX.out, HF.out, HWL.out], by rw [HNX.out, HF.out, HWL.out], by rw [HNX.out, HF.out]; exact HM9.out⟩
                case measure => simp [intOf]; omega
              · have HI1 : Hid ((if y1 = 1 ∧ y2 = 1 then (1 : Int) else 0) = 0) := Lib.hid (by rw [if_neg]; omega)
                rw [HI1.out, Int.add_zero] at HF
                have gy := fun w : World => eql_no hy1 w
                refine wp_region_held_drew (S := (fun w' => ((w'.cell? ⟨b + 1, 0, none⟩ = some (.slice (some ad) n c) ∧ w'.cell? ⟨b + 1, 1, none⟩ = some (.slice (some bd) n d)) ∧ w'.cell? (ad.add k) = some (.int .i64 v')) ∧ w'.cell? (bd.add k) = some (.int .i64 u'))) (by kernel_rfl) ⟨⟨⟨x0, x1⟩, hcv⟩, hcu⟩ (fun hHeld => ?_)
                refine wpAnyH_take (i := 0) (oi := _) (v := ?_) rfl (by kernel_rfl) (by kernel_rfl) (by kernel_rfl) (fun _ _ _ h => h) (Or.inl ⟨by rfl, ?_⟩) (by assumption) ?_
                rotate_left
                · (intro w hSw; (try dsimp only at hSw); go_simp; (try with_reducible rfl))
                try simp only [List.getElem_toArray, List.getElem_cons_zero, List.getElem_cons_succ, Act.put, List.setIfInBounds_toArray, List.set_cons_zero, List.set_cons_succ]
                refine wpAnyH_take (i := 1) (oi := _) (v := ?_) rfl (by kernel_rfl) (by kernel_rfl) (by kernel_rfl) (fun _ _ _ h => h) (Or.inl ⟨by rfl, ?_⟩) (by assumption) ?_
                rotate_left
                · (intro w hSw; (try dsimp only at hSw); go_simp; (try with_reducible rfl))
                try simp only [List.getElem_toArray, List.getElem_cons_zero, List.getElem_cons_succ, Act.put, List.setIfInBounds_toArray, List.set_cons_zero, List.set_cons_succ]
                refine wpAnyH_ready (rs := [2]) (by kernel_rfl) (by simp) ?_
                refine AllReadyH.cons (o := _) rfl (fun K hK => ?_) AllReadyH.nil
                go_simp
                go_at_call 135
                refine HH.out.mono ?_; rintro e w9 ⟨rfl, b9⟩
                have z0 := (b9.cell (p := ⟨b + 1, 0, none⟩) (by show b + 1 < W8.heap.size; omega)).trans x0
                have z1 := (b9.cell (p := ⟨b + 1, 1, none⟩) (by show b + 1 < W8.heap.size; omega)).trans x1
                have z2 := (b9.cell (p := ad.add k) (by rw [block_of_add]; exact hadl)).trans hcv
                have z3 := (b9.cell (p := bd.add k) (by rw [block_of_add]; exact hbdl)).trans hcu
                have HM9 := Lib.hid (HDR.out.below b9 (by show b ≤ W8.heap.size; omega))
                go_wp2_with fail
                refine hK.out _ _ ⟨⟨⟨z0, z1⟩, z2⟩, z3⟩ (fun hHeld => ?_)
                clear hK K
                try simp only [List.getElem_toArray, List.getElem_cons_zero, List.getElem_cons_succ, Act.put, List.setIfInBounds_toArray, List.set_cons_zero, List.set_cons_succ]
                refine wpAnyH_take (i := 3) (oi := _) (v := ?_) rfl (by kernel_rfl) (by kernel_rfl) (by kernel_rfl) (fun _ _ _ h => h) (Or.inl ⟨by rfl, ?_⟩) (by assumption) ?_
                rotate_left
                · (intro w hSw; (try dsimp only at hSw); go_simp; (try with_reducible rfl))
                try simp only [List.getElem_toArray, List.getElem_cons_zero, List.getElem_cons_succ, Act.put, List.setIfInBounds_toArray, List.set_cons_zero, List.set_cons_succ]
                refine wpAnyH_take (i := 4) (oi := _) (v := ?_) rfl (by kernel_rfl) (by kernel_rfl) (by kernel_rfl) (fun _ _ _ h => h) (Or.inl ⟨by rfl, ?_⟩) (by assumption) ?_
                rotate_left
                · (intro w hSw; (try dsimp only at hSw); go_simp; (try with_reducible rfl))
                try simp only [List.getElem_toArray, List.getElem_cons_zero, List.getElem_cons_succ, Act.put, List.setIfInBounds_toArray, List.set_cons_zero, List.set_cons_succ]
                refine wpAnyH_take (i := 5) (oi := _) (v := ?_) rfl (by kernel_rfl) (by kernel_rfl) (by kernel_rfl) (fun _ _ _ h => h) (Or.inl ⟨by rfl, ?_⟩) (by assumption) ?_
                rotate_left
                · (intro w hSw; (try dsimp only at hSw); go_simp; (try with_reducible rfl))
                try simp only [List.getElem_toArray, List.getElem_cons_zero, List.getElem_cons_succ, Act.put, List.setIfInBounds_toArray, List.set_cons_zero, List.set_cons_succ]
                refine wpAnyH_take (i := 6) (oi := _) (v := ?_) rfl (by kernel_rfl) (by kernel_rfl) (by kernel_rfl) (fun _ _ _ h => h) (Or.inl ⟨by rfl, ?_⟩) (by assumption) ?_
                rotate_left
                · (intro w hSw; (try dsimp only at hSw); go_simp; (try with_reducible rfl))
                try simp only [List.getElem_toArray, List.getElem_cons_zero, List.getElem_cons_succ, Act.put, List.setIfInBounds_toArray, List.set_cons_zero, List.set_cons_succ]
                refine wpAnyH_take (i := 7) (oi := _) (v := ?_) rfl (by kernel_rfl) (by kernel_rfl) (by kernel_rfl) (fun _ _ _ h => h) (Or.inl ⟨by rfl, ?_⟩) (by assumption) ?_
                rotate_left
                · (intro w hSw; (try dsimp only at hSw); go_simp; (try with_reducible rfl))
                try simp only [List.getElem_toArray, List.getElem_cons_zero, List.getElem_cons_succ, Act.put, List.setIfInBounds_toArray, List.set_cons_zero, List.set_cons_succ]
                refine wpAnyH_take (i := 8) (oi := _) (v := ?_) rfl (by kernel_rfl) (by kernel_rfl) (by kernel_rfl) (fun _ _ _ h => h) (Or.inl ⟨by rfl, ?_⟩) (by assumption) ?_
                rotate_left
                · (intro w hSw; (try dsimp only at hSw); go_simp; (try with_reducible rfl))
                try simp only [List.getElem_toArray, List.getElem_cons_zero, List.getElem_cons_succ, Act.put, List.setIfInBounds_toArray, List.set_cons_zero, List.set_cons_succ]
                refine wpAnyH_take (i := 9) (oi := _) (v := ?_) rfl (by kernel_rfl) (by kernel_rfl) (by kernel_rfl) (fun _ _ _ h => h) (Or.inl ⟨by rfl, ?_⟩) (by assumption) ?_
                rotate_left
                · (intro w hSw; (try dsimp only at hSw); go_simp; (try with_reducible rfl))
                try simp only [List.getElem_toArray, List.getElem_cons_zero, List.getElem_cons_succ, Act.put, List.setIfInBounds_toArray, List.set_cons_zero, List.set_cons_succ]
                refine wpAnyH_take (i := 10) (oi := _) (v := ?_) rfl (by kernel_rfl) (by kernel_rfl) (by kernel_rfl) (fun _ _ _ h => h) (Or.inl ⟨by rfl, ?_⟩) (by assumption) ?_
                rotate_left
                · (intro w hSw; (try dsimp only at hSw); go_simp; (try with_reducible rfl))
                try simp only [List.getElem_toArray, List.getElem_cons_zero, List.getElem_cons_succ, Act.put, List.setIfInBounds_toArray, List.set_cons_zero, List.set_cons_succ]
                refine wpAnyH_ready (rs := [11]) (by kernel_rfl) (by simp) ?_
                refine AllReadyH.cons (o := _) rfl (fun K hK => ?_) AllReadyH.nil
                go_simp
                go_at_call 137
                refine (HC1.out w9 HM9.out.rt).mono ?_; rintro e w' ⟨rfl, rfl⟩
                go_wp2_with fail
                refine hK.out _ _ ⟨⟨⟨z0, z1⟩, z2⟩, z3⟩ (fun hHeld => ?_)
                clear hK K
                try simp only [List.getElem_toArray, List.getElem_cons_zero, List.getElem_cons_succ, Act.put, List.setIfInBounds_toArray, List.set_cons_zero, List.set_cons_succ]
                refine wpAnyH_take (i := 12) (oi := _) (v := .bool false) rfl (by kernel_rfl) (by kernel_rfl) (by kernel_rfl) (fun _ _ _ h => h) (Or.inl ⟨by rfl, ?_⟩) (by assumption) ?_
                · (intro w hSw; (try dsimp only at hSw); go_simp; (try simp [hy1]))
                try simp only [List.getElem_toArray, List.getElem_cons_zero, List.getElem_cons_succ, Act.put, List.setIfInBounds_toArray, List.set_cons_zero, List.set_cons_succ]
                refine wpAnyH_take (i := 13) (oi := _) (v := ?_) rfl (by kernel_rfl) (by kernel_rfl) (by kernel_rfl) (fun _ _ _ h => h) (Or.inl ⟨by rfl, ?_⟩) (by assumption) ?_
                rotate_left
                · (intro w hSw; (try dsimp only at hSw); go_simp; (try with_reducible rfl))
                try simp only [List.getElem_toArray, List.getElem_cons_zero, List.getElem_cons_succ, Act.put, List.setIfInBounds_toArray, List.set_cons_zero, List.set_cons_succ]
                refine wpAnyH_take (i := 14) (oi := _) (v := ?_) rfl (by kernel_rfl) (by kernel_rfl) (by kernel_rfl) (fun _ _ _ h => h) (Or.inl ⟨by rfl, ?_⟩) (by assumption) ?_
                rotate_left
                · (intro w hSw; (try dsimp only at hSw); go_simp; (try with_reducible rfl))
                try simp only [List.getElem_toArray, List.getElem_cons_zero, List.getElem_cons_succ, Act.put, List.setIfInBounds_toArray, List.set_cons_zero, List.set_cons_succ]
                refine wpAnyH_take (i := 15) (oi := _) (v := undef) rfl (by kernel_rfl) (by kernel_rfl) (by kernel_rfl) (fun _ _ _ h => h) (Or.inr ⟨by rfl, rfl⟩) (by assumption) ?_
                try simp only [List.getElem_toArray, List.getElem_cons_zero, List.getElem_cons_succ, Act.put, List.setIfInBounds_toArray, List.set_cons_zero, List.set_cons_succ]
                refine wpAnyH_take (i := 16) (oi := _) (v := undef) rfl (by kernel_rfl) (by kernel_rfl) (by kernel_rfl) (fun _ _ _ h => h) (Or.inr ⟨by rfl, rfl⟩) (by assumption) ?_
                try simp only [List.getElem_toArray, List.getElem_cons_zero, List.getElem_cons_succ, Act.put, List.setIfInBounds_toArray, List.set_cons_zero, List.set_cons_succ]
                refine wpAnyH_take (i := 17) (oi := _) (v := undef) rfl (by kernel_rfl) (by kernel_rfl) (by kernel_rfl) (fun _ _ _ h => h) (Or.inr ⟨by rfl, rfl⟩) (by assumption) ?_
                try simp only [List.getElem_toArray, List.getElem_cons_zero, List.getElem_cons_succ, Act.put, List.setIfInBounds_toArray, List.set_cons_zero, List.set_cons_succ]
                refine wpAnyH_take (i := 18) (oi := _) (v := undef) rfl (by kernel_rfl) (by kernel_rfl) (by kernel_rfl) (fun _ _ _ h => h) (Or.inr ⟨by rfl, rfl⟩) (by assumption) ?_
                try simp only [List.getElem_toArray, List.getElem_cons_zero, List.getElem_cons_succ, Act.put, List.setIfInBounds_toArray, List.set_cons_zero, List.set_cons_succ]
                refine wpAnyH_take (i := 19) (oi := _) (v := undef) rfl (by kernel_rfl) (by kernel_rfl) (by kernel_rfl) (fun _ _ _ h => h) (Or.inr ⟨by rfl, rfl⟩) (by assumption) ?_
                try simp only [List.getElem_toArray, List.getElem_cons_zero, List.getElem_cons_succ, Act.put, List.setIfInBounds_toArray, List.set_cons_zero, List.set_cons_succ]
                refine wpAnyH_take (i := 20) (oi := _) (v := undef) rfl (by kernel_rfl) (by kernel_rfl) (by kernel_rfl) (fun _ _ _ h => h) (Or.inr ⟨by rfl, rfl⟩) (by assumption) ?_
                try simp only [List.getElem_toArray, List.getElem_cons_zero, List.getElem_cons_succ, Act.put, List.setIfInBounds_toArray, List.set_cons_zero, List.set_cons_succ]
                refine wpAnyH_take (i := 21) (oi := _) (v := undef) rfl (by kernel_rfl) (by kernel_rfl) (by kernel_rfl) (fun _ _ _ h => h) (Or.inr ⟨by rfl, rfl⟩) (by assumption) ?_
                try simp only [List.getElem_toArray, List.getElem_cons_zero, List.getElem_cons_succ, Act.put, List.setIfInBounds_toArray, List.set_cons_zero, List.set_cons_succ]
                refine wpAnyH_take (i := 22) (oi := _) (v := undef) rfl (by kernel_rfl) (by kernel_rfl) (by kernel_rfl) (fun _ _ _ h => h) (Or.inr ⟨by rfl, rfl⟩) (by assumption) ?_
                try simp only [List.getElem_toArray, List.getElem_cons_zero, List.getElem_cons_succ, Act.put, List.setIfInBounds_toArray, List.set_cons_zero, List.set_cons_succ]
                refine wpAnyH_take (i := 23) (oi := _) (v := undef) rfl (by kernel_rfl) (by kernel_rfl) (by kernel_rfl) (fun _ _ _ h => h) (Or.inr ⟨by rfl, rfl⟩) (by assumption) ?_
                try simp only [List.getElem_toArray, List.getElem_cons_zero, List.getElem_cons_succ, Act.put, List.setIfInBounds_toArray, List.set_cons_zero, List.set_cons_succ]
                refine wpAnyH_take (i := 24) (oi := _) (v := ?_) rfl (by kernel_rfl) (by kernel_rfl) (by kernel_rfl) (fun _ _ _ h => h) (Or.inl ⟨by rfl, ?_⟩) (by assumption) ?_
                rotate_left
                · (intro w hSw; (try dsimp only at hSw); go_simp; (try with_reducible rfl))
                try simp only [List.getElem_toArray, List.getElem_cons_zero, List.getElem_cons_succ, Act.put, List.setIfInBounds_toArray, List.set_cons_zero, List.set_cons_succ]
                refine wpAnyH_done (by kernel_rfl) ?_ _
                clear HDR HH HM8
                go_wp2
                go_roundw
                case rel => exact ⟨k + 1, by omega, by go_num, by rw [HNX.out, HF.out, HWL.out], by rw [HNX.out, HF.out, HWL.out], by rw [HNX.out, HF.out]; exact HM9.out⟩
                case measure => simp [intOf]; omega
            · rw [Bool.and_false]
              have x0 : wr.cell? ⟨b + 1, 0, none⟩ = some (.slice A n c) := by rw [HMK.out.x.cell]; rfl
              have x1 : wr.cell? ⟨b + 1, 1, none⟩ = some (.slice B n d) := by rw [HMK.out.x.cell]; rfl
              go_wp2_with fail
              refine (hasS_any A B n c n d a k wr HMK.out.ra hin HA0.out).mono ?_; rintro e w6 ⟨rfl, b6⟩
              have HM6 := Lib.hid (HMK.out.below b6 (by omega))
              clear b6 HMK x0 x1
              have k2 : w6.cell? ⟨b + 1 + 1 + 1, 2, none⟩ = some (.int .i64 M.wr) := by rw [HM6.out.m.cell]; rfl
              have f2 := HM6.out.m.frozen 2
              go_upto_region 23 with fail
              obtain ⟨pk', wr', st', wh', HF, HWL, HM8⟩ : ∃ (pk' wr' st' : Int) (wh' : Bool), Hid (mkStep t a M k = ⟨pk', wr', M.pr + q1, M.nw + (if y1 = 1 ∧ y2 = 1 then 1 else 0), st', wh'⟩) ∧ Hid (wh' = false) ∧ Hid (MkW b w s K A B kn kc n c d t a (mkA ⟨pk', wr', M.pr + q1, M.nw, st', wh'⟩) (w6.setCell ⟨b + 1 + 1 + 1, 2, none⟩ (.int .i64 (M.wr + 1)))) := by
                refine ⟨M.pk, M.wr + 1, M.st, false, Lib.hid ?_, Lib.hid rfl, Lib.hid (HM6.out.set 2 (.int .i64 (M.wr + 1)))⟩
                unfold mkStep
                rw [HQ.out, HNW.out]
                simp
              obtain ⟨W8, hW8⟩ : ∃ W8, w6.setCell ⟨b + 1 + 1 + 1, 2, none⟩ (.int .i64 (M.wr + 1)) = W8 := ⟨_, rfl⟩
              rw [hW8] at HM8 ⊢
              clear hW8 HM6 k2 f2
              have hsz8 := HM8.out.lt
              obtain ⟨ad, v', rfl, hadl, hv', _, hcv⟩ := HM8.out.rt.at_ hin
              obtain rfl : v' = v := by have h9 := hv'.out; rw [HTV.out] at h9; injection h9 with h9; exact h9.symm
              obtain ⟨bd, u', rfl, hbdl, hu', _, hcu⟩ := HM8.out.ra.at_ hin
              obtain rfl : u' = u := by have h9 := hu'.out; rw [HAU.out] at h9; injection h9 with h9; exact h9.symm
              have x0 : W8.cell? ⟨b + 1, 0, none⟩ = some (.slice (some ad) n c) := by rw [HM8.out.x.cell]; rfl
              have x1 : W8.cell? ⟨b + 1, 1, none⟩ = some (.slice (some bd) n d) := by rw [HM8.out.x.cell]; rfl
              have HH := Lib.hid (hasS_any (some ad) (some bd) n c n d a k W8.drew HM8.out.ra.drew hin HA0.out)
              have HDR := Lib.hid (HM8.out.drew)
              clear hv' hu'
              have hcy : (y1 = 1 ∧ y2 = 1) ∨ (y1 = 1 ∧ y2 ≠ 1) ∨ y1 ≠ 1 := by omega
              rcases hcy with ⟨rfl, rfl⟩ | ⟨rfl, hy2⟩ | hy1
              · have HI1 : Hid ((if (1 : Int) = 1 ∧ (1 : Int) = 1 then (1 : Int) else 0) = 1) := Lib.hid (by decide)
                rw [HI1.out] at HF
                go_region_held3 (fun w' => ((w'.cell? ⟨b + 1, 0, none⟩ = some (.slice (some ad) n c) ∧ w'.cell? ⟨b + 1, 1, none⟩ = some (.slice (some bd) n d)) ∧ w'.cell? (ad.add k) = some (.int .i64 v')) ∧ w'.cell? (bd.add k) = some (.int .i64 u')) (first | exact ⟨⟨⟨x0, x1⟩, hcv⟩, hcu⟩ | exact ⟨⟨⟨z0, z1⟩, z2⟩, z3⟩ | exact ⟨⟨⟨x0, x1⟩, hcv⟩, hcu⟩) (first
                  | (go_at_call 135; refine HH.out.mono ?_; rintro e w9 ⟨rfl, b9⟩; have z0 := (b9.cell (p := ⟨b + 1, 0, none⟩) (by show b + 1 < W8.heap.size; omega)).trans x0; have z1 := (b9.cell (p := ⟨b + 1, 1, none⟩) (by show b + 1 < W8.heap.size; omega)).trans x1; have z2 := (b9.cell (p := ad.add k) (by rw [block_of_add]; exact hadl)).trans hcv; have z3 := (b9.cell (p := bd.add k) (by rw [block_of_add]; exact hbdl)).trans hcu; have HM9 := Lib.hid (HDR.out.below b9 (by show b ≤ W8.heap.size; omega)))
                  | (go_at_call 137; first | ((with_reducible refine (HC1.out w9 HM9.out.rt).mono ?_); rintro e w' ⟨rfl, rfl⟩) | ((with_reducible refine (HC2.out w9 HM9.out.ra).mono ?_); rintro e w' ⟨rfl, rfl⟩)))
                have k4 : w9.cell? ⟨b + 1 + 1 + 1, 4, none⟩ = some (.int .i64 M.nw) := by rw [HM9.out.m.cell]; rfl
                have f4 := HM9.out.m.frozen 4
                clear HDR HH HM8
                go_wp2
                go_roundw
                case rel => exact ⟨k + 1, by omega, by go_num, by rw [HNX.out, HF.out, HWL.out], by rw [HNX.out, HF.out, HWL.out], by rw [HNX.out, HF.out]; exact HM9.out.set 4 _⟩
                case measure => simp [intOf]; omega
              · have HI1 : Hid ((if (1 : Int) = 1 ∧ y2 = 1 then (1 : Int) else 0) = 0) := Lib.hid (by rw [if_neg]; omega)
                rw [HI1.out, Int.add_zero] at HF
                have gy : (y2 == 1) = false := beq_false_of_ne hy2
                go_region_held3 (fun w' => ((w'.cell? ⟨b + 1, 0, none⟩ = some (.slice (some ad) n c) ∧ w'.cell? ⟨b + 1, 1, none⟩ = some (.slice (some bd) n d)) ∧ w'.cell? (ad.add k) = some (.int .i64 v')) ∧ w'.cell? (bd.add k) = some (.int .i64 u')) (first | exact ⟨⟨⟨x0, x1⟩, hcv⟩, hcu⟩ | exact ⟨⟨⟨z0, z1⟩, z2⟩, z3⟩ | exact ⟨⟨⟨x0, x1⟩, hcv⟩, hcu⟩) (first
                  | (go_at_call 135; refine HH.out.mono ?_; rintro e w9 ⟨rfl, b9⟩; have z0 := (b9.cell (p := ⟨b + 1, 0, none⟩) (by show b + 1 < W8.heap.size; omega)).trans x0; have z1 := (b9.cell (p := ⟨b + 1, 1, none⟩) (by show b + 1 < W8.heap.size; omega)).trans x1; have z2 := (b9.cell (p := ad.add k) (by rw [block_of_add]; exact hadl)).trans hcv; have z3 := (b9.cell (p := bd.add k) (by rw [block_of_add]; exact hbdl)).trans hcu; have HM9 := Lib.hid (HDR.out.below b9 (by show b ≤ W8.heap.size; omega)))
                  | (go_at_call 137; first | ((with_reducible refine (HC1.out w9 HM9.out.rt).mono ?_); rintro e w' ⟨rfl, rfl⟩) | ((with_reducible refine (HC2.out w9 HM9.out.ra).mono ?_); rintro e w' ⟨rfl, rfl⟩)))
                clear HDR HH HM8
                go_wp2
                go_roundw
                case rel => exact ⟨k + 1, by omega, by go_num, by rw [HNX.out, HF.out, HWL.out], by rw [HNX.out, HF.out, HWL.out], by rw [HNX.out, HF.out]; exact HM9.out⟩
                case measure => simp [intOf]; omega
              · have HI1 : Hid ((if y1 = 1 ∧ y2 = 1 then (1 : Int) else 0) = 0) := Lib.hid (by rw [if_neg]; omega)
                rw [HI1.out, Int.add_zero] at HF
                have gy := fun w : World => eql_no hy1 w
                refine wp_region_held_drew (S := (fun w' => ((w'.cell? ⟨b + 1, 0, none⟩ = some (.slice (some ad) n c) ∧ w'.cell? ⟨b + 1, 1, none⟩ = some (.slice (some bd) n d)) ∧ w'.cell? (ad.add k) = some (.int .i64 v')) ∧ w'.cell? (bd.add k) = some (.int .i64 u'))) (by kernel_rfl) ⟨⟨⟨x0, x1⟩, hcv⟩, hcu⟩ (fun hHeld => ?_)
                refine wpAnyH_take (i := 0) (oi := _) (v := ?_) rfl (by kernel_rfl) (by kernel_rfl) (by kernel_rfl) (fun _ _ _ h => h) (Or.inl ⟨by rfl, ?_⟩) (by assumption) ?_
                rotate_left
                · (intro w hSw; (try dsimp only at hSw); go_simp; (try with_reducible rfl))
                try simp only [List.getElem_toArray, List.getElem_cons_zero, List.getElem_cons_succ, Act.put, List.setIfInBounds_toArray, List.set_cons_zero, List.set_cons_succ]
                refine wpAnyH_take (i := 1) (oi := _) (v := ?_) rfl (by kernel_rfl) (by kernel_rfl) (by kernel_rfl) (fun _ _ _ h => h) (Or.inl ⟨by rfl, ?_⟩) (by assumption) ?_
                rotate_left
                · (intro w hSw; (try dsimp only at hSw); go_simp; (try with_reducible rfl))
                try simp only [List.getElem_toArray, List.getElem_cons_zero, List.getElem_cons_succ, Act.put, List.setIfInBounds_toArray, List.set_cons_zero, List.set_cons_succ]
                refine wpAnyH_ready (rs := [2]) (by kernel_rfl) (by simp) ?_
                refine AllReadyH.cons (o := _) rfl (fun K hK => ?_) AllReadyH.nil
                go_simp
                go_at_call 135
                refine HH.out.mono ?_; rintro e w9 ⟨rfl, b9⟩
                have z0 := (b9.cell (p := ⟨b + 1, 0, none⟩) (by show b + 1 < W8.heap.size; omega)).trans x0
                have z1 := (b9.cell (p := ⟨b + 1, 1, none⟩) (by show b + 1 < W8.heap.size; omega)).trans x1
                have z2 := (b9.cell (p := ad.add k) (by rw [block_of_add]; exact hadl)).trans hcv
                have z3 := (b9.cell (p := bd.add k) (by rw [block_of_add]; exact hbdl)).trans hcu
                have HM9 := Lib.hid (HDR.out.below b9 (by show b ≤ W8.heap.size; omega))
                go_wp2_with fail
                refine hK.out _ _ ⟨⟨⟨z0, z1⟩, z2⟩, z3⟩ (fun hHeld => ?_)
                clear hK K
                try simp only [List.getElem_toArray, List.getElem_cons_zero, List.getElem_cons_succ, Act.put, List.setIfInBounds_toArray, List.set_cons_zero, List.set_cons_succ]
                refine wpAnyH_take (i := 3) (oi := _) (v := ?_) rfl (by kernel_rfl) (by kernel_rfl) (by kernel_rfl) (fun _ _ _ h => h) (Or.inl ⟨by rfl, ?_⟩) (by assumption) ?_
                rotate_left
                · (intro w hSw; (try dsimp only at hSw); go_simp; (try with_reducible rfl))
                try simp only [List.getElem_toArray, List.getElem_cons_zero, List.getElem_cons_succ, Act.put, List.setIfInBounds_toArray, List.set_cons_zero, List.set_cons_succ]
                refine wpAnyH_take (i := 4) (oi := _) (v := ?_) rfl (by kernel_rfl) (by kernel_rfl) (by kernel_rfl) (fun _ _ _ h => h) (Or.inl ⟨by rfl, ?_⟩) (by assumption) ?_
                rotate_left
                · (intro w hSw; (try dsimp only at hSw); go_simp; (try with_reducible rfl))
                try simp only [List.getElem_toArray, List.getElem_cons_zero, List.getElem_cons_succ, Act.put, List.setIfInBounds_toArray, List.set_cons_zero, List.set_cons_succ]
                refine wpAnyH_take (i := 5) (oi := _) (v := ?_) rfl (by kernel_rfl) (by kernel_rfl) (by kernel_rfl) (fun _ _ _ h => h) (Or.inl ⟨by rfl, ?_⟩) (by assumption) ?_
                rotate_left
                · (intro w hSw; (try dsimp only at hSw); go_simp; (try with_reducible rfl))
                try simp only [List.getElem_toArray, List.getElem_cons_zero, List.getElem_cons_succ, Act.put, List.setIfInBounds_toArray, List.set_cons_zero, List.set_cons_succ]
                refine wpAnyH_take (i := 6) (oi := _) (v := ?_) rfl (by kernel_rfl) (by kernel_rfl) (by kernel_rfl) (fun _ _ _ h => h) (Or.inl ⟨by rfl, ?_⟩) (by assumption) ?_
                rotate_left
                · (intro w hSw; (try dsimp only at hSw); go_simp; (try with_reducible rfl))
                try simp only [List.getElem_toArray, List.getElem_cons_zero, List.getElem_cons_succ, Act.put, List.setIfInBounds_toArray, List.set_cons_zero, List.set_cons_succ]
                refine wpAnyH_take (i := 7) (oi := _) (v := ?_) rfl (by kernel_rfl) (by kernel_rfl) (by kernel_rfl) (fun _ _ _ h => h) (Or.inl ⟨by rfl, ?_⟩) (by assumption) ?_
                rotate_left
                · (intro w hSw; (try dsimp only at hSw); go_simp; (try with_reducible rfl))
                try simp only [List.getElem_toArray, List.getElem_cons_zero, List.getElem_cons_succ, Act.put, List.setIfInBounds_toArray, List.set_cons_zero, List.set_cons_succ]
                refine wpAnyH_take (i := 8) (oi := _) (v := ?_) rfl (by kernel_rfl) (by kernel_rfl) (by kernel_rfl) (fun _ _ _ h => h) (Or.inl ⟨by rfl, ?_⟩) (by assumption) ?_
                rotate_left
                · (intro w hSw; (try dsimp only at hSw); go_simp; (try with_reducible rfl))
                try simp only [List.getElem_toArray, List.getElem_cons_zero, List.getElem_cons_succ, Act.put, List.setIfInBounds_toArray, List.set_cons_zero, List.set_cons_succ]
                refine wpAnyH_take (i := 9) (oi := _) (v := ?_) rfl (by kernel_rfl) (by kernel_rfl) (by kernel_rfl) (fun _ _ _ h => h) (Or.inl ⟨by rfl, ?_⟩) (by assumption) ?_
                rotate_left
                · (intro w hSw; (try dsimp only at hSw); go_simp; (try with_reducible rfl))
                try simp only [List.getElem_toArray, List.getElem_cons_zero, List.getElem_cons_succ, Act.put, List.setIfInBounds_toArray, List.set_cons_zero, List.set_cons_succ]
                refine wpAnyH_take (i := 10) (oi := _) (v := ?_) rfl (by kernel_rfl) (by kernel_rfl) (by kernel_rfl) (fun _ _ _ h => h) (Or.inl ⟨by rfl, ?_⟩) (by assumption) ?_
                rotate_left
                · (intro w hSw; (try dsimp only at hSw); go_simp; (try with_reducible rfl))
                try simp only [List.getElem_toArray, List.getElem_cons_zero, List.getElem_cons_succ, Act.put, List.setIfInBounds_toArray, List.set_cons_zero, List.set_cons_succ]
                refine wpAnyH_ready (rs := [11]) (by kernel_rfl) (by simp) ?_
                refine AllReadyH.cons (o := _) rfl (fun K hK => ?_) AllReadyH.nil
                go_simp
                go_at_call 137
                refine (HC1.out w9 HM9.out.rt).mono ?_; rintro e w' ⟨rfl, rfl⟩
                go_wp2_with fail
                refine hK.out _ _ ⟨⟨⟨z0, z1⟩, z2⟩, z3⟩ (fun hHeld => ?_)
                clear hK K
                try simp only [List.getElem_toArray, List.getElem_cons_zero, List.getElem_cons_succ, Act.put, List.setIfInBounds_toArray, List.set_cons_zero, List.set_cons_succ]
                refine wpAnyH_take (i := 12) (oi := _) (v := .bool false) rfl (by kernel_rfl) (by kernel_rfl) (by kernel_rfl) (fun _ _ _ h => h) (Or.inl ⟨by rfl, ?_⟩) (by assumption) ?_
                · (intro w hSw; (try dsimp only at hSw); go_simp; (try simp [hy1]))
                try simp only [List.getElem_toArray, List.getElem_cons_zero, List.getElem_cons_succ, Act.put, List.setIfInBounds_toArray, List.set_cons_zero, List.set_cons_succ]
                refine wpAnyH_take (i := 13) (oi := _) (v := ?_) rfl (by kernel_rfl) (by kernel_rfl) (by kernel_rfl) (fun _ _ _ h => h) (Or.inl ⟨by rfl, ?_⟩) (by assumption) ?_
                rotate_left
                · (intro w hSw; (try dsimp only at hSw); go_simp; (try with_reducible rfl))
                try simp only [List.getElem_toArray, List.getElem_cons_zero, List.getElem_cons_succ, Act.put, List.setIfInBounds_toArray, List.set_cons_zero, List.set_cons_succ]
                refine wpAnyH_take (i := 14) (oi := _) (v := ?_) rfl (by kernel_rfl) (by kernel_rfl) (by kernel_rfl) (fun _ _ _ h => h) (Or.inl ⟨by rfl, ?_⟩) (by assumption) ?_
                rotate_left
                · (intro w hSw; (try dsimp only at hSw); go_simp; (try with_reducible rfl))
                try simp only [List.getElem_toArray, List.getElem_cons_zero, List.getElem_cons_succ, Act.put, List.setIfInBounds_toArray, List.set_cons_zero, List.set_cons_succ]
                refine wpAnyH_take (i := 15) (oi := _) (v := undef) rfl (by kernel_rfl) (by kernel_rfl) (by kernel_rfl) (fun _ _ _ h => h) (Or.inr ⟨by rfl, rfl⟩) (by assumption) ?_
                try simp only [List.getElem_toArray, List.getElem_cons_zero, List.getElem_cons_succ, Act.put, List.setIfInBounds_toArray, List.set_cons_zero, List.set_cons_succ]
                refine wpAnyH_take (i := 16) (oi := _) (v := undef) rfl (by kernel_rfl) (by kernel_rfl) (by kernel_rfl) (fun _ _ _ h => h) (Or.inr ⟨by rfl, rfl⟩) (by assumption) ?_
                try simp only [List.getElem_toArray, List.getElem_cons_zero, List.getElem_cons_succ, Act.put, List.setIfInBounds_toArray, List.set_cons_zero, List.set_cons_succ]
                refine wpAnyH_take (i := 17) (oi := _) (v := undef) rfl (by kernel_rfl) (by kernel_rfl) (by kernel_rfl) (fun _ _ _ h => h) (Or.inr ⟨by rfl, rfl⟩) (by assumption) ?_
                try simp only [List.getElem_toArray, List.getElem_cons_zero, List.getElem_cons_succ, Act.put, List.setIfInBounds_toArray, List.set_cons_zero, List.set_cons_succ]
                refine wpAnyH_take (i := 18) (oi := _) (v := undef) rfl (by kernel_rfl) (by kernel_rfl) (by kernel_rfl) (fun _ _ _ h => h) (Or.inr ⟨by rfl, rfl⟩) (by assumption) ?_
                try simp only [List.getElem_toArray, List.getElem_cons_zero, List.getElem_cons_succ, Act.put, List.setIfInBounds_toArray, List.set_cons_zero, List.set_cons_succ]
                refine wpAnyH_take (i := 19) (oi := _) (v := undef) rfl (by kernel_rfl) (by kernel_rfl) (by kernel_rfl) (fun _ _ _ h => h) (Or.inr ⟨by rfl, rfl⟩) (by assumption) ?_
                try simp only [List.getElem_toArray, List.getElem_cons_zero, List.getElem_cons_succ, Act.put, List.setIfInBounds_toArray, List.set_cons_zero, List.set_cons_succ]
                refine wpAnyH_take (i := 20) (oi := _) (v := undef) rfl (by kernel_rfl) (by kernel_rfl) (by kernel_rfl) (fun _ _ _ h => h) (Or.inr ⟨by rfl, rfl⟩) (by assumption) ?_
                try simp only [List.getElem_toArray, List.getElem_cons_zero, List.getElem_cons_succ, Act.put, List.setIfInBounds_toArray, List.set_cons_zero, List.set_cons_succ]
                refine wpAnyH_take (i := 21) (oi := _) (v := undef) rfl (by kernel_rfl) (by kernel_rfl) (by kernel_rfl) (fun _ _ _ h => h) (Or.inr ⟨by rfl, rfl⟩) (by assumption) ?_
                try simp only [List.getElem_toArray, List.getElem_cons_zero, List.getElem_cons_succ, Act.put, List.setIfInBounds_toArray, List.set_cons_zero, List.set_cons_succ]
                refine wpAnyH_take (i := 22) (oi := _) (v := undef) rfl (by kernel_rfl) (by kernel_rfl) (by kernel_rfl) (fun _ _ _ h => h) (Or.inr ⟨by rfl, rfl⟩) (by assumption) ?_
                try simp only [List.getElem_toArray, List.getElem_cons_zero, List.getElem_cons_succ, Act.put, List.setIfInBounds_toArray, List.set_cons_zero, List.set_cons_succ]
                refine wpAnyH_take (i := 23) (oi := _) (v := undef) rfl (by kernel_rfl) (by kernel_rfl) (by kernel_rfl) (fun _ _ _ h => h) (Or.inr ⟨by rfl, rfl⟩) (by assumption) ?_
                try simp only [List.getElem_toArray, List.getElem_cons_zero, List.getElem_cons_succ, Act.put, List.setIfInBounds_toArray, List.set_cons_zero, List.set_cons_succ]
                refine wpAnyH_take (i := 24) (oi := _) (v := ?_) rfl (by kernel_rfl) (by kernel_rfl) (by kernel_rfl) (fun _ _ _ h => h) (Or.inl ⟨by rfl, ?_⟩) (by assumption) ?_
                rotate_left
                · (intro w hSw; (try dsimp only at hSw); go_simp; (try with_reducible rfl))
                try simp only [List.getElem_toArray, List.getElem_cons_zero, List.getElem_cons_succ, Act.put, List.setIfInBounds_toArray, List.set_cons_zero, List.set_cons_succ]
                refine wpAnyH_done (by kernel_rfl) ?_ _
                clear HDR HH HM8
                go_wp2
                go_roundw
                case rel => exact ⟨k + 1, by omega, by go_num, by rw [HNX.out, HF.out, HWL.out], by rw [HNX.out, HF.out, HWL.out], by rw [HNX.out, HF.out]; exact HM9.out⟩
                case measure => simp [intOf]; omega
    · have hin2 : i = n := by omega
      subst hin2
      have HBI := Lib.hid (HBD.out i (Nat.le_refl _))
      have HMT : Hid (mkTo t a t.length = mkTo t a i) := Lib.hid (by rw [HLN.out])
      obtain ⟨M, hM⟩ : ∃ M, mkTo t a i = M := ⟨_, rfl⟩
      rw [hM] at HMW HBI HMT ⊢
      clear hM HBD hin hi
      have hcw : M.wh = true ∨ M.wh = false := by cases M.wh <;> simp
      have HNO : Hid (hasI a (-1) = false) := Lib.hid (by
        unfold hasI
        rw [decide_eq_false_iff_not]
        intro hm
        have := HA0.out _ hm
        omega)
      have HOE := Lib.hid (ofE_ok (l := a) (by rw [HLN2.out]; omega) (by rw [HLN2.out]; omega))
      have HOL := Lib.hid ((ofL_length a).trans HLN2.out)
      have hco := chk_ofL (l := a) (by rw [HLN2.out]; omega) (by rw [HLN2.out]; omega)
      have hll : (ofL a).length = t.length := by rw [HOL.out, HLN.out]
      have HMV : Hid (movesP (ofL a) t = (mvN (ofL a) t, 0)) := Lib.hid (by rw [moves_eq]; exact movesR_ok hco HTK.out hll)
      have hmv0 := mv_nonneg hco HTK.out hll
      have hmv9 := mv_lt hco HTK.out hll
      rw [HOL.out] at hmv9
      have HHO : Hid (honL t a = max 0 (3 - mvN (ofL a) t)) := Lib.hid rfl
      obtain ⟨y, hy⟩ : ∃ y, mvN (ofL a) t = y := ⟨_, rfl⟩
      rw [hy] at HMV HHO hmv0 hmv9
      clear hco hll hy
      have k5 : wr.cell? ⟨b + 1 + 1 + 1, 5, none⟩ = some (.int .i64 0) := by rw [HMW.out.m.cell]; rfl
      have f5 := HMW.out.m.frozen 5
      have hwi : whI M = if M.wh = true then 1 else 0 := rfl
      have HM9 : Hid (MkW b w s K A B kn kc i c d t a ((mkA M).setIfInBounds 5 (.int .i64 (whI M))) (if M.wh = true then wr.setCell ⟨b + 1 + 1 + 1, 5, none⟩ (.int .i64 1) else wr)) := Lib.hid (by
        by_cases e : M.wh = true
        · rw [if_pos e, hwi, if_pos e]; exact HMW.out.set 5 _
        · rw [if_neg e, hwi, if_neg e]; exact HMW.out)
      clear hwi
      rcases hcw with hwh | hwh
      all_goals
        rw [hwh] at HM9 ⊢
        clear hwh
        go_upto_region 28 with fail
        first
          | (rw [if_pos rfl] at HM9; obtain ⟨W9, hW9⟩ : ∃ W9, wr.setCell ⟨b + 1 + 1 + 1, 5, none⟩ (.int .i64 1) = W9 := ⟨_, rfl⟩; rw [hW9] at HM9 ⊢; clear hW9)
          | (rw [if_neg (by decide)] at HM9; obtain ⟨W9, rfl⟩ : ∃ W9, W9 = wr := ⟨_, rfl⟩)
        clear HMW k5 f5
        have x1 : W9.cell? ⟨b + 1, 1, none⟩ = some (.slice B i d) := by rw [HM9.out.x.cell]; rfl
        have hsz9 := HM9.out.lt
        go_wp2_with fail
        refine (contains_any B i d a (-1) W9 HM9.out.ra (by omega)).mono ?_; rintro e w' ⟨rfl, rfl⟩
        rw [HNO.out]
        go_wp2_with fail
        refine (progOf_any B i d a W9 HM9.out.ra).mono ?_; rintro e w10 ⟨A10, c10, rfl, h10, b10⟩
        rw [HOE.out] at h10 ⊢
        simp only at h10 ⊢
        rw [HOL.out] at h10 ⊢
        have HL10 := Lib.hid h10.rd
        have HM10 := Lib.hid (HM9.out.below b10 (by omega))
        have hsz10 := HM10.out.lt
        have x0 : w10.cell? ⟨b + 1, 0, none⟩ = some (.slice A i c) := by rw [HM10.out.x.cell]; rfl
        clear h10 b10 HM9 x1
        go_wp2_with fail
        refine (moves_any A10 A i i c10 c (ofL a) t w10 HL10.out HM10.out.rt).mono ?_; rintro e w11 ⟨rfl, b11⟩
        rw [HMV.out]
        have HM11 := Lib.hid (HM10.out.below b11 (by omega))
        clear b11 HM10 HL10 x0
        have k7 : w11.cell? ⟨b + 1 + 1 + 1, 7, none⟩ = some (.int .i64 0) := by rw [HM11.out.m.cell]; rfl
        have f7 := HM11.out.m.frozen 7
        go_upto_region 32 with fail
        have HM12 := Lib.hid (HM11.out.set 7 (.int .i64 (max 0 (3 - y))))
        obtain ⟨W12, hW12⟩ : ∃ W12, w11.setCell ⟨b + 1 + 1 + 1, 7, none⟩ (.int .i64 (max 0 (3 - y))) = W12 := ⟨_, rfl⟩
        rw [hW12] at HM12 ⊢
        clear hW12 HM11 k7 f7
        rw [← HHO.out] at HM12
        obtain ⟨z, hz⟩ : ∃ z, honL t a = z := ⟨_, rfl⟩
        obtain ⟨x, hx⟩ : ∃ x, whI M = x := ⟨_, rfl⟩
        rw [hz, hx] at HM12
        have HZ := Lib.hid hz
        have HX := Lib.hid hx
        have hx1 : 0 ≤ x ∧ x ≤ 1 := by rw [← hx]; unfold whI; split <;> omega
        clear hz hx
        obtain ⟨⟨⟨a1, b1⟩, ⟨a2, b2⟩, ⟨a3, b3⟩, ⟨a4, b4⟩, ⟨a5, b5⟩⟩, _, _, _⟩ := HSO.out
        have m1 : 0 ≤ s.p1 * M.pk ∧ s.p1 * M.pk ≤ 1000 * 9 := ⟨Int.mul_nonneg a1 HBI.out.pk.1, Int.mul_le_mul b1 (by have := HBI.out.pk; omega) HBI.out.pk.1 (by omega)⟩
        have m2 : 0 ≤ s.p2 * M.pr ∧ s.p2 * M.pr ≤ 1000 * 81 := ⟨Int.mul_nonneg a2 HBI.out.pr.1, Int.mul_le_mul b2 (by have := HBI.out.pr; omega) HBI.out.pr.1 (by omega)⟩
        have m3 : 0 ≤ s.p4 * M.nw ∧ s.p4 * M.nw ≤ 1000 * 9 := ⟨Int.mul_nonneg a4 HBI.out.nw.1, Int.mul_le_mul b4 (by have := HBI.out.nw; omega) HBI.out.nw.1 (by omega)⟩
        have m4 : 0 ≤ s.p3 * x ∧ s.p3 * x ≤ 1000 * 1 := ⟨Int.mul_nonneg a3 hx1.1, Int.mul_le_mul b3 hx1.2 hx1.1 (by omega)⟩
        have m5 : 0 ≤ s.p5 * M.wr ∧ s.p5 * M.wr ≤ 1000 * 9 := ⟨Int.mul_nonneg a5 HBI.out.wr.1, Int.mul_le_mul b5 (by have := HBI.out.wr; omega) HBI.out.wr.1 (by omega)⟩
        have e1 : IntKind.i64.wrap (s.p1 * M.pk) = s.p1 * M.pk := IntWalk.i64_in _ (by omega)
        have e2 : IntKind.i64.wrap (s.p2 * M.pr) = s.p2 * M.pr := IntWalk.i64_in _ (by omega)
        have e3 : IntKind.i64.wrap (s.p4 * M.nw) = s.p4 * M.nw := IntWalk.i64_in _ (by omega)
        have e4 : IntKind.i64.wrap (s.p3 * x) = s.p3 * x := IntWalk.i64_in _ (by omega)
        have e5 : IntKind.i64.wrap (s.p5 * M.wr) = s.p5 * M.wr := IntWalk.i64_in _ (by omega)
        have HPT : Hid (ptL s M = s.p1 * M.pk + s.p2 * M.pr + s.p4 * M.nw + s.p3 * x - s.p5 * M.wr) := Lib.hid (by unfold ptL; rw [HX.out])
        have t0 : W12.cell? ⟨b, 0, none⟩ = some (.int .i64 s.p1) := by rw [HM12.out.s.cell]; rfl
        have t1 : W12.cell? ⟨b, 1, none⟩ = some (.int .i64 s.p2) := by rw [HM12.out.s.cell]; rfl
        have t2 : W12.cell? ⟨b, 2, none⟩ = some (.int .i64 s.p3) := by rw [HM12.out.s.cell]; rfl
        have t3 : W12.cell? ⟨b, 3, none⟩ = some (.int .i64 s.p4) := by rw [HM12.out.s.cell]; rfl
        have t4 : W12.cell? ⟨b, 4, none⟩ = some (.int .i64 s.p5) := by rw [HM12.out.s.cell]; rfl
        have k0 : W12.cell? ⟨b + 1 + 1 + 1, 0, none⟩ = some (.int .i64 0) := by rw [HM12.out.m.cell]; rfl
        have k1 : W12.cell? ⟨b + 1 + 1 + 1, 1, none⟩ = some (.int .i64 M.pk) := by rw [HM12.out.m.cell]; rfl
        have k2 : W12.cell? ⟨b + 1 + 1 + 1, 2, none⟩ = some (.int .i64 M.wr) := by rw [HM12.out.m.cell]; rfl
        have k3 : W12.cell? ⟨b + 1 + 1 + 1, 3, none⟩ = some (.int .i64 M.pr) := by rw [HM12.out.m.cell]; rfl
        have k4 : W12.cell? ⟨b + 1 + 1 + 1, 4, none⟩ = some (.int .i64 M.nw) := by rw [HM12.out.m.cell]; rfl
        have k5 : W12.cell? ⟨b + 1 + 1 + 1, 5, none⟩ = some (.int .i64 x) := by rw [HM12.out.m.cell]; rfl
        have f0 := HM12.out.m.frozen 0
        clear hx1
        go_upto_region 33 with fail
        have HM13 := Lib.hid (HM12.out.set 0 (.int .i64 (s.p1 * M.pk + s.p2 * M.pr + s.p4 * M.nw + s.p3 * x - s.p5 * M.wr)))
        rw [← HPT.out] at HM13 ⊢
        obtain ⟨p, hp⟩ : ∃ p, ptL s M = p := ⟨_, rfl⟩
        rw [hp] at HM13 ⊢
        have HP := Lib.hid hp
        obtain ⟨W13, hW13⟩ : ∃ W13, W12.setCell ⟨b + 1 + 1 + 1, 0, none⟩ (.int .i64 p) = W13 := ⟨_, rfl⟩
        rw [hW13] at HM13 ⊢
        clear hp hW13 HM12 t0 t1 t2 t3 t4 k0 k1 k2 k3 k4 k5 f0 m1 m2 m3 m4 m5 e1 e2 e3 e4 e5 HPT
        have k0 : W13.cell? ⟨b + 1 + 1 + 1, 0, none⟩ = some (.int .i64 p) := by rw [HM13.out.m.cell]; rfl
        have k1 : W13.cell? ⟨b + 1 + 1 + 1, 1, none⟩ = some (.int .i64 M.pk) := by rw [HM13.out.m.cell]; rfl
        have k2 : W13.cell? ⟨b + 1 + 1 + 1, 2, none⟩ = some (.int .i64 M.wr) := by rw [HM13.out.m.cell]; rfl
        have k3 : W13.cell? ⟨b + 1 + 1 + 1, 3, none⟩ = some (.int .i64 M.pr) := by rw [HM13.out.m.cell]; rfl
        have k4 : W13.cell? ⟨b + 1 + 1 + 1, 4, none⟩ = some (.int .i64 M.nw) := by rw [HM13.out.m.cell]; rfl
        have k5 : W13.cell? ⟨b + 1 + 1 + 1, 5, none⟩ = some (.int .i64 x) := by rw [HM13.out.m.cell]; rfl
        have k6 : W13.cell? ⟨b + 1 + 1 + 1, 6, none⟩ = some (.int .i64 M.st) := by rw [HM13.out.m.cell]; rfl
        have k7 : W13.cell? ⟨b + 1 + 1 + 1, 7, none⟩ = some (.int .i64 z) := by rw [HM13.out.m.cell]; rfl
        have z0 : W13.cell? ⟨b + 1 + 1, 0, none⟩ = some (.int .i64 0) := by rw [HM13.out.o.cell]; rfl
        have z1 : W13.cell? ⟨b + 1 + 1, 1, none⟩ = some (.int .i64 0) := by rw [HM13.out.o.cell]; rfl
        have z2 : W13.cell? ⟨b + 1 + 1, 2, none⟩ = some (.int .i64 0) := by rw [HM13.out.o.cell]; rfl
        have z3 : W13.cell? ⟨b + 1 + 1, 3, none⟩ = some (.int .i64 0) := by rw [HM13.out.o.cell]; rfl
        have z4 : W13.cell? ⟨b + 1 + 1, 4, none⟩ = some (.int .i64 0) := by rw [HM13.out.o.cell]; rfl
        have z5 : W13.cell? ⟨b + 1 + 1, 5, none⟩ = some (.int .i64 0) := by rw [HM13.out.o.cell]; rfl
        have z6 : W13.cell? ⟨b + 1 + 1, 6, none⟩ = some (.int .i64 0) := by rw [HM13.out.o.cell]; rfl
        have z7 : W13.cell? ⟨b + 1 + 1, 7, none⟩ = some (.int .i64 0) := by rw [HM13.out.o.cell]; rfl
        have g0 := HM13.out.o.frozen 0
        have g1 := HM13.out.o.frozen 1
        have g2 := HM13.out.o.frozen 2
        have g3 := HM13.out.o.frozen 3
        have g4 := HM13.out.o.frozen 4
        have g5 := HM13.out.o.frozen 5
        have g6 := HM13.out.o.frozen 6
        have g7 := HM13.out.o.frozen 7
        have HXF := Lib.hid ((((((((HM13.out.o.set_ 0 (.int .i64 p)).set_ 1 (.int .i64 M.pk)).set_ 2 (.int .i64 M.wr)).set_ 3 (.int .i64 M.pr)).set_ 4 (.int .i64 M.nw)).set_ 5 (.int .i64 x)).set_ 6 (.int .i64 M.st)).set_ 7 (.int .i64 z))
        have hbb : b ≤ b + 1 + 1 := by omega
        have HBF := Lib.hid ((((((((HM13.out.bel.setCell (p := ⟨b + 1 + 1, 0, none⟩) hbb (.int .i64 p)).setCell (p := ⟨b + 1 + 1, 1, none⟩) hbb (.int .i64 M.pk)).setCell (p := ⟨b + 1 + 1, 2, none⟩) hbb (.int .i64 M.wr)).setCell (p := ⟨b + 1 + 1, 3, none⟩) hbb (.int .i64 M.pr)).setCell (p := ⟨b + 1 + 1, 4, none⟩) hbb (.int .i64 M.nw)).setCell (p := ⟨b + 1 + 1, 5, none⟩) hbb (.int .i64 x)).setCell (p := ⟨b + 1 + 1, 6, none⟩) hbb (.int .i64 M.st)).setCell (p := ⟨b + 1 + 1, 7, none⟩) hbb (.int .i64 z))
        have HEQ : Hid (Value.agg #[.int .i64 p, .int .i64 M.pk, .int .i64 M.wr, .int .i64 M.pr, .int .i64 M.nw, .int .i64 x, .int .i64 M.st, .int .i64 z] = markV s t a) := Lib.hid (by
          unfold markV
          rw [HMT.out, HP.out, HX.out, HZ.out])
        go_wp2
        exact bodyPost_ret (v := .agg #[.int .i64 p, .int .i64 M.pk, .int .i64 M.wr, .int .i64 M.pr, .int .i64 M.nw, .int .i64 x, .int .i64 M.st, .int .i64 z]) (results_cell_row rfl _ _ (b + 1 + 1) 82 _ (0, 0) _ rfl HXF.out Try.underlying82 rfl (by kernel_rfl)) rfl ⟨by rw [HEQ.out], by rw [HBB.out]; exact HBF.out⟩
end Go.Proofs.Ytcmacejpoihhlaa

namespace Go.Proofs.Ytcmacejpoihhlaa
open Go.RowKit

theorem stock_chk {l : List Int} {n d count : Nat} (hlen : l.length = n) (h1 : 1 ≤ n) (h6 : n ≤ 6) (hc : ∀ x ∈ l, 1 ≤ x ∧ x ≤ (count : Int)) (h9 : count ≤ 9) (hd1 : 1 ≤ d) (hd9 : d ≤ 9) (hds : (d : Int) ≤ sumI l) : chkS l d = 0 := by
  have hok : okCounts l = true := by unfold okCounts; rw [List.all_eq_true]; intro x hx; have := hc x hx; simp; omega
  rw [chkS_good (by omega) (by omega) hok, if_pos (by omega)]
theorem shaped_ok {l : List Int} {d : Nat} (h : chkS l d = 0) (h6 : d ≤ 6) : shapedC l d = 0 := by unfold shapedC; rw [if_neg (by omega), if_neg (by omega)]
theorem shapesE_ok {l : List Int} {d : Nat} (h : shapedC l d = 0) : shapesE l d = (shapesTo l d (countR d).toNat, 0) := by unfold shapesE; rw [if_neg (by omega), Int.toNat_natCast]
/-- what the best guess is -/
theorem best_is {l : List Int} {d : Nat} (hz : chkS l d = 0) (h6 : d ≤ 6) : ∃ r : Nat, (r : Int) < countR d ∧ (bestTo l d (countR d).toNat) = (pr d r, waysOf l (pr d r)) ∧ 0 < waysOf l (pr d r) ∧
    (∀ i, i < (countR d).toNat → waysOf l (pr d i) ≤ waysOf l (pr d r)) ∧ ∀ i, i < r → waysOf l (pr d i) < waysOf l (pr d r) := by
  have hk := chkS_ok hz
  have hp := best_pos (n := d) hk.2.2.1 hk.2.1 hk.2.2.2.2.2.2 (by omega) h6 (by omega)
  have hb := best_ok l d (countR d).toNat
  rcases hb.at_ with ⟨h0, _⟩ | ⟨_, r, hr, he, hlt⟩
  · omega
  · have hc := count_pos (d := d) (by omega) h6
    have h2 : (bestTo l d (countR d).toNat).2 = waysOf l (pr d r) := by rw [he]
    exact ⟨r, by omega, he, by rw [← h2]; exact hp, fun i hi => by rw [← h2]; exact hb.most i hi, fun i hi => by rw [← h2]; exact hlt i hi⟩
theorem shapesTo_len (c : List Int) (n k : Nat) : (shapesTo c n k).length = k := by simp [shapesTo]
theorem shapesTo_get {c : List Int} {n k i : Nat} {v : Int} (h : (shapesTo c n k)[i]? = some v) : i < k ∧ v = waysOf c (pr n i) := by
  unfold shapesTo at h
  rw [List.getElem?_map] at h
  by_cases hi : i < k
  · rw [List.getElem?_range hi] at h; simp at h; exact ⟨hi, h.symm⟩
  · rw [List.getElem?_eq_none (by simp; omega)] at h; cases h

set_option maxHeartbeats 400000 in
theorem long5_any (A : Option Addr) (n c : Nat) (w : World) (h : n ≤ 17592186044416) : Calls Try.prog 18 #[.slice A n c] w fun e w' => e = .returned (.bool (decide (40 < n))) ∧ w = w' := by
  by_cases h1 : 40 < n
  · have g : decide (40 < (n : Int)) = true := decide_eq_true (by omega)
    have hI : (40 : Int) < n := by omega
    go_enter Try.func18, Try.ntmps18
    go_wp2
    go_ret
    exact ⟨ret_bool (by simp [h1]), rfl⟩
  · have g : decide (40 < (n : Int)) = false := decide_eq_false (by omega)
    have hI : (n : Int) ≤ 40 := by omega
    go_enter Try.func18, Try.ntmps18
    go_wp2
    go_ret
    exact ⟨ret_bool (by simp; omega), rfl⟩

/-- one of some numbers, the box g turned -/
def Picked (l : List Int) (g : Nat) (w : World) (e : Ending) (w' : World) : Prop := ∃ v : Int, e = .returned (.int .i64 v) ∧ v ∈ l ∧ Step g w w'
set_option maxHeartbeats 400000 in
theorem pick_any (g : Nat) (A : Option Addr) (n c : Nat) (l : List Int) (w : World) (hb : IsBox w g) (h : RdI w A n l) (hA : ∀ b, A.map (·.block) = some b → b ≠ g) (hn : 0 < n) (hn2 : n ≤ 1000) :
    Calls Try.prog 22 #[.pointer (some ⟨g, 0, none⟩), .slice A n c] w (Picked l g w) := by
  have g0 : ((n : Int) == 0) = false := by simp; omega
  go_enter Try.func22, Try.ntmps22
  go_wp2_with fail
  refine (up_any g n w hb (by omega) (by omega)).mono ?_; rintro e w2 ⟨v, rfl, hv0, hv1, hst⟩
  obtain ⟨v, rfl⟩ : ∃ v' : Nat, v = v' := ⟨v.toNat, by omega⟩
  have hvn : v < n := by omega
  have hr2 : RdI w2 A n l := h.grown hst.grown (fun b e1 e2 => by injection e1 with e1; exact hA b e2 e1.symm)
  obtain ⟨ad, x, rfl, _, hx, _, hc⟩ := hr2.at_ hvn
  have HST := Lib.hid hst
  have HX := Lib.hid (List.mem_of_getElem? hx.out)
  have hvI : (v : Int) < n := by omega
  clear hst hr2 hv1 hx h
  go_wp2
  go_ret
  exact ⟨x, rfl, HX.out, HST.out⟩

theorem RdI.spun0 {w w' : World} {g n : Nat} {A : Option Addr} {l : List Int} (h : RdI w A n l) (hs : Spun g w w') (hA : 0 < n → ∀ b, A.map (·.block) = some b → b ≠ g) : RdI w' A n l := by
  rcases Nat.eq_zero_or_pos n with h0 | h0
  · subst h0
    have hl : l = [] := List.eq_nil_of_length_eq_zero (by have := h.len; omega)
    subst hl
    exact RdI.nil_
  · exact h.spun hs (hA h0)
/-- a stock's two cells, and what lies behind them -/
structure StkAt (W : World) (q : Nat) (A : Option Addr) (n c : Nat) (l : List Int) (d : Int) : Prop where
  x : Blk W q 24 #[.slice A n c, .int .i64 d]
  rd : RdI W A n l
/-- the box, two stocks and a list, while the box is turned -/
structure WaysL (w : World) (g q0 q1 : Nat) (A0 A1 A : Option Addr) (n0 c0 n1 n c : Nat) (l0 l1 l : List Int) (d0 d : Int) (W : World) : Prop where
  s0 : StkAt W q0 A0 n0 c0 l0 d0
  s1 : StkAt W q1 A n c l d
  r : RdI W A1 n1 l1
  box : IsBox W g
  bel : Below w.heap.size w W
  ne : (0 < n0 → ∀ b, A0.map (·.block) = some b → b ≠ g) ∧ (0 < n → ∀ b, A.map (·.block) = some b → b ≠ g) ∧ (0 < n1 → ∀ b, A1.map (·.block) = some b → b ≠ g) ∧ q0 ≠ g ∧ q1 ≠ g ∧ w.heap.size ≤ g
section
variable {w W W' : World} {g q0 q1 : Nat} {A0 A1 A : Option Addr} {n0 c0 n1 n c : Nat} {l0 l1 l : List Int} {d0 d : Int}
theorem StkAt.below {q : Nat} (h : StkAt W q A n c l d) (hb : Below W.heap.size W W') : StkAt W' q A n c l d := ⟨h.x.below hb, h.rd.below hb⟩
theorem WaysL.below (h : WaysL w g q0 q1 A0 A1 A n0 c0 n1 n c l0 l1 l d0 d W) (hb : Below W.heap.size W W') : WaysL w g q0 q1 A0 A1 A n0 c0 n1 n c l0 l1 l d0 d W' :=
  ⟨h.s0.below hb, h.s1.below hb, h.r.below hb, h.box.below hb, h.bel.trans (hb.mono h.bel.size), h.ne⟩
theorem WaysL.keep (h : WaysL w g q0 q1 A0 A1 A n0 c0 n1 n c l0 l1 l d0 d W) : (W.cell? ⟨q0, 0, none⟩ = some (.slice A0 n0 c0) ∧ W.cell? ⟨q0, 1, none⟩ = some (.int .i64 d0)) ∧ (W.cell? ⟨q1, 0, none⟩ = some (.slice A n c) ∧ W.cell? ⟨q1, 1, none⟩ = some (.int .i64 d)) :=
  ⟨⟨by rw [h.s0.x.cell]; rfl, by rw [h.s0.x.cell]; rfl⟩, by rw [h.s1.x.cell]; rfl, by rw [h.s1.x.cell]; rfl⟩
theorem blk_new2 (w : World) (o : Obj) (t : TypeId) (cs : Array Value) : Blk ((w.alloc o).alloc (.cells cs t)) (w.heap.size + 1) t cs := by
  have h := Blk.new (w.alloc o) t cs
  rwa [show (w.alloc o).heap.size = w.heap.size + 1 by simp] at h
theorem WaysL.alloc (h : WaysL w g q0 q1 A0 A1 A n0 c0 n1 n c l0 l1 l d0 d W) (o : Obj) : WaysL w g q0 q1 A0 A1 A n0 c0 n1 n c l0 l1 l d0 d (W.alloc o) := h.below ((Below.refl _ W).alloc (Nat.le_refl _) o)
theorem WaysL.drew (h : WaysL w g q0 q1 A0 A1 A n0 c0 n1 n c l0 l1 l d0 d W) : WaysL w g q0 q1 A0 A1 A n0 c0 n1 n c l0 l1 l d0 d W.drew := h.below ((Below.refl _ W).drew)
theorem WaysL.spun (h : WaysL w g q0 q1 A0 A1 A n0 c0 n1 n c l0 l1 l d0 d W) (hs : Spun g W W') : WaysL w g q0 q1 A0 A1 A n0 c0 n1 n c l0 l1 l d0 d W' := by
  obtain ⟨n1', n2', n3', n4', n5', n6'⟩ := h.ne
  exact ⟨⟨h.s0.x.grown hs.grown (fun e => by injection e with e; exact n4' e), h.s0.rd.spun0 hs n1'⟩, ⟨h.s1.x.grown hs.grown (fun e => by injection e with e; exact n5' e), h.s1.rd.spun0 hs n2'⟩, h.r.spun0 hs n3', hs.box, h.bel.trans (hs.below n6' h.bel.size), h.ne⟩
end

end Go.Proofs.Ytcmacejpoihhlaa

namespace Go.Proofs.Ytcmacejpoihhlaa
open Go.RowKit

def ScoringMade (g : Nat) (w : World) (e : Ending) (w' : World) : Prop :=
  ∃ (s : Scoring) (K : Option Addr) (kn kc : Nat), e = .returned (.agg (scCells s K kn kc)) ∧ s.ok ∧ kn ≤ kc ∧ OwnI w' w.heap.size 3 K kn kc s.keys ∧ Spun g w w'

theorem lit2 (w : World) (r : Int) (t : TypeId) (hr : I64 r) : RdI (w.alloc (.cells #[.int .i64 0, .int .i64 r] t)) (some ⟨w.heap.size, 0, none⟩) 2 [0, r] :=
  (OwnI.lit w t [0, r] 2 (by omega) rfl 0 (by omega) (by intro v hv; simp at hv; rcases hv with rfl | rfl; exact I64.small (by omega); exact hr)).rd

set_option maxHeartbeats 4000000 in
set_option maxRecDepth 100000 in
theorem scoringOf_any (g : Nat) (w : World) (h : IsBox w g) : Calls Try.prog 72 #[.pointer (some ⟨g, 0, none⟩)] w (ScoringMade g w) := by
  have hgl := h.lt
  go_enter Try.func72, Try.ntmps72
  have HX0 := Lib.hid (Blk.new w 79 #[.int .i64 0, .int .i64 0, .int .i64 0, .int .i64 0, .int .i64 0, .slice none 0 0])
  have HSP : Hid (Spun g w (w.alloc (.cells #[.int .i64 0, .int .i64 0, .int .i64 0, .int .i64 0, .int .i64 0, .slice none 0 0] 79))) := Lib.hid ⟨h.alloc _, grown_of_below ((Below.refl _ _).alloc (Nat.le_refl _) _) _⟩
  go_wp2_with fail
  obtain ⟨W0, hW0⟩ : ∃ W0, w.alloc (.cells #[.int .i64 0, .int .i64 0, .int .i64 0, .int .i64 0, .int .i64 0, .slice none 0 0] 79) = W0 := ⟨_, rfl⟩
  rw [hW0] at HX0 HSP ⊢
  clear hW0 h
  have hgs : g ≠ w.heap.size := by omega
  refine (up_any g 5 W0 HSP.out.box (by omega) (by omega)).mono ?_; rintro e w1 ⟨p1, rfl, p10, p11, hst⟩
  have HX1 := Lib.hid (HX0.out.grown hst.grown (fun e => by injection e with e; exact hgs e.symm))
  have HSP1 := Lib.hid (HSP.out.trans hst.spun)
  clear HX0 HSP hst
  have HX0 := HX1
  have HSP := HSP1
  clear HX1 HSP1
  go_wp2_with fail
  refine (up_any g 4 w1 HSP.out.box (by omega) (by omega)).mono ?_; rintro e w2 ⟨p2, rfl, p20, p21, hst⟩
  have HX1 := Lib.hid (HX0.out.grown hst.grown (fun e => by injection e with e; exact hgs e.symm))
  have HSP1 := Lib.hid (HSP.out.trans hst.spun)
  clear HX0 HSP hst
  have HX0 := HX1
  have HSP := HSP1
  clear HX1 HSP1
  go_wp2_with fail
  refine (up_any g 20 w2 HSP.out.box (by omega) (by omega)).mono ?_; rintro e w3 ⟨r3, rfl, r30, r31, hst⟩
  have HX1 := Lib.hid (HX0.out.grown hst.grown (fun e => by injection e with e; exact hgs e.symm))
  have HSP1 := Lib.hid (HSP.out.trans hst.spun)
  clear HX0 HSP hst
  have HX0 := HX1
  have HSP := HSP1
  clear HX1 HSP1
  go_wp2_with fail
  have HL2 := Lib.hid (lit2 w3 r3 3 (I64.small (by omega)))
  have HX1 := Lib.hid (HX0.out.alloc (.cells #[.int .i64 0, .int .i64 r3] 3))
  have HSP1 := Lib.hid (HSP.out.then_ ((Below.refl _ _).alloc (Nat.le_refl _) (.cells #[.int .i64 0, .int .i64 r3] 3)))
  have hsw : w.heap.size ≤ w3.heap.size := HSP.out.grown.size
  have HNG : Hid (∀ b, (some (⟨w3.heap.size, 0, none⟩ : Addr)).map (·.block) = some b → b ≠ g) := Lib.hid (fun b e => by have h9 : w3.heap.size = b := (by injection e); omega)
  clear HX0 HSP
  have HX0 := HX1
  have HSP := HSP1
  clear HX1 HSP1
  obtain ⟨W4, hW⟩ : ∃ W', w3.alloc (.cells #[.int .i64 0, .int .i64 r3] 3) = W' := ⟨_, rfl⟩
  rw [hW] at HL2 HX0 HSP ⊢
  clear hW
  refine (pick_any g (some ⟨w3.heap.size, 0, none⟩) 2 2 [0, r3] W4 HSP.out.box HL2.out HNG.out (by omega) (by omega)).mono ?_; rintro e w4 ⟨p3, rfl, p3m, hst⟩
  have p3b : 0 ≤ p3 ∧ p3 ≤ 1000 := by simp at p3m; omega
  have HX1 := Lib.hid (HX0.out.grown hst.grown (fun e => by injection e with e; exact hgs e.symm))
  have HSP1 := Lib.hid (HSP.out.trans hst.spun)
  clear HX0 HSP hst HL2 HNG hsw p3m
  have HX0 := HX1
  have HSP := HSP1
  clear HX1 HSP1
  go_wp2_with fail
  refine (up_any g 6 w4 HSP.out.box (by omega) (by omega)).mono ?_; rintro e w5 ⟨r4, rfl, r40, r41, hst⟩
  have HX1 := Lib.hid (HX0.out.grown hst.grown (fun e => by injection e with e; exact hgs e.symm))
  have HSP1 := Lib.hid (HSP.out.trans hst.spun)
  clear HX0 HSP hst
  have HX0 := HX1
  have HSP := HSP1
  clear HX1 HSP1
  go_wp2_with fail
  have HL2 := Lib.hid (lit2 w5 r4 3 (I64.small (by omega)))
  have HX1 := Lib.hid (HX0.out.alloc (.cells #[.int .i64 0, .int .i64 r4] 3))
  have HSP1 := Lib.hid (HSP.out.then_ ((Below.refl _ _).alloc (Nat.le_refl _) (.cells #[.int .i64 0, .int .i64 r4] 3)))
  have hsw : w.heap.size ≤ w5.heap.size := HSP.out.grown.size
  have HNG : Hid (∀ b, (some (⟨w5.heap.size, 0, none⟩ : Addr)).map (·.block) = some b → b ≠ g) := Lib.hid (fun b e => by have h9 : w5.heap.size = b := (by injection e); omega)
  clear HX0 HSP
  have HX0 := HX1
  have HSP := HSP1
  clear HX1 HSP1
  obtain ⟨W6, hW⟩ : ∃ W', w5.alloc (.cells #[.int .i64 0, .int .i64 r4] 3) = W' := ⟨_, rfl⟩
  rw [hW] at HL2 HX0 HSP ⊢
  clear hW
  refine (pick_any g (some ⟨w5.heap.size, 0, none⟩) 2 2 [0, r4] W6 HSP.out.box HL2.out HNG.out (by omega) (by omega)).mono ?_; rintro e w6 ⟨p4, rfl, p4m, hst⟩
  have p4b : 0 ≤ p4 ∧ p4 ≤ 1000 := by simp at p4m; omega
  have HX1 := Lib.hid (HX0.out.grown hst.grown (fun e => by injection e with e; exact hgs e.symm))
  have HSP1 := Lib.hid (HSP.out.trans hst.spun)
  clear HX0 HSP hst HL2 HNG hsw p4m
  have HX0 := HX1
  have HSP := HSP1
  clear HX1 HSP1
  go_wp2_with fail
  refine (up_any g 4 w6 HSP.out.box (by omega) (by omega)).mono ?_; rintro e w7 ⟨r5, rfl, r50, r51, hst⟩
  have HX1 := Lib.hid (HX0.out.grown hst.grown (fun e => by injection e with e; exact hgs e.symm))
  have HSP1 := Lib.hid (HSP.out.trans hst.spun)
  clear HX0 HSP hst
  have HX0 := HX1
  have HSP := HSP1
  clear HX1 HSP1
  go_wp2_with fail
  have HL2 := Lib.hid (lit2 w7 r5 3 (I64.small (by omega)))
  have HX1 := Lib.hid (HX0.out.alloc (.cells #[.int .i64 0, .int .i64 r5] 3))
  have HSP1 := Lib.hid (HSP.out.then_ ((Below.refl _ _).alloc (Nat.le_refl _) (.cells #[.int .i64 0, .int .i64 r5] 3)))
  have hsw : w.heap.size ≤ w7.heap.size := HSP.out.grown.size
  have HNG : Hid (∀ b, (some (⟨w7.heap.size, 0, none⟩ : Addr)).map (·.block) = some b → b ≠ g) := Lib.hid (fun b e => by have h9 : w7.heap.size = b := (by injection e); omega)
  clear HX0 HSP
  have HX0 := HX1
  have HSP := HSP1
  clear HX1 HSP1
  obtain ⟨W8, hW⟩ : ∃ W', w7.alloc (.cells #[.int .i64 0, .int .i64 r5] 3) = W' := ⟨_, rfl⟩
  rw [hW] at HL2 HX0 HSP ⊢
  clear hW
  refine (pick_any g (some ⟨w7.heap.size, 0, none⟩) 2 2 [0, r5] W8 HSP.out.box HL2.out HNG.out (by omega) (by omega)).mono ?_; rintro e w8 ⟨p5, rfl, p5m, hst⟩
  have p5b : 0 ≤ p5 ∧ p5 ≤ 1000 := by simp at p5m; omega
  have HX1 := Lib.hid (HX0.out.grown hst.grown (fun e => by injection e with e; exact hgs e.symm))
  have HSP1 := Lib.hid (HSP.out.trans hst.spun)
  clear HX0 HSP hst HL2 HNG hsw p5m
  have HX0 := HX1
  have HSP := HSP1
  clear HX1 HSP1
  go_wp2_with fail
  have hsw : w.heap.size + 1 ≤ w8.heap.size := by have := HX0.out.lt; omega
  have HXB := Lib.hid (Blk.new w8 79 #[.int .i64 p1, .int .i64 p2, .int .i64 p3, .int .i64 p4, .int .i64 p5, .slice none 0 0])
  have HX1 := Lib.hid (HX0.out.alloc (.cells #[.int .i64 p1, .int .i64 p2, .int .i64 p3, .int .i64 p4, .int .i64 p5, .slice none 0 0] 79))
  have HSP1 := Lib.hid (HSP.out.then_ ((Below.refl _ _).alloc (Nat.le_refl _) (.cells #[.int .i64 p1, .int .i64 p2, .int .i64 p3, .int .i64 p4, .int .i64 p5, .slice none 0 0] 79)))
  have hW9s : (w8.alloc (.cells #[.int .i64 p1, .int .i64 p2, .int .i64 p3, .int .i64 p4, .int .i64 p5, .slice none 0 0] 79)).heap.size = w8.heap.size + 1 := by simp
  clear HX0 HSP
  obtain ⟨W9, hW9⟩ : ∃ W', w8.alloc (.cells #[.int .i64 p1, .int .i64 p2, .int .i64 p3, .int .i64 p4, .int .i64 p5, .slice none 0 0] 79) = W' := ⟨_, rfl⟩
  rw [hW9] at HXB HX1 HSP1 hW9s ⊢
  clear hW9
  obtain ⟨q, hq⟩ : ∃ q, w8.heap.size = q := ⟨_, rfl⟩
  rw [hq] at HXB hW9s hsw ⊢
  clear hq
  have hgq : g ≠ q := by omega
  refine (order_any g 6 W9 HSP1.out.box (by omega)).mono ?_; rintro e w10 ⟨A, c, L, rfl, hperm, hown, hsp⟩
  have HPE := Lib.hid hperm
  have HL := Lib.hid hown.rd
  have HAG : Hid (∀ b, A.map (·.block) = some b → q + 1 ≤ b) := Lib.hid (fun b e => by have := (hown.1.block e).1; omega)
  have HXQ := Lib.hid (HXB.out.grown hsp.grown (fun e => by injection e with e; exact hgq e.symm))
  have HX0 := Lib.hid (HX1.out.grown hsp.grown (fun e => by injection e with e; exact hgs e.symm))
  have HSP := Lib.hid (HSP1.out.trans hsp)
  have hsz10 : q + 1 ≤ w10.heap.size := by have := hsp.grown.size; omega
  clear hperm hown hsp HXB HX1 HSP1 hW9s
  go_wp2_with fail
  refine (up_any g 5 w10 HSP.out.box (by omega) (by omega)).mono ?_; rintro e w11 ⟨r, rfl, hr0, hr1, hst⟩
  obtain ⟨r, rfl⟩ : ∃ r' : Nat, r = r' := ⟨r.toNat, by omega⟩
  have HL1 := Lib.hid (HL.out.grown hst.grown (fun b e1 e2 => by injection e1 with e1; have := HAG.out b e2; omega))
  have HXQ1 := Lib.hid (HXQ.out.grown hst.grown (fun e => by injection e with e; exact hgq e.symm))
  have HX01 := Lib.hid (HX0.out.grown hst.grown (fun e => by injection e with e; exact hgs e.symm))
  have HSP1 := Lib.hid (HSP.out.trans hst.spun)
  have hsz11 : q + 1 ≤ w11.heap.size := by have := hst.grown.size; omega
  have HAZ : Hid (∀ b, A.map (·.block) = some b → b < w11.heap.size) := Lib.hid (fun b e => HL1.out.block (by omega) e)
  obtain ⟨z, hz⟩ : ∃ z, w11.heap.size = z := ⟨_, rfl⟩
  rw [hz] at hsz11 HAZ
  have HZ := Lib.hid hz
  clear hz
  clear hst HL HXQ HX0 HSP hsz10
  have hr4 : r ≤ 4 := by omega
  have HND : Hid (∀ i j : Nat, ∀ x : Int, L[i]? = some x → L[j]? = some x → i = j) := Lib.hid (fun i j x hi hj => by
    have hnd : L.Nodup := HPE.out.nodup_iff.2 (by
      unfold rangeI
      exact List.Pairwise.map _ (fun a b h e => h (by injection e)) List.nodup_range)
    exact (List.getElem?_inj (List.getElem?_eq_some_iff.1 hi).1 hnd).1 (hi.trans hj.symm))
  have HMB : Hid (∀ (i : Nat) (x : Int), L[i]? = some x → 0 ≤ x ∧ x ≤ 5) := Lib.hid (fun i x hi => by
    have := rangeI_mem.1 (HPE.out.mem_iff.1 (List.mem_of_getElem? hi)); omega)
  go_wp2_with fail
  go_loopw [5] (fun i wr => ∃ (i' j : Nat) (Kl : List Int) (B : Option Addr) (cb : Nat), i' + j = r ∧ i = .int .i64 i' ∧ (∀ x ∈ Kl, ∃ t : Nat, i' < t ∧ L[t]? = some (x - 1)) ∧ Kl.Nodup ∧ OwnI wr z 3 B j cb Kl ∧ Blk wr q 79 #[.int .i64 p1, .int .i64 p2, .int .i64 p3, .int .i64 p4, .int .i64 p5, .slice B j cb] ∧ Blk wr w.heap.size 79 #[.int .i64 0, .int .i64 0, .int .i64 0, .int .i64 0, .int .i64 0, .slice none 0 0] ∧ RdI wr A 6 L ∧ z ≤ wr.heap.size ∧ Spun g w wr) (fun i _ => (intOf i).toNat)
  case atStart => exact ⟨r, 0, [], none, 0, by omega, rfl, (fun x hx => by cases hx), List.nodup_nil, OwnI.nil_ _ _ _, HXQ1.out, HX01.out, HL1.out, by rw [HZ.out]; exact Nat.le_refl _, HSP1.out⟩
  case round =>
    obtain ⟨i, j, Kl, B, cb, hij, rfl, hkl, hnd, hown, hxq, hx0, hl, hszr, hsp⟩ := hrel
    have HKL := Lib.hid hkl
    have HNK := Lib.hid hnd
    have HO := Lib.hid hown
    have HXQ := Lib.hid hxq
    have HX0 := Lib.hid hx0
    have HL := Lib.hid hl
    have HSP := Lib.hid hsp
    clear hkl hnd hown hxq hx0 hl hsp HL1 HXQ1 HX01 HSP1
    have hc5 : wr.cell? ⟨q, 5, none⟩ = some (.slice B j cb) := by rw [HXQ.out.cell]; rfl
    have hf5 := HXQ.out.frozen 5
    by_cases hi : 0 < i
    · have hiI : (0 : Int) < i := by omega
      have hi6 : i < 6 := by omega
      have hi6I : (i : Int) < 6 := by omega
      obtain ⟨ad, x, rfl, hadl, hx, _, hcx⟩ := HL.out.at_ hi6
      have hx5 := HMB.out i x hx.out
      have hv64 : I64 (1 + x) := I64.small (by omega)
      have hj6 : j + 1 ≤ 1000000 := by omega
      have hw1 : IntKind.i64.wrap (1 + x) = 1 + x := IntWalk.i64_in _ (by omega)
      have hc6 := (World.cell?_alloc_lt wr (.cells #[.int .i64 (1 + x)] 3) ⟨q, 5, none⟩ (by show q < _; omega)).trans hc5
      have hcx6 := (World.cell?_alloc_lt wr (.cells #[.int .i64 (1 + x)] 3) (ad.add i) (by rw [block_of_add]; exact hadl)).trans hcx
      have HX := Lib.hid hx.out
      clear hx
      go_upto_region 6 with fail
      go_region_law (first
        | (refine step_appI1 wr.drew (by rfl) (.tmp 35) (.tmp 41) (by rfl) (v := 1 + x) _ (by rfl) (by rfl) HO.out.drew hv64 hj6 hszr ?_; intro A' c' w3 hown hgrow hbel; have HX3 := Lib.hid (HXQ.out.drew.below2 hbel (by omega)); have hc3 : w3.cell? ⟨q, 5, none⟩ = some (.slice B j cb) := (by rw [HX3.out.cell]; rfl); have hf3 := HX3.out.frozen 5))
      all_goals
        have hA'b : ∀ b, A'.map (·.block) = some b → z ≤ b := fun b hb => (hown.1.block hb).1
        have HX4 := Lib.hid (HX3.out.set_ 5 (.slice A' (j + 1) c'))
        have HO4 := Lib.hid (hown.far (p := ⟨q, 5, none⟩) (fun e => by have h9 : z ≤ q := hA'b _ e; omega) (.slice A' (j + 1) c'))
        have HXZ4 := Lib.hid ((HX0.out.drew.below2 hbel (by omega)).far (p := ⟨q, 5, none⟩) (by show w.heap.size ≠ q; omega) (.slice A' (j + 1) c'))
        have HL4 := Lib.hid ((HL.out.drew.belowB hbel (fun _ b e => HAZ.out b e)).setCell (p := ⟨q, 5, none⟩) (fun e => by have h9 : q + 1 ≤ q := HAG.out _ e; omega) (.slice A' (j + 1) c'))
        have HSP4 : Hid (Spun g w (w3.setCell ⟨q, 5, none⟩ (.slice A' (j + 1) c'))) := Lib.hid ((HSP.out.then_ ((Below.refl _ wr).drew)).below_ ((hbel.mono (by omega)).setCell (p := ⟨q, 5, none⟩) (by show w.heap.size ≤ q; omega) _) hgl)
        have hsz4 : z ≤ (w3.setCell ⟨q, 5, none⟩ (.slice A' (j + 1) c')).heap.size := by have h9 : wr.heap.size ≤ w3.heap.size := hbel.size; simp [World.setCell]; omega
        have HK4 : Hid (∀ y ∈ Kl ++ [1 + x], ∃ t : Nat, i - 1 < t ∧ L[t]? = some (y - 1)) := Lib.hid (fun y hy => by
          rcases List.mem_append.1 hy with hy | hy
          · obtain ⟨t, h1, h2⟩ := HKL.out y hy
            exact ⟨t, by omega, h2⟩
          · simp at hy; subst hy
            exact ⟨i, by omega, by rw [HX.out]; congr 1; omega⟩)
        have HN4 : Hid ((Kl ++ [1 + x]).Nodup) := Lib.hid (by
          rw [List.nodup_append]
          refine ⟨HNK.out, List.nodup_cons.2 ⟨by simp, List.nodup_nil⟩, fun a ha b hb e => ?_⟩
          simp at hb; subst hb; subst e
          obtain ⟨t, h1, h2⟩ := HKL.out _ ha
          have := HND.out t i x (by rw [h2]; congr 1; omega) HX.out
          omega)
        clear hA'b hown hgrow hbel HX3 hc3 hf3 HXQ HO HX0 HL HSP hc5 hf5 hc6 hcx6 hcx hw1
        generalize w3.setCell ⟨q, 5, none⟩ (.slice A' (j + 1) c') = w4 at HX4 HO4 HXZ4 HL4 HSP4 hsz4 ⊢
        go_wp2
        go_roundw
        case rel => exact ⟨i - 1, j + 1, Kl ++ [1 + x], A', c', by omega, by congr 1; omega, HK4.out, HN4.out, HO4.out, HX4.out, HXZ4.out, HL4.out, hsz4, HSP4.out⟩
        case measure => simp [intOf]; omega
    · have hi0 : i = 0 := by omega
      subst hi0
      have k0 : wr.cell? ⟨q, 0, none⟩ = some (.int .i64 p1) := by rw [HXQ.out.cell]; rfl
      have k1 : wr.cell? ⟨q, 1, none⟩ = some (.int .i64 p2) := by rw [HXQ.out.cell]; rfl
      have k2 : wr.cell? ⟨q, 2, none⟩ = some (.int .i64 p3) := by rw [HXQ.out.cell]; rfl
      have k3 : wr.cell? ⟨q, 3, none⟩ = some (.int .i64 p4) := by rw [HXQ.out.cell]; rfl
      have k4 : wr.cell? ⟨q, 4, none⟩ = some (.int .i64 p5) := by rw [HXQ.out.cell]; rfl
      have z0 : wr.cell? ⟨w.heap.size, 0, none⟩ = some (.int .i64 0) := by rw [HX0.out.cell]; rfl
      have z1 : wr.cell? ⟨w.heap.size, 1, none⟩ = some (.int .i64 0) := by rw [HX0.out.cell]; rfl
      have z2 : wr.cell? ⟨w.heap.size, 2, none⟩ = some (.int .i64 0) := by rw [HX0.out.cell]; rfl
      have z3 : wr.cell? ⟨w.heap.size, 3, none⟩ = some (.int .i64 0) := by rw [HX0.out.cell]; rfl
      have z4 : wr.cell? ⟨w.heap.size, 4, none⟩ = some (.int .i64 0) := by rw [HX0.out.cell]; rfl
      have z5 : wr.cell? ⟨w.heap.size, 5, none⟩ = some (.slice none 0 0) := by rw [HX0.out.cell]; rfl
      have g0 := HX0.out.frozen 0
      have g1 := HX0.out.frozen 1
      have g2 := HX0.out.frozen 2
      have g3 := HX0.out.frozen 3
      have g4 := HX0.out.frozen 4
      have g5 := HX0.out.frozen 5
      have HXF := Lib.hid ((((((HX0.out.set_ 0 (.int .i64 p1)).set_ 1 (.int .i64 p2)).set_ 2 (.int .i64 p3)).set_ 3 (.int .i64 p4)).set_ 4 (.int .i64 p5)).set_ 5 (.slice B j cb))
      have hbb : w.heap.size ≤ w.heap.size := Nat.le_refl _
      have HBF := Lib.hid (((((((Below.refl w.heap.size wr).setCell (p := ⟨w.heap.size, 0, none⟩) hbb (.int .i64 p1)).setCell (p := ⟨w.heap.size, 1, none⟩) hbb (.int .i64 p2)).setCell (p := ⟨w.heap.size, 2, none⟩) hbb (.int .i64 p3)).setCell (p := ⟨w.heap.size, 3, none⟩) hbb (.int .i64 p4)).setCell (p := ⟨w.heap.size, 4, none⟩) hbb (.int .i64 p5)).setCell (p := ⟨w.heap.size, 5, none⟩) hbb (.slice B j cb))
      have HFA : ∀ (i : Nat) (u : Value) (W : World), OwnI W z 3 B j cb Kl → OwnI (W.setCell ⟨w.heap.size, i, none⟩ u) z 3 B j cb Kl := fun i u W h => h.far (p := ⟨w.heap.size, i, none⟩) (fun e => by have h9 : z ≤ w.heap.size := (h.1.block e).1; omega) u
      have HOF := Lib.hid (HFA 5 (.slice B j cb) _ (HFA 4 (.int .i64 p5) _ (HFA 3 (.int .i64 p4) _ (HFA 2 (.int .i64 p3) _ (HFA 1 (.int .i64 p2) _ (HFA 0 (.int .i64 p1) _ HO.out))))))
      have HSF := Lib.hid (HSP.out.below_ HBF.out hgl)
      have HCAP := Lib.hid HO.out.capC
      have HOK : Hid (Scoring.ok ⟨p1, p2, p3, p4, p5, Kl⟩) := Lib.hid (by
        unfold Scoring.ok
        dsimp only
        exact ⟨⟨⟨by omega, by omega⟩, ⟨by omega, by omega⟩, p3b, p4b, p5b⟩, by rw [HO.out.len]; omega, (fun k hk => by
        obtain ⟨t, _, h2⟩ := HKL.out k hk
        have := HMB.out t _ h2
        omega), HNK.out⟩)
      clear HFA HX0 HXQ HO HL HSP HBF
      go_wp2
      exact bodyPost_ret (v := .agg #[.int .i64 p1, .int .i64 p2, .int .i64 p3, .int .i64 p4, .int .i64 p5, .slice B j cb]) (results_cell_row rfl _ _ w.heap.size 79 _ (0, 0) _ rfl HXF.out Try.underlying79 rfl (by kernel_rfl)) rfl ⟨⟨p1, p2, p3, p4, p5, Kl⟩, B, j, cb, rfl, HOK.out, HCAP.out, HOF.out.mono (by omega), HSF.out⟩
end Go.Proofs.Ytcmacejpoihhlaa

namespace Go.Proofs.Ytcmacejpoihhlaa
open Go.RowKit

/-- a stock of the callee's own -/
def Stocked (c : List Int) (d : Int) (w : World) (e : Ending) (w' : World) : Prop :=
  ∃ g, e = .returned (.agg #[.slice (some ⟨g, 0, none⟩) c.length c.length, .int .i64 d]) ∧ RdI w' (some ⟨g, 0, none⟩) c.length c ∧ Below w.heap.size w w'

set_option maxHeartbeats 1000000 in
theorem two_any (w : World) : Calls Try.prog 68 #[] w (Stocked [2, 2] 3 w) := by
  go_enter Try.func68, Try.ntmps68
  go_wp2
  have hx := (Blk.new w 24 #[.slice (some ⟨w.heap.size + 1, 0, none⟩) 2 2, .int .i64 3]).alloc (.cells #[.int .i64 2, .int .i64 2] 3)
  have hr := (OwnI.lit (w.alloc (.cells #[.slice (some ⟨w.heap.size + 1, 0, none⟩) 2 2, .int .i64 3] 24)) 3 [2, 2] 2 (by omega) rfl (w.heap.size + 1) (by simp) (by simp [I64])).rd
  rw [show (w.alloc (.cells #[.slice (some ⟨w.heap.size + 1, 0, none⟩) 2 2, .int .i64 3] 24)).heap.size = w.heap.size + 1 by simp] at hr
  have hb : Below w.heap.size w ((w.alloc (.cells #[.slice (some ⟨w.heap.size + 1, 0, none⟩) 2 2, .int .i64 3] 24)).alloc (.cells #[.int .i64 2, .int .i64 2] 3)) := ((Below.refl _ w).alloc (Nat.le_refl _) _).alloc (by simp) _
  exact bodyPost_ret (v := .agg #[.slice (some ⟨w.heap.size + 1, 0, none⟩) 2 2, .int .i64 3]) (results_cell_row rfl _ _ w.heap.size 24 _ (0, 0) _ rfl hx Try.underlying24 rfl (by kernel_rfl)) rfl ⟨_, rfl, hr, hb⟩

/-- four rows of four numbers, laid row by row, and the slice of them -/
def lay4 (w : World) (a b c d : List Int) : World := (((w.alloc (.cells (ints a).toArray 3)).alloc (.cells (ints b).toArray 3)).alloc (.cells (ints c).toArray 3)).alloc (.cells (ints d).toArray 3)
def lit4 (w : World) (a b c d : List Int) : World := (lay4 w a b c d).alloc (.cells #[.slice (some ⟨w.heap.size, 0, none⟩) 4 4, .slice (some ⟨w.heap.size + 1, 0, none⟩) 4 4, .slice (some ⟨w.heap.size + 1 + 1, 0, none⟩) 4 4, .slice (some ⟨w.heap.size + 1 + 1 + 1, 0, none⟩) 4 4] 22)
theorem lit_row (w : World) (l : List Int) (h : l.length = 4) (hl : ∀ v ∈ l, I64 v) : RdI (w.alloc (.cells (ints l).toArray 3)) (some ⟨w.heap.size, 0, none⟩) 4 l := (OwnI.lit w 3 l 4 (by omega) h w.heap.size (Nat.le_refl _) hl).rd
theorem alloc_size (w : World) (o : Obj) : (w.alloc o).heap.size = w.heap.size + 1 := by simp
theorem lit4_rd (w : World) (a b c d : List Int) (ha : a.length = 4) (hb : b.length = 4) (hc : c.length = 4) (hd : d.length = 4) (ia : ∀ v ∈ a, I64 v) (ib : ∀ v ∈ b, I64 v) (ic : ∀ v ∈ c, I64 v) (id : ∀ v ∈ d, I64 v) :
    RdL (lit4 w a b c d) (some ⟨w.heap.size + 1 + 1 + 1 + 1, 0, none⟩) 4 [a, b, c, d] := by
  have ra := (((lit_row w a ha ia).alloc (.cells (ints b).toArray 3)).alloc (.cells (ints c).toArray 3)).alloc (.cells (ints d).toArray 3)
  have rb := ((lit_row (w.alloc (.cells (ints a).toArray 3)) b hb ib).alloc (.cells (ints c).toArray 3)).alloc (.cells (ints d).toArray 3)
  have rc := (lit_row ((w.alloc (.cells (ints a).toArray 3)).alloc (.cells (ints b).toArray 3)) c hc ic).alloc (.cells (ints d).toArray 3)
  have rd := lit_row (((w.alloc (.cells (ints a).toArray 3)).alloc (.cells (ints b).toArray 3)).alloc (.cells (ints c).toArray 3)) d hd id
  rw [alloc_size] at rb
  rw [alloc_size, alloc_size] at rc
  rw [alloc_size, alloc_size, alloc_size] at rd
  have ho := (Own.lit (lay4 w a b c d) 22 #[.slice (some ⟨w.heap.size, 0, none⟩) 4 4, .slice (some ⟨w.heap.size + 1, 0, none⟩) 4 4, .slice (some ⟨w.heap.size + 1 + 1, 0, none⟩) 4 4, .slice (some ⟨w.heap.size + 1 + 1 + 1, 0, none⟩) 4 4] 4 (by omega) rfl _ (Nat.le_refl _)).rd
  have hs : (lay4 w a b c d).heap.size = w.heap.size + 1 + 1 + 1 + 1 := by unfold lay4; rw [alloc_size, alloc_size, alloc_size, alloc_size]
  rw [hs] at ho
  refine ⟨_, ho, rfl, fun j v hv => ?_⟩
  match j, hv with
  | 0, hv => injection hv with hv; exact ⟨_, 4, 4, a, hv.symm, rfl, ra.alloc _⟩
  | 1, hv => injection hv with hv; exact ⟨_, 4, 4, b, hv.symm, rfl, rb.alloc _⟩
  | 2, hv => injection hv with hv; exact ⟨_, 4, 4, c, hv.symm, rfl, rc.alloc _⟩
  | 3, hv => injection hv with hv; exact ⟨_, 4, 4, d, hv.symm, rfl, rd.alloc _⟩
  | j + 4, hv => simp at hv
theorem lit4_below (w : World) (a b c d : List Int) : Below w.heap.size w (lit4 w a b c d) := by
  have h : ∀ (w1 : World) (o : Obj), Below w.heap.size w w1 → Below w.heap.size w (w1.alloc o) := fun w1 o hb => hb.alloc hb.size o
  exact h _ _ (h _ _ (h _ _ (h _ _ (h _ _ (Below.refl _ w)))))

theorem ways_two : waysE [2, 2] 3 = (24, 0) := by decide +kernel
theorem shapes_two : shapesE [2, 2] 3 = ([0, 8, 8, 8, 0], 0) := by decide +kernel
theorem rounds_four : roundsE 4 = ([[0, 1, 3, 2], [1, 2, 0, 3], [2, 3, 1, 0], [3, 0, 2, 1]], 0) := by decide +kernel

set_option maxHeartbeats 4000000 in
set_option maxRecDepth 100000 in
theorem awake5_any (w : World) : Calls Try.prog 19 #[] w fun e w' => e = .returned (.bool true) ∧ Below w.heap.size w w' := by
  go_enter Try.func19, Try.ntmps19
  go_wp2_with fail
  refine (two_any w).mono ?_; rintro e w1 ⟨g1, rfl, h1, b1⟩
  have H1 := Lib.hid h1
  have B1 := Lib.hid b1
  clear h1 b1
  go_wp2_with fail
  refine (ways_any _ _ _ [2, 2] 3 w1 H1.out (by simp [I64])).mono ?_; rintro e w2 ⟨rfl, b2⟩
  have B2 := Lib.hid (B1.out.trans (b2.mono B1.out.size))
  rw [ways_two]
  clear b2
  go_wp2_with fail
  refine (two_any w2).mono ?_; rintro e w3 ⟨g3, rfl, h3, b3⟩
  have H3 := Lib.hid h3
  have B3 := Lib.hid (B2.out.trans (b3.mono B2.out.size))
  clear h3 b3
  go_wp2_with fail
  refine (shapesP_any _ _ _ [2, 2] 3 w3 H3.out (by simp [I64])).mono ?_; rintro e w4 ⟨A4, c4, rfl, h4, b4⟩
  rw [shapes_two] at h4 ⊢
  simp only [List.length_cons, List.length_nil, Nat.reduceAdd] at h4 ⊢
  have H4 := Lib.hid h4.rd
  have B4 := Lib.hid (B3.out.trans (b4.mono B3.out.size))
  clear h4 b4
  go_wp2_with fail
  refine (rounds_any 4 w4 (by simp [I64])).mono ?_; rintro e w5 ⟨A5, c5, rfl, h5, b5⟩
  rw [rounds_four] at h5 ⊢
  simp only [List.length_cons, List.length_nil, Nat.reduceAdd] at h5 ⊢
  have H5 := Lib.hid h5.rd
  have H45 := Lib.hid (H4.out.below b5)
  have B5 := Lib.hid (B4.out.trans (b5.mono B4.out.size))
  clear h5 b5
  go_wp2_with fail
  have HL := Lib.hid (OwnI.lit w5 3 [0, 8, 8, 8, 0] 5 (by omega) rfl w5.heap.size (Nat.le_refl _) (by simp [I64])).rd
  have H46 := Lib.hid (H45.out.alloc (.cells (ints [0, 8, 8, 8, 0]).toArray 3))
  have H56 := Lib.hid (H5.out.alloc (.cells (ints [0, 8, 8, 8, 0]).toArray 3))
  have B6 := Lib.hid (B5.out.alloc B5.out.size (.cells (ints [0, 8, 8, 8, 0]).toArray 3))
  refine (eq_any A4 (some ⟨w5.heap.size, 0, none⟩) 5 5 c4 5 [0, 8, 8, 8, 0] [0, 8, 8, 8, 0] (w5.alloc (.cells (ints [0, 8, 8, 8, 0]).toArray 3)) H46.out HL.out).mono ?_; rintro e w' ⟨rfl, d1, rfl⟩
  rw [beq_self_eq_true]
  generalize hw6 : (w5.alloc (.cells (ints [0, 8, 8, 8, 0]).toArray 3)).drewN d1 = w6
  have H66 : Hid (RdL w6 A5 4 [[0, 1, 3, 2], [1, 2, 0, 3], [2, 3, 1, 0], [3, 0, 2, 1]]) := Lib.hid (by rw [← hw6]; exact H56.out.drewN d1)
  have B66 : Hid (Below w.heap.size w w6) := Lib.hid (by rw [← hw6]; exact below_drewN B6.out d1)
  clear hw6 HL H46 H56 B6 H45 H5 B5 H4 B4 H3 B3 B2 H1 B1
  go_wp2_with fail
  have HL4 := Lib.hid (lit4_rd w6 [0, 1, 3, 2] [1, 2, 0, 3] [2, 3, 1, 0] [3, 0, 2, 1] rfl rfl rfl rfl (by simp [I64]) (by simp [I64]) (by simp [I64]) (by simp [I64]))
  have HLB := Lib.hid (lit4_below w6 [0, 1, 3, 2] [1, 2, 0, 3] [2, 3, 1, 0] [3, 0, 2, 1])
  have HA := Lib.hid (H66.out.below HLB.out)
  refine (eqLists_any A5 _ 4 4 c5 4 _ _ (lit4 w6 [0, 1, 3, 2] [1, 2, 0, 3] [2, 3, 1, 0] [3, 0, 2, 1]) HA.out HL4.out (by omega) (by omega)).mono ?_; rintro e w' ⟨rfl, d2, rfl⟩
  rw [beq_self_eq_true]
  go_wp2
  go_ret
  exact ⟨rfl, below_drewN (B66.out.trans (HLB.out.mono B66.out.size)) _⟩
end Go.Proofs.Ytcmacejpoihhlaa
