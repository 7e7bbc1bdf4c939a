/- Walks: Shapes: how many ways each partition has. -/
import Derived.Test.YtgnfkgmppeohoaaShapes
namespace Go.Proofs.Ytgnfkgmppeohoaa
open Go.RowKit Go.Shelf
attribute [local go_sem] Oper.semAt_some

/-- an append, its run known, inside a fence -/
theorem wpListIn_app_run {F : Fence} {n : Nat} {P : Program} (w : World) {ops : Array Oper} {rest : List Oper} {o : Oper} {a : Act} {Q : Exit → Act → World → Prop}
    (hg : o.guard = none) (s x : Operand) (t : TypeId) (hop : o.op = Op.call { callee := Callee.builtin Builtin.append, args := #[s, x], argTypes := #[t, t] })
    (v u : Value) (hs : a.eval s = v) (hx : a.eval x = u) {v' : Value} {w' : World} (hrun : (Builtin.append_ #[t, t] o.type #[v, u]).run P w = .ok v' w') (hK : wpListIn F n P ops Q rest (a.put o.dst v') w') :
    wpListIn F n P ops Q (o :: rest) a w := by
  refine wpListIn_plain hg fun K hK' => ?_
  unfold Oper.wpIn
  refine ⟨?_, ?_⟩
  · simp [Oper.about, hop, resolve, Target.leads, Sem.run_pure]
  · rw [Oper.semAt_plain F _ _ (by rw [hop]; intro c hc'; cases hc')]
    simp [execOp, hop, resolve, invoke, builtin, hs, hx, hrun, Result.andThen]
    exact hK' _ _ hK

set_option maxHeartbeats 1000000 in
set_option maxRecDepth 100000 in
theorem shaped_any (A : Option Addr) (n c : Nat) (l : List Int) (d : Int) (w : World) (h : RdI w A n l) (hd : I64 d) : Calls Try.prog 90 #[.agg #[.slice A n c, .int .i64 d]] w (NumM (shapedC l d) w) := by
  go_enter Try.func90, Try.ntmps90
  go_upto_region 1 with fail
  have HA := Lib.hid (h.alloc (.cells #[.slice A n c, .int .i64 d] 24))
  have HB := Lib.hid ((Below.refl _ w).alloc (Nat.le_refl _) (.cells #[.slice A n c, .int .i64 d] 24))
  have HX := Lib.hid (Blk.new w 24 #[.slice A n c, .int .i64 d])
  clear h
  generalize w.alloc (.cells #[.slice A n c, .int .i64 d] 24) = W at HA HB HX ⊢
  have c0 : W.cell? ⟨w.heap.size, 0, none⟩ = some (.slice A n c) := by rw [HX.out.cell]; rfl
  have c1 : W.cell? ⟨w.heap.size, 1, none⟩ = some (.int .i64 d) := by rw [HX.out.cell]; rfl
  go_wp2_with fail
  refine (checkS_any A n c l d W HA.out hd).mono ?_; rintro e w2 ⟨rfl, hb⟩
  have HX2 := Lib.hid (HX.out.below hb)
  have HB2 := Lib.hid (HB.out.trans (hb.mono HB.out.size))
  have c12 : w2.cell? ⟨w.heap.size, 1, none⟩ = some (.int .i64 d) := by rw [HX2.out.cell]; rfl
  clear hb HX c0 c1 HX2
  by_cases hz : chkS l d = 0
  · by_cases h6 : 6 < d
    · have HV : Hid (shapedC l d = 8) := Lib.hid (by unfold shapedC; rw [if_neg (by omega), if_pos h6])
      rw [hz]
      go_wp2
      go_ret
      exact ⟨ret_int HV.out.symm, HB2.out⟩
    · have HV : Hid (shapedC l d = 0) := Lib.hid (by unfold shapedC; rw [if_neg (by omega), if_neg h6])
      rw [hz]
      have g6 : d ≤ 6 := by omega
      go_wp2
      go_ret
      exact ⟨ret_int HV.out.symm, HB2.out⟩
  · have HV : Hid (shapedC l d = chkS l d) := Lib.hid (by unfold shapedC; rw [if_pos hz])
    have g : (chkS l d != 0) = true := by simpa using hz
    clear hz
    generalize chkS l d = z at g HV ⊢
    go_wp2
    go_ret
    exact ⟨ret_int HV.out.symm, HB2.out⟩

/-- the iterator's maker: what it was given lies in two boxes -/
theorem shapesMk_any (A : Option Addr) (n c : Nat) (d : Int) (w : World) : Calls Try.prog 91 #[.slice A n c, .int .i64 d] w fun e w' => e = .returned (.func (.func 122) #[] #[.pointer (some ⟨w.heap.size + 1, 0, none⟩), .pointer (some ⟨w.heap.size, 0, none⟩)]) ∧ w' = (w.alloc (.cells #[.slice A n c] 22)).alloc (.cells #[.int .i64 d] 3) := by
  go_enter Try.func91, Try.ntmps91
  go_wp2
  go_ret
  exact ⟨rfl, rfl⟩

/-- what stands between two rounds of Shapes: the boxes and the loop's record from block g on, the numbers so far -/
structure ShJ (w : World) (g : Nat) (rec : Loop) (A : Option Addr) (n c : Nat) (cnt : List Int) (d : Nat) (k B : Nat) (W : World) : Prop where
  out : ∃ (Ao : Option Addr) (co : Nat), Blk W g 22 #[.slice Ao k co] ∧ OwnI W (g + 5) 3 Ao k co (shapesTo cnt d k) ∧ ∀ b, Ao.map (·.block) = some b → b < B
  bc : Blk W (g + 1) 22 #[.slice A n c]
  bd : Blk W (g + 2) 3 #[.int .i64 d]
  df : W.heap[g + 3]? = some (.deferred (some []))
  lp : W.heap[g + 4]? = some (.loop rec)
  rd : RdI W A n cnt
  ne : ∀ b, A.map (·.block) = some b → b < g
  bel : Below w.heap.size w W
  le : g + 5 ≤ B ∧ B ≤ W.heap.size ∧ w.heap.size ≤ g
theorem ShJ.below {w W W' : World} {g : Nat} {rec : Loop} {A : Option Addr} {n c : Nat} {cnt : List Int} {d k B : Nat} (h : ShJ w g rec A n c cnt d k B W) (hb : Below W.heap.size W W') : ShJ w g rec A n c cnt d k B W' := by
  obtain ⟨Ao, co, h1, h2, h3⟩ := h.out
  have hle := h.le
  exact ⟨⟨Ao, co, h1.below hb, h2.below hb, h3⟩, h.bc.below hb, h.bd.below hb, (hb.block _ (by omega)).trans h.df, (hb.block _ (by omega)).trans h.lp, h.rd.below hb, h.ne, h.bel.trans (hb.mono h.bel.size), by have := hb.size; omega⟩

set_option maxHeartbeats 1000000 in
set_option maxRecDepth 100000 in
theorem shapesP_any (A : Option Addr) (n c : Nat) (l : List Int) (d : Int) (w : World) (h : RdI w A n l) (hd : I64 d) : Calls Try.prog 35 #[.agg #[.slice A n c, .int .i64 d]] w (IntsErr (shapesE l d) w) := by
  by_cases hz : shapedC l d = 0
  · refine (callsIn_wide (n := 3)).1 ?_
    refine callsIn_of_wp_marks Try.func35 rfl trivial ?_ rfl
    simp only [Try.ntmps35, List.size_toArray, List.length_cons, List.length_nil, Nat.reduceAdd, Nat.reduceSub, Array.replicate_succ, Array.replicate_zero, List.push_toArray, List.append_toArray, List.nil_append, List.cons_append]
    gi_wp2_with fail
    have HA := Lib.hid (h.alloc (.cells #[.slice A n c, .int .i64 d] 24))
    have HB := Lib.hid ((Below.refl _ w).alloc (Nat.le_refl _) (.cells #[.slice A n c, .int .i64 d] 24))
    have HX := Lib.hid (Blk.new w 24 #[.slice A n c, .int .i64 d])
    clear h
    generalize w.alloc (.cells #[.slice A n c, .int .i64 d] 24) = W at HA HB HX ⊢
    refine ⟨trivial, ?_⟩
    refine (callsIn_wide.2 (shaped_any A n c l d W HA.out hd)).mono ?_; rintro e w2 ⟨rfl, hb⟩
    have HA2 := Lib.hid (HA.out.below hb)
    have HX2 := Lib.hid (HX.out.below hb)
    have HB2 := Lib.hid (HB.out.trans (hb.mono HB.out.size))
    have c0 : w2.cell? ⟨w.heap.size, 0, none⟩ = some (.slice A n c) := by rw [HX2.out.cell]; rfl
    have c1 : w2.cell? ⟨w.heap.size, 1, none⟩ = some (.int .i64 d) := by rw [HX2.out.cell]; rfl
    have hlx := HX2.out.lt
    clear hb HX HA HB
    have hck : chkS l d = 0 ∧ d ≤ 6 := by
      unfold shapedC at hz
      by_cases h1 : chkS l d = 0
      · refine ⟨h1, ?_⟩
        rw [if_neg (by omega)] at hz
        by_cases h2 : 6 < d
        · rw [if_pos h2] at hz; omega
        · omega
      · rw [if_pos h1] at hz; omega
    have hk := chkS_ok hck.1
    obtain ⟨d, rfl⟩ : ∃ d' : Nat, d = d' := ⟨d.toNat, by omega⟩
    have hd1 : 1 ≤ d := by omega
    have hd6 : d ≤ 6 := by omega
    have hlen := HA2.out.len
    have hn1 : 1 ≤ n := by omega
    have hn6 : n ≤ 6 := by omega
    have HOK := Lib.hid hk.2.2.1
    have HLN := Lib.hid hlen
    have HV : Hid (shapesE l d = (shapesTo l d (countR d).toNat, 0)) := Lib.hid (by unfold shapesE; rw [if_neg (by omega), Int.toNat_natCast])
    rw [hz]
    clear hz hck hk hlen
    gi_wp2_with fail
    have HB3 := Lib.hid (HB2.out.alloc HB2.out.size (.cells #[.slice none 0 0] 22))
    have HA3 := Lib.hid (HA2.out.alloc (.cells #[.slice none 0 0] 22))
    have HXO := Lib.hid (Blk.new w2 22 #[.slice none 0 0])
    have hs3 : (w2.alloc (.cells #[.slice none 0 0] 22)).heap.size = w2.heap.size + 1 := by simp
    have HGE : Hid (w.heap.size ≤ w2.heap.size) := Lib.hid HB2.out.size
    have HNE : Hid (∀ b, A.map (·.block) = some b → b < w2.heap.size) := Lib.hid (fun b hb => HA2.out.block (by omega) hb)
    clear c0 c1
    generalize w2.alloc (.cells #[.slice none 0 0] 22) = w3 at HB3 HA3 HXO hs3 ⊢
    refine ⟨trivial, ?_⟩
    refine (callsIn_wide.2 (shapesMk_any A n c d w3)).mono ?_; rintro e w' ⟨rfl, rfl⟩
    have hs4 : ((w3.alloc (.cells #[.slice A n c] 22)).alloc (.cells #[.int .i64 d] 3)).heap.size = w2.heap.size + 3 := by simp; omega
    have hb4 := (HB3.out.alloc (by have := HGE.out; omega) (.cells #[.slice A n c] 22)).alloc (by have := HGE.out; simp; omega) (.cells #[.int .i64 d] 3)
    have hx1 := (Blk.new w3 22 #[.slice A n c]).alloc (.cells #[.int .i64 d] 3)
    have hx2 := Blk.new (w3.alloc (.cells #[.slice A n c] 22)) 3 #[.int .i64 d]
    rw [show (w3.alloc (.cells #[.slice A n c] 22)).heap.size = w3.heap.size + 1 by simp] at hx2
    rw [hs3] at hx1 hx2 ⊢
    have HX1 := Lib.hid hx1
    have HXD := Lib.hid hx2
    have HB4 := Lib.hid hb4
    have HA4 := Lib.hid ((HA3.out.alloc (.cells #[.slice A n c] 22)).alloc (.cells #[.int .i64 d] 3))
    have HXO4 := Lib.hid ((HXO.out.alloc (.cells #[.slice A n c] 22)).alloc (.cells #[.int .i64 d] 3))
    clear hx1 hx2 hb4 HB3 HA3 HXO hs3
    generalize (w3.alloc (.cells #[.slice A n c] 22)).alloc (.cells #[.int .i64 d] 3) = w4 at HX1 HXD HB4 HA4 HXO4 hs4 ⊢
    gi_wp2_with fail
    refine wpIn_range1 (gf := 122) (lb := #[.pointer (some ⟨w2.heap.size + 1 + 1, 0, none⟩), .pointer (some ⟨w2.heap.size + 1, 0, none⟩)]) rfl (enters_of Try.func122 (by kernel_rfl) rfl) ?_
    intro fn rec hrec WL hWL
    have hst : rec.state = .ready := by rw [hrec]
    have hpe : rec.pending = none := by rw [hrec]
    have hps : rec.params.size = 2 := by rw [hrec]; rfl
    have hsz : (w4.alloc (.deferred (some []))).heap.size = w4.heap.size + 1 := by simp
    have hbl : Below w4.heap.size w4 WL := by rw [hWL]; exact ((Below.refl _ w4).alloc (Nat.le_refl _) _).alloc (by simp) _
    have hD : WL.heap[w4.heap.size]? = some (.deferred (some [])) := by
      rw [hWL]; exact (Below.heap_alloc _ _ _ (by simp)).trans (World.alloc_heap_new w4 _)
    have hR : WL.heap[w4.heap.size + 1]? = some (.loop rec) := by
      rw [hWL]; have := World.alloc_heap_new (w4.alloc (.deferred (some []))) (.loop rec); rwa [hsz] at this
    have hLS : WL.heap.size = w2.heap.size + 5 := by rw [hWL]; simp; omega
    rw [hs4] at hD hR
    have HSJ := Lib.hid (show ShJ w w2.heap.size rec A n c l d 0 (w2.heap.size + 5) WL from ⟨⟨none, 0, HXO4.out.below hbl, OwnI.nil_ _ _ _, fun b e => by cases e⟩, HX1.out.below hbl, HXD.out.below hbl, hD, hR, HA4.out.below hbl, HNE.out, HB4.out.trans (hbl.mono HB4.out.size), by omega, by omega, HGE.out⟩)
    have HREC := Lib.hid hrec
    rw [hs4]
    clear hsz hbl hD hR hLS hWL hrec HX1 HXD HB4 HA4 HXO4 hs4 HA2 HX2 HB2 hlx
    refine (shapesIter_any (w2.heap.size + 3 + 1) (ShJ w w2.heap.size rec A n c l d) (w2.heap.size + 1 + 1) (w2.heap.size + 1) A n c l d (w2.heap.size + 5) WL hd1 hd6 hn1 hn6 HOK.out ?_ ?_ ?_ HSJ.out ?_).mono ?_
    · intro k B W' hj
      exact ⟨hj.le.2.1, by rw [hj.bd.cell]; rfl, by rw [hj.bc.cell]; rfl, hj.rd⟩
    · intro k B W1 W2 hj hb
      exact hj.below hb
    · intro k B W1 hj
      exact hj.below ((Below.refl _ W1).drew)
    · intro k B A' c' W1 hk hj ho
      have hl := hj.lp
      have hy := run_yield (P := Try.prog) (args := #[.slice A' d c', .int .i64 (waysOf l (pr d k))]) hl (by rw [hps]; rfl)
      refine ⟨_, _, _, _, hy, roundIn_of_wpIn trivial ?_⟩
      have hbr := run_beginRound (P := Try.prog) hl hst
      obtain ⟨Ao, co, hxo, hown, hAo⟩ := hj.out
      have hle := hj.le
      have hlt : w2.heap.size + 3 + 1 < W1.heap.size := (Array.getElem?_eq_some_iff.1 hl).1
      obtain ⟨WB, hWB⟩ : ∃ WB, WB = W1.putObj (w2.heap.size + 3 + 1) (.loop { rec with state := .busy }) := ⟨_, rfl⟩
      have hgB : W1.grownBy WB (some (w2.heap.size + 3 + 1)) := by rw [hWB]; exact grownBy_putObj' _ _ _
      have hlB : WB.heap[w2.heap.size + 3 + 1]? = some (.loop { rec with state := .busy }) := by rw [hWB]; exact World.putObj_heap_same hlt
      have hdB : WB.heap[w2.heap.size + 3]? = some (.deferred (some [])) := by rw [hWB]; exact (World.putObj_heap_other (by omega)).trans hj.df
      have hxB : Blk WB w2.heap.size 22 #[.slice Ao k co] := hxo.grown hgB (fun e => by injection e with e; omega)
      have hx1B : Blk WB (w2.heap.size + 1) 22 #[.slice A n c] := hj.bc.grown hgB (fun e => by injection e with e; omega)
      have hx2B : Blk WB (w2.heap.size + 2) 3 #[.int .i64 d] := hj.bd.grown hgB (fun e => by injection e with e; omega)
      have hOB : OwnI WB (w2.heap.size + 5) 3 Ao k co (shapesTo l d k) := hown.grown hgB (by
        cases e : Ao.map (·.block) with
        | none => exact .inl rfl
        | some b => exact .inr (fun e2 => by injection e2 with e2; have := (hown.1.block e).1; omega))
      have hpB : OwnI WB B 3 A' d c' (pr d k) := ho.grown hgB (by
        cases e : A'.map (·.block) with
        | none => exact .inl rfl
        | some b => exact .inr (fun e2 => by injection e2 with e2; have := (ho.1.block e).1; omega))
      have hrB : RdI WB A n l := hj.rd.grown hgB (fun g e1 e2 => by injection e1 with e1; have := hj.ne _ e2; omega)
      have hbB : Below w.heap.size w WB := hj.bel.grown hgB (by have := hj.bel.size; omega) (fun b e => by injection e with e; omega)
      have hneA := hj.ne
      rw [← hWB] at hbr
      have hsB : WB.heap.size = W1.heap.size := by rw [hWB]; simp [World.putObj]
      have HXB := Lib.hid (And.intro (And.intro hx1B hx2B) (And.intro hxB hrB))
      have HPB := Lib.hid hpB
      have HOB := Lib.hid hOB
      have HBB := Lib.hid hbB
      have HLB := Lib.hid hlB
      have HDB := Lib.hid hdB
      have HAO := Lib.hid hAo
      have cxo : WB.cell? ⟨w2.heap.size, 0, none⟩ = some (.slice Ao k co) := by rw [hxB.cell]; rfl
      have hBs : B ≤ WB.heap.size := by omega
      clear hj ho hl hlt hWB hgB hxo hown hAo hxB hx1B hx2B hOB hpB hrB hbB hlB hdB hy hsB
      have hx64 : I64 (waysOf l (pr d k)) := by
        have := waysOf_bd (c := l) (p := pr d k) (by rw [HLN.out]; exact hn6) HOK.out (pr_chk hd1 (by omega) k)
        unfold I64; omega
      have HSS : Hid (shapesTo l d (k + 1) = shapesTo l d k ++ [waysOf l (pr d k)]) := Lib.hid (shapesTo_succ l d k)
      have hk203 := (count_pos hd1 hd6).2
      generalize waysOf l (pr d k) = x at hx64 HSS ⊢
      obtain ⟨i0, hi0, hz0, hz1, hz2⟩ := info_parts intInfo
      obtain ⟨A2, c2, W5, hrun, hO5, hg5, ha5⟩ := run_app (P := Try.prog) (WB.alloc (.cells #[.int .i64 x] 3)) (w2.heap.size + 5) 22 22 3 i0 (.int .i64 0) 8 Try.underlying22 hi0 hz0 hz1 hz2 rfl (by omega) Ao k co _ (HOB.out.1.alloc _) (some ⟨WB.heap.size, 0, none⟩) 1 1 _ (RdI.one WB 3 x hx64).1 (ints_oneCell' _) (by omega) (by simp; omega)
      have hg5' : WB.grownBy W5 (Ao.map (·.block)) := grown_trans (World.grownBy_alloc WB _ _) hg5
      rw [show (WB.alloc (.cells #[.int .i64 x] 3)).heap.size = WB.heap.size + 1 by simp] at ha5
      have HRUN := Lib.hid hrun
      have HO5 := Lib.hid hO5
      have HG5 := Lib.hid hg5'
      have HA5 := Lib.hid ha5
      have hb5 := below_app HOB.out.1 hg5' (by omega)
      have c5 : W5.cell? ⟨w2.heap.size, 0, none⟩ = some (.slice Ao k co) := (hb5.cell (p := ⟨w2.heap.size, 0, none⟩) (by show w2.heap.size < _; omega)).trans cxo
      have hx5 : Blk W5 w2.heap.size 22 #[.slice Ao k co] := (hb5.block _ (by omega)).trans HXB.out.2.1
      have f5 := hx5.frozen 0
      have HX5 := Lib.hid hx5
      have HB5 := Lib.hid hb5
      have hrr : ({ rec with state := .ready, pending := none } : Loop) = rec := by
        cases rec
        simp only at hst hpe
        subst hst hpe
        rfl
      obtain ⟨W6, hW6⟩ : ∃ W6, W6 = W5.setCell ⟨w2.heap.size, 0, none⟩ (.slice A2 (k + 1) c2) := ⟨_, rfl⟩
      have hl6 : W6.heap[w2.heap.size + 3 + 1]? = some (.loop { rec with state := .busy }) := by rw [hW6]; exact (Below.heap_setCell _ _ _ _ (by simp; omega)).trans ((hb5.block _ (by omega)).trans HLB.out)
      have hlt6 := (Array.getElem?_eq_some_iff.1 hl6).1
      have hend : (Instr.endRound (w2.heap.size + 3 + 1) none).run Try.prog W6 = .ok (.bool true) (W6.putObj (w2.heap.size + 3 + 1) (.loop rec)) := by
        have h9 := run_endRound (P := Try.prog) none hl6
        have h10 : ({ rec with state := (if (none : Option Code).isNone = true then LoopState.ready else LoopState.done), pending := none } : Loop) = rec := hrr
        rw [h9]
        show Result.ok (Value.bool true) (W6.putObj _ (.loop { rec with state := (if (none : Option Code).isNone = true then LoopState.ready else LoopState.done), pending := none })) = _
        rw [h10]
      obtain ⟨W7, hW7⟩ : ∃ W7, W7 = W6.putObj (w2.heap.size + 3 + 1) (.loop rec) := ⟨_, rfl⟩
      have hg7 : W6.grownBy W7 (some (w2.heap.size + 3 + 1)) := by rw [hW7]; exact grownBy_putObj' _ _ _
      have q1 : Blk W7 (w2.heap.size + 1) 22 #[.slice A n c] := Blk.grown (by rw [hW6]; exact Blk.far ((hb5.block _ (by omega)).trans HXB.out.1.1) (p := ⟨w2.heap.size, 0, none⟩) (by simp) _) hg7 (fun e => by injection e with e; omega)
      have q2 : Blk W7 (w2.heap.size + 2) 3 #[.int .i64 d] := Blk.grown (by rw [hW6]; exact Blk.far ((hb5.block _ (by omega)).trans HXB.out.1.2) (p := ⟨w2.heap.size, 0, none⟩) (by simp) _) hg7 (fun e => by injection e with e; omega)
      have q3 : Blk W7 w2.heap.size 22 #[.slice A2 (k + 1) c2] := Blk.grown (by rw [hW6]; exact hx5.set_ 0 (.slice A2 (k + 1) c2)) hg7 (fun e => by injection e with e; omega)
      have q4 : W7.heap[w2.heap.size + 3]? = some (.deferred (some [])) := by
        rw [hW7]
        refine (World.putObj_heap_other (by omega)).trans ?_
        rw [hW6]
        exact (Below.heap_setCell _ _ _ _ (by simp)).trans ((hb5.block _ (by omega)).trans HDB.out)
      have q5 : W7.heap[w2.heap.size + 4]? = some (.loop rec) := by rw [hW7]; exact World.putObj_heap_same hlt6
      have hO5' : OwnI W5 (w2.heap.size + 5) 3 A2 (k + 1) c2 (shapesTo l d (k + 1)) := by
        rw [HSS.out]
        refine ⟨by rw [ints_append]; exact hO5, fun v hv => ?_⟩
        rcases List.mem_append.1 hv with hv | hv
        · exact HOB.out.2 v hv
        · simp at hv; subst hv; exact hx64
      have hA2 : ∀ b, A2.map (·.block) = some b → w2.heap.size + 5 ≤ b := fun b hb => (hO5.block hb).1
      have q6 : OwnI W7 (w2.heap.size + 5) 3 A2 (k + 1) c2 (shapesTo l d (k + 1)) := by
        refine OwnI.grown (w := W6) ?_ hg7 ?_
        · rw [hW6]; exact hO5'.far (p := ⟨w2.heap.size, 0, none⟩) (fun e => by have h9 : w2.heap.size + 5 ≤ w2.heap.size := hA2 _ e; omega) _
        · cases e : A2.map (·.block) with
          | none => exact .inl rfl
          | some b => exact .inr (fun e2 => by injection e2 with e2; have := hA2 b e; omega)
      have keepR : ∀ {X : Option Addr} {m : Nat} {r : List Int}, RdI WB X m r → (∀ b, X.map (·.block) = some b → b ≠ w2.heap.size ∧ b ≠ w2.heap.size + 3 + 1 ∧ Ao.map (·.block) ≠ some b) → RdI W7 X m r := by
        intro X m r hr hn
        refine RdI.grown (w := W6) ?_ hg7 (fun g e1 e2 => by injection e1 with e1; subst e1; exact (hn _ e2).2.1 rfl)
        rw [hW6]
        exact (hr.grown hg5' (fun g e1 e2 => (hn _ e2).2.2 e1)).setCell (fun e => (hn _ e).1 rfl) _
      have q7 : RdI W7 A n l := keepR HXB.out.2.2 (fun b hb => by
        have h1 := hneA b hb
        refine ⟨by omega, by omega, fun e => ?_⟩
        have := (HOB.out.1.block e).1
        omega)
      have q8 : RdI W7 A' d (pr d k) := keepR HPB.out.rd (fun b hb => by
        have h1 := (HPB.out.1.block hb).1
        refine ⟨by omega, by omega, fun e => ?_⟩
        have := HAO.out b e
        omega)
      have q9 : Below w.heap.size w W7 := (HBB.out.trans (by rw [hW6]; exact (hb5.mono (by omega)).setCell (p := ⟨w2.heap.size, 0, none⟩) hle.2.2 _)).grown hg7 (by have := HBB.out.size; have := hb5.size; rw [hW6]; simp [World.setCell]; omega) (fun b e => by injection e with e; omega)
      have hs7 : WB.heap.size ≤ W7.heap.size := by have := hb5.size; have := hg7.size; rw [hW6] at this; simp [World.setCell] at this; omega
      have HQ := Lib.hid (And.intro (show ShJ w w2.heap.size rec A n c l d (k + 1) W7.heap.size W7 from ⟨⟨A2, c2, q3, q6, fun b hb => (q6.1.block hb).2⟩, q1, q2, q4, q5, q7, hneA, q9, by omega, Nat.le_refl _, hle.2.2⟩) q8)
      rw [← hW7] at hend
      have HEND := Lib.hid hend
      have HW6 := Lib.hid hW6
      clear hrr hW6 hl6 hlt6 hend hW7 hg7 q1 q2 q3 q4 q5 hO5' hA2 q6 keepR q7 q8 q9 hs7
      clear hrun hO5 hg5 hg5' ha5 hi0 hz0 hz1 hz2 hb5 hx5
      have e := HREC.out
      subst e
      gi_wp2
      refine ⟨WB, hbr, ?_⟩
      gi_wp2_with (gi_at_builtin; refine wpListIn_app_run _ rfl (.tmp 20) (.tmp 22) _ rfl _ _ rfl rfl HRUN.out ?_)
      rw [← HW6.out]
      exact ⟨_, _, HEND.out, rfl, _, HQ.out⟩
    · rintro e W2 ⟨⟨v, rfl⟩, B, hj⟩
      have hel := run_endLoop (P := Try.prog) hj.lp (by rw [hst]; simp)
      rw [hpe] at hel
      obtain ⟨Ao, co, hxo, hown, hAo⟩ := hj.out
      have hle := hj.le
      obtain ⟨W4, hW4⟩ : ∃ W4, W4 = W2.putObj (w2.heap.size + 3 + 1) (.loop { rec with state := .exhausted, pending := none }) := ⟨_, rfl⟩
      rw [← hW4] at hel
      have hg4 : W2.grownBy W4 (some (w2.heap.size + 3 + 1)) := by rw [hW4]; exact grownBy_putObj' _ _ _
      have hd4 : W4.heap[w2.heap.size + 3]? = some (.deferred (some [])) := by rw [hW4]; exact (World.putObj_heap_other (by omega)).trans hj.df
      have hx4 : Blk W4 w2.heap.size 22 #[.slice Ao (countR d).toNat co] := hxo.grown hg4 (fun e => by injection e with e; omega)
      have hA2 : ∀ b, Ao.map (·.block) = some b → w2.heap.size + 5 ≤ b := fun b hb => (hown.1.block hb).1
      have hne : ∀ r, r < w2.heap.size + 5 → Ao.map (·.block) = none ∨ Ao.map (·.block) ≠ some r := fun r hr => by
        cases e : Ao.map (·.block) with
        | none => exact .inl rfl
        | some b => exact .inr (fun e2 => by injection e2 with e2; have := hA2 b e; omega)
      have ho4 : OwnI W4 (w2.heap.size + 5) 3 Ao (countR d).toNat co (shapesTo l d (countR d).toNat) := hown.grown hg4 (hne _ (by omega))
      have hb4 : Below w.heap.size w W4 := hj.bel.grown hg4 (by have := hj.bel.size; omega) (fun b e => by injection e with e; omega)
      have hg6 := grownBy_putObj' W4 (w2.heap.size + 3) (.deferred none)
      have ho6 := ho4.grown hg6 (hne _ (by omega))
      have hb6 : Below w.heap.size w (W4.putObj (w2.heap.size + 3) (.deferred none)) := hb4.grown hg6 (by have := hb4.size; omega) (fun b e => by injection e with e; omega)
      have c4 : W4.cell? ⟨w2.heap.size, 0, none⟩ = some (.slice Ao (countR d).toNat co) := by rw [hx4.cell]; rfl
      have HF := Lib.hid (And.intro hd4 (And.intro (ho6.mono (base' := w.heap.size) (by omega)) hb6))
      clear hg4 hd4 hx4 hA2 hne ho4 hb4 hg6 ho6 hb6 hxo hown hAo hj hW4
      refine ⟨none, W4, hel, ?_⟩
      clear hel
      gi_wp2
      obtain ⟨hd4, ho6, hb6⟩ := HF.out
      refine ⟨by simp, .inl ⟨_, _, rfl, run_takeDeferred hd4, ?_⟩⟩
      refine ⟨.tuple #[.slice Ao (countR d).toNat co, .int .i64 0], by simp [results, Try.f35, go_sem], ?_⟩
      rw [HV.out]
      have hsl : (shapesTo l d (countR d).toNat).length = (countR d).toNat := by simp [shapesTo]
      exact ⟨Ao, co, by simp only [hsl], by simp only [hsl]; exact ho6, hb6⟩
  · have HV : Hid (shapesE l d = ([], shapedC l d)) := Lib.hid (by unfold shapesE; rw [if_pos hz])
    have HQ : Hid (∀ W', RdI W' A n l → Calls Try.prog 90 #[.agg #[.slice A n c, .int .i64 d]] W' (NumM (shapedC l d) W')) := Lib.hid (fun W' h' => shaped_any A n c l d W' h' hd)
    generalize shapedC l d = z at HQ hz HV
    have g : (z != 0) = true := by simpa using hz
    have HA := Lib.hid (h.alloc (.cells #[.slice A n c, .int .i64 d] 24))
    have HB := Lib.hid ((Below.refl _ w).alloc (Nat.le_refl _) (.cells #[.slice A n c, .int .i64 d] 24))
    clear hz h
    go_enter Try.func35, Try.ntmps35
    go_wp2_with fail
    refine (HQ.out _ HA.out).mono ?_; rintro e w2 ⟨rfl, hb⟩
    go_wp2
    go_ret2
    rw [HV.out]
    exact ⟨none, 0, rfl, OwnI.nil_ _ _ _, HB.out.trans (hb.mono HB.out.size)⟩
end Go.Proofs.Ytgnfkgmppeohoaa
