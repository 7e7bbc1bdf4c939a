/- Walks: the least and the greatest number of what is handed out. Walks: how fair orders are. -/
import Derived.Test.YtcmacejpoihhlaaMgR
import Derived.Sort.CutIn
namespace Go.Proofs.Ytcmacejpoihhlaa
open Go.RowKit Go.Shelf
attribute [local go_sem] Oper.semAt_some

/-- what stands between two rounds of spread: the boxes and the loop's record from block g on -/
structure SpJ (w : World) (rec : Loop) (pre : List Int) (W : World) : Prop where
  lo : Blk W w.heap.size 3 #[.int .i64 (mnD pre)]
  hi : Blk W (w.heap.size + 1) 3 #[.int .i64 (mxD pre)]
  fi : Blk W (w.heap.size + 1 + 1) 4 #[.bool pre.isEmpty]
  df : W.heap[w.heap.size + 3]? = some (.deferred (some []))
  lp : W.heap[w.heap.size + 3 + 1]? = some (.loop rec)
  bel : Below w.heap.size w W

set_option maxHeartbeats 4000000 in
set_option maxRecDepth 100000 in
theorem spread_any (b1 b2 b3 n : Nat) (T M : List Int) (d : Bool) (f : Nat → Nat → Int) (w : World) (h12 : n ≤ 12) (hT0 : T[0]? = some (n : Int)) (hM : ∀ a b : Nat, a < n → b < n → M[a * 12 + b]? = some (f a b))
    (h1 : Blk w b1 116 (ints T).toArray) (h3 : Blk w b3 114 (ints M).toArray) (h2 : Blk w b2 4 #[.bool d]) :
    Calls Try.prog 126 #[.func (.func 139) #[] #[.pointer (some ⟨b1, 0, none⟩), .pointer (some ⟨b2, 0, none⟩), .pointer (some ⟨b3, 0, none⟩)]] w
      fun e w' => e = .returned (.tuple #[.int .i64 (mnD (seqF n d f)), .int .i64 (mxD (seqF n d f))]) ∧ Below w.heap.size w w' := by
  refine (callsIn_wide (n := 3)).1 ?_
  refine callsIn_of_wp_marks Try.func126 rfl trivial ?_ rfl
  simp only [Try.ntmps126, List.size_toArray, List.length_cons, List.length_nil, Nat.reduceAdd, Nat.reduceSub, Array.replicate_succ, Array.replicate_zero, List.push_toArray, List.append_toArray, List.nil_append, List.cons_append]
  have HT0 := Lib.hid hT0
  have HM := Lib.hid hM
  have H1 := Lib.hid h1
  have H2 := Lib.hid h2
  have H3 := Lib.hid h3
  clear hT0 hM h1 h2 h3
  gi_wp2_with fail
  have hx0 := ((Blk.new w 3 #[.int .i64 0]).alloc (.cells #[.int .i64 0] 3)).alloc (.cells #[.bool true] 4)
  have hx1 := (Blk.new (w.alloc (.cells #[.int .i64 0] 3)) 3 #[.int .i64 0]).alloc (.cells #[.bool true] 4)
  rw [show (w.alloc (.cells #[.int .i64 0] 3)).heap.size = w.heap.size + 1 by simp] at hx1
  have hx2 := Blk.new ((w.alloc (.cells #[.int .i64 0] 3)).alloc (.cells #[.int .i64 0] 3)) 4 #[.bool true]
  rw [show ((w.alloc (.cells #[.int .i64 0] 3)).alloc (.cells #[.int .i64 0] 3)).heap.size = w.heap.size + 1 + 1 by simp] at hx2
  have hb4 := (((Below.refl _ w).alloc (Nat.le_refl _) (.cells #[.int .i64 0] 3)).alloc (by simp) (.cells #[.int .i64 0] 3)).alloc (by simp; omega) (.cells #[.bool true] 4)
  have hs4 : (((w.alloc (.cells #[.int .i64 0] 3)).alloc (.cells #[.int .i64 0] 3)).alloc (.cells #[.bool true] 4)).heap.size = w.heap.size + 3 := by simp
  obtain ⟨w4, hw4⟩ : ∃ w4, ((w.alloc (.cells #[.int .i64 0] 3)).alloc (.cells #[.int .i64 0] 3)).alloc (.cells #[.bool true] 4) = w4 := ⟨_, rfl⟩
  rw [hw4] at hx0 hx1 hx2 hb4 hs4 ⊢
  clear hw4
  refine wpIn_range1 (gf := 139) (lb := #[.pointer (some ⟨b1, 0, none⟩), .pointer (some ⟨b2, 0, none⟩), .pointer (some ⟨b3, 0, none⟩)]) rfl (enters_of Try.func139 (by kernel_rfl) rfl) ?_
  intro fn rec hrec WL hWL
  have hst : rec.state = .ready := by rw [hrec]
  have hpe : rec.pending = none := by rw [hrec]
  have hps : rec.params.size = 1 := by rw [hrec]; rfl
  have hsz : (w4.alloc (.deferred (some []))).heap.size = w4.heap.size + 1 := by simp
  have hbl : Below w4.heap.size w4 WL := by rw [hWL]; exact ((Below.refl _ w4).alloc (Nat.le_refl _) _).alloc (by simp) _
  have hD : WL.heap[w4.heap.size]? = some (.deferred (some [])) := by
    rw [hWL]; exact (Below.heap_alloc _ _ _ (by simp)).trans (World.alloc_heap_new w4 _)
  have hR : WL.heap[w4.heap.size + 1]? = some (.loop rec) := by
    rw [hWL]; have := World.alloc_heap_new (w4.alloc (.deferred (some []))) (.loop rec); rwa [hsz] at this
  rw [hs4] at hD hR
  have HSJ := Lib.hid (show SpJ w rec [] WL from ⟨hx0.below hbl, hx1.below hbl, hx2.below hbl, hD, hR, hb4.trans (hbl.mono (by omega))⟩)
  have HREC := Lib.hid hrec
  rw [hs4]
  clear hsz hbl hD hR hWL hrec hx0 hx1 hx2 hb4 hs4
  refine (cellsIter_any (w.heap.size + 3 + 1) (SpJ w rec) b1 b2 b3 n T M d f WL h12 HT0.out HM.out ?_ HSJ.out ?_).mono ?_
  · intro pre W' hj
    exact ⟨H1.out.below hj.bel, H3.out.below hj.bel, H2.out.below hj.bel⟩
  · intro pre x W1 hj _
    have hl := hj.lp
    have hy := run_yield (P := Try.prog) (args := #[.int .i64 x]) hl (by rw [hps]; rfl)
    refine ⟨_, _, _, _, hy, roundIn_of_wpIn trivial ?_⟩
    have hbr := run_beginRound (P := Try.prog) hl hst
    have hlt : w.heap.size + 3 + 1 < W1.heap.size := (Array.getElem?_eq_some_iff.1 hl).1
    obtain ⟨WB, hWB⟩ : ∃ WB, WB = W1.putObj (w.heap.size + 3 + 1) (.loop { rec with state := .busy }) := ⟨_, rfl⟩
    have hgB : W1.grownBy WB (some (w.heap.size + 3 + 1)) := by rw [hWB]; exact grownBy_putObj' _ _ _
    have hlB : WB.heap[w.heap.size + 3 + 1]? = some (.loop { rec with state := .busy }) := by rw [hWB]; exact World.putObj_heap_same hlt
    have hdB : WB.heap[w.heap.size + 3]? = some (.deferred (some [])) := by rw [hWB]; exact (World.putObj_heap_other (by omega)).trans hj.df
    have hloB : Blk WB w.heap.size 3 #[.int .i64 (mnD pre)] := hj.lo.grown hgB (fun e => by injection e with e; omega)
    have hhiB : Blk WB (w.heap.size + 1) 3 #[.int .i64 (mxD pre)] := hj.hi.grown hgB (fun e => by injection e with e; omega)
    have hfiB : Blk WB (w.heap.size + 1 + 1) 4 #[.bool pre.isEmpty] := hj.fi.grown hgB (fun e => by injection e with e; omega)
    have hbB : Below w.heap.size w WB := hj.bel.grown hgB (by have := hj.bel.size; omega) (fun b e => by injection e with e; omega)
    rw [← hWB] at hbr
    have hrr : ({ rec with state := .ready, pending := none } : Loop) = rec := by
      cases rec
      simp only at hst hpe
      subst hst hpe
      rfl
    -- what a round leaves, from whatever the body has made of the boxes
    have HEND : Hid (∀ (W6 : World) (pre' : List Int), Blk W6 w.heap.size 3 #[.int .i64 (mnD pre')] → Blk W6 (w.heap.size + 1) 3 #[.int .i64 (mxD pre')] → Blk W6 (w.heap.size + 1 + 1) 4 #[.bool pre'.isEmpty] →
        (∀ b, w.heap.size + 3 ≤ b → W6.heap[b]? = WB.heap[b]?) → Below w.heap.size WB W6 →
        ∃ W7, (Instr.endRound (w.heap.size + 3 + 1) none).run Try.prog W6 = .ok (.bool true) W7 ∧ SpJ w rec pre' W7) := Lib.hid (by
      intro W6 pre' b1 b2 b3 hoth hbel6
      have hl6 : W6.heap[w.heap.size + 3 + 1]? = some (.loop { rec with state := .busy }) := (hoth _ (by omega)).trans hlB
      have hlt6 := (Array.getElem?_eq_some_iff.1 hl6).1
      have hend : (Instr.endRound (w.heap.size + 3 + 1) none).run Try.prog W6 = .ok (.bool true) (W6.putObj (w.heap.size + 3 + 1) (.loop rec)) := by
        have h9 := run_endRound (P := Try.prog) none hl6
        rw [h9]
        show Result.ok (Value.bool true) (W6.putObj _ (.loop { rec with state := (if (none : Option Code).isNone = true then LoopState.ready else LoopState.done), pending := none })) = _
        rw [show ({ rec with state := (if (none : Option Code).isNone = true then LoopState.ready else LoopState.done), pending := none } : Loop) = rec from hrr]
      have hg7 : W6.grownBy (W6.putObj (w.heap.size + 3 + 1) (.loop rec)) (some (w.heap.size + 3 + 1)) := grownBy_putObj' _ _ _
      exact ⟨_, hend, b1.grown hg7 (fun e => by injection e with e; omega), b2.grown hg7 (fun e => by injection e with e; omega), b3.grown hg7 (fun e => by injection e with e; omega),
        (World.putObj_heap_other (by omega)).trans ((hoth _ (by omega)).trans hdB), World.putObj_heap_same hlt6, (hbB.trans hbel6).grown hg7 (by have := hbB.size; omega) (fun b e => by injection e with e; omega)⟩)
    have HLO := Lib.hid hloB
    have HHI := Lib.hid hhiB
    have HFI := Lib.hid hfiB
    have c0 : WB.cell? ⟨w.heap.size, 0, none⟩ = some (.int .i64 (mnD pre)) := by rw [hloB.cell]; rfl
    have c1 : WB.cell? ⟨w.heap.size + 1, 0, none⟩ = some (.int .i64 (mxD pre)) := by rw [hhiB.cell]; rfl
    have c2 : WB.cell? ⟨w.heap.size + 1 + 1, 0, none⟩ = some (.bool pre.isEmpty) := by rw [hfiB.cell]; rfl
    have f0 := hloB.frozen 0
    have f1 := hhiB.frozen 0
    have f2 := hfiB.frozen 0
    clear hj hl hlt hWB hgB hloB hhiB hfiB hbB hlB hdB hy hrr
    have e := HREC.out
    subst e
    by_cases hpre : pre = []
    · subst hpre
      have HN1 : Hid (mnD ([] ++ [x]) = x) := Lib.hid rfl
      have HN2 : Hid (mxD ([] ++ [x]) = x) := Lib.hid rfl
      have HN3 : Hid (([] ++ [x] : List Int).isEmpty = false) := Lib.hid rfl
      have c0' : WB.cell? ⟨w.heap.size, 0, none⟩ = some (.int .i64 0) := c0
      have c1' : WB.cell? ⟨w.heap.size + 1, 0, none⟩ = some (.int .i64 0) := c1
      have c2' : WB.cell? ⟨w.heap.size + 1 + 1, 0, none⟩ = some (.bool true) := c2
      clear c0 c1 c2
      gi_wp2
      refine ⟨WB, hbr, ?_⟩
      clear hbr
      gi_upto_region 6 with fail
      have HL5 := Lib.hid (((HLO.out.set_ 0 (.int .i64 x)).far (p := ⟨w.heap.size + 1, 0, none⟩) (by show w.heap.size ≠ w.heap.size + 1; omega) (.int .i64 x)).far (p := ⟨w.heap.size + 1 + 1, 0, none⟩) (by show w.heap.size ≠ w.heap.size + 1 + 1; omega) (.bool false))
      have HH5 := Lib.hid (((HHI.out.far (p := ⟨w.heap.size, 0, none⟩) (by show w.heap.size + 1 ≠ w.heap.size; omega) (.int .i64 x)).set_ 0 (.int .i64 x)).far (p := ⟨w.heap.size + 1 + 1, 0, none⟩) (by show w.heap.size + 1 ≠ w.heap.size + 1 + 1; omega) (.bool false))
      have HF5 := Lib.hid (((HFI.out.far (p := ⟨w.heap.size, 0, none⟩) (by show w.heap.size + 1 + 1 ≠ w.heap.size; omega) (.int .i64 x)).far (p := ⟨w.heap.size + 1, 0, none⟩) (by show w.heap.size + 1 + 1 ≠ w.heap.size + 1; omega) (.int .i64 x)).set_ 0 (.bool false))
      have HO5 : Hid (∀ b, w.heap.size + 3 ≤ b → (((WB.setCell ⟨w.heap.size, 0, none⟩ (.int .i64 x)).setCell ⟨w.heap.size + 1, 0, none⟩ (.int .i64 x)).setCell ⟨w.heap.size + 1 + 1, 0, none⟩ (.bool false)).heap[b]? = WB.heap[b]?) := Lib.hid (fun b hb =>
        (Below.heap_setCell _ _ _ _ (by show b ≠ w.heap.size + 1 + 1; omega)).trans ((Below.heap_setCell _ _ _ _ (by show b ≠ w.heap.size + 1; omega)).trans (Below.heap_setCell _ _ _ _ (by show b ≠ w.heap.size; omega))))
      have HB5 := Lib.hid ((((Below.refl w.heap.size WB).setCell (p := ⟨w.heap.size, 0, none⟩) (Nat.le_refl _) (.int .i64 x)).setCell (p := ⟨w.heap.size + 1, 0, none⟩) (by show w.heap.size ≤ w.heap.size + 1; omega) (.int .i64 x)).setCell (p := ⟨w.heap.size + 1 + 1, 0, none⟩) (by show w.heap.size ≤ w.heap.size + 1 + 1; omega) (.bool false))
      obtain ⟨W5, hW5⟩ : ∃ W5, ((WB.setCell ⟨w.heap.size, 0, none⟩ (.int .i64 x)).setCell ⟨w.heap.size + 1, 0, none⟩ (.int .i64 x)).setCell ⟨w.heap.size + 1 + 1, 0, none⟩ (.bool false) = W5 := ⟨_, rfl⟩
      rw [hW5] at HL5 HH5 HF5 HO5 HB5 ⊢
      clear hW5 c0' c1' c2' f0 f1 f2 HLO HHI HFI
      have c0 : W5.cell? ⟨w.heap.size, 0, none⟩ = some (.int .i64 x) := by rw [HL5.out.cell]; rfl
      have c1 : W5.cell? ⟨w.heap.size + 1, 0, none⟩ = some (.int .i64 x) := by rw [HH5.out.cell]; rfl
      have f0 := HL5.out.frozen 0
      have f1 := HH5.out.frozen 0
      have HE7 := Lib.hid (HEND.out ((W5.setCell ⟨w.heap.size, 0, none⟩ (.int .i64 x)).setCell ⟨w.heap.size + 1, 0, none⟩ (.int .i64 x)).drew ([] ++ [x])
        (by rw [HN1.out]; exact (((HL5.out.set_ 0 (.int .i64 x)).far (p := ⟨w.heap.size + 1, 0, none⟩) (by show w.heap.size ≠ w.heap.size + 1; omega) (.int .i64 x))).drew)
        (by rw [HN2.out]; exact (((HH5.out.far (p := ⟨w.heap.size, 0, none⟩) (by show w.heap.size + 1 ≠ w.heap.size; omega) (.int .i64 x)).set_ 0 (.int .i64 x))).drew)
        (by rw [HN3.out]; exact (((HF5.out.far (p := ⟨w.heap.size, 0, none⟩) (by show w.heap.size + 1 + 1 ≠ w.heap.size; omega) (.int .i64 x)).far (p := ⟨w.heap.size + 1, 0, none⟩) (by show w.heap.size + 1 + 1 ≠ w.heap.size + 1; omega) (.int .i64 x))).drew)
        (fun b hb => ((Below.heap_setCell _ _ _ _ (by show b ≠ w.heap.size + 1; omega)).trans (Below.heap_setCell _ _ _ _ (by show b ≠ w.heap.size; omega))).trans (HO5.out b hb))
        ((((HB5.out.setCell (p := ⟨w.heap.size, 0, none⟩) (Nat.le_refl _) (.int .i64 x)).setCell (p := ⟨w.heap.size + 1, 0, none⟩) (by show w.heap.size ≤ w.heap.size + 1; omega) (.int .i64 x))).drew))
      clear HEND HSJ HL5 HH5 HF5 HO5 HB5 HN1 HN2 HN3
      gi_region
      all_goals
        gi_wp2
        obtain ⟨W7, e1, e2⟩ := HE7.out
        exact ⟨_, _, e1, rfl, e2⟩
    · have hemp : pre.isEmpty = false := by cases pre with | nil => exact absurd rfl hpre | cons a l => rfl
      have HN1 := Lib.hid (mnD_snoc hpre x)
      have HN2 := Lib.hid (mxD_snoc hpre x)
      have HN3 : Hid ((pre ++ [x]).isEmpty = false) := Lib.hid (by cases pre <;> rfl)
      rw [hemp] at c2 HFI
      have HE7 := Lib.hid (HEND.out ((WB.setCell ⟨w.heap.size, 0, none⟩ (.int .i64 (min (mnD pre) x))).setCell ⟨w.heap.size + 1, 0, none⟩ (.int .i64 (max (mxD pre) x))).drew (pre ++ [x])
        (by rw [HN1.out]; exact (((HLO.out.set_ 0 _).far (p := ⟨w.heap.size + 1, 0, none⟩) (by show w.heap.size ≠ w.heap.size + 1; omega) _)).drew)
        (by rw [HN2.out]; exact (((HHI.out.far (p := ⟨w.heap.size, 0, none⟩) (by show w.heap.size + 1 ≠ w.heap.size; omega) _).set_ 0 _)).drew)
        (by rw [HN3.out]; exact (((HFI.out.far (p := ⟨w.heap.size, 0, none⟩) (by show w.heap.size + 1 + 1 ≠ w.heap.size; omega) _).far (p := ⟨w.heap.size + 1, 0, none⟩) (by show w.heap.size + 1 + 1 ≠ w.heap.size + 1; omega) _)).drew)
        (fun b hb => ((Below.heap_setCell _ _ _ _ (by show b ≠ w.heap.size + 1; omega)).trans (Below.heap_setCell _ _ _ _ (by show b ≠ w.heap.size; omega))))
        (((((Below.refl w.heap.size WB).setCell (p := ⟨w.heap.size, 0, none⟩) (Nat.le_refl _) _).setCell (p := ⟨w.heap.size + 1, 0, none⟩) (by show w.heap.size ≤ w.heap.size + 1; omega) _)).drew))
      clear hemp hpre HEND HSJ HLO HHI HFI HN1 HN2 HN3
      gi_wp2
      refine ⟨WB, hbr, ?_⟩
      clear hbr
      gi_wp2_with fail
      gi_region
      all_goals
        gi_wp2
        obtain ⟨W7, e1, e2⟩ := HE7.out
        exact ⟨_, _, e1, rfl, e2⟩
  · rintro e W2 ⟨⟨v, rfl⟩, hj⟩
    have hel := run_endLoop (P := Try.prog) hj.lp (by rw [hst]; simp)
    rw [hpe] at hel
    obtain ⟨W4, hW4⟩ : ∃ W4, W4 = W2.putObj (w.heap.size + 3 + 1) (.loop { rec with state := .exhausted, pending := none }) := ⟨_, rfl⟩
    rw [← hW4] at hel
    have hg4 : W2.grownBy W4 (some (w.heap.size + 3 + 1)) := by rw [hW4]; exact grownBy_putObj' _ _ _
    have hd4 : W4.heap[w.heap.size + 3]? = some (.deferred (some [])) := by rw [hW4]; exact (World.putObj_heap_other (by omega)).trans hj.df
    have hx4 := hj.lo.grown hg4 (fun e => by injection e with e; omega)
    have hy4 := hj.hi.grown hg4 (fun e => by injection e with e; omega)
    have hb4 : Below w.heap.size w W4 := hj.bel.grown hg4 (by have := hj.bel.size; omega) (fun b e => by injection e with e; omega)
    obtain ⟨lo, hlo⟩ : ∃ x, mnD (seqF n d f) = x := ⟨_, rfl⟩
    obtain ⟨hi, hhi⟩ : ∃ x, mxD (seqF n d f) = x := ⟨_, rfl⟩
    rw [hlo] at hx4
    rw [hhi] at hy4
    have HLO := Lib.hid hlo
    have HHI := Lib.hid hhi
    have HB4 := Lib.hid hb4
    have HD4 := Lib.hid hd4
    have c4 : W4.cell? ⟨w.heap.size, 0, none⟩ = some (.int .i64 lo) := by rw [hx4.cell]; rfl
    have c5 : W4.cell? ⟨w.heap.size + 1, 0, none⟩ = some (.int .i64 hi) := by rw [hy4.cell]; rfl
    have f4 := hx4.frozen 0
    have f5 := hy4.frozen 0
    clear hg4 hd4 hx4 hy4 hb4 hj hW4 hlo hhi HSJ
    refine ⟨none, W4, hel, ?_⟩
    clear hel
    gi_wp2_with fail
    have hS1 : W4.drew.setCell ⟨w.heap.size, 0, none⟩ (.int .i64 lo) = W4.drew := setCell_same _ _ _ _ c4
    have hS2 : W4.drew.setCell ⟨w.heap.size + 1, 0, none⟩ (.int .i64 hi) = W4.drew := setCell_same _ _ _ _ c5
    have c6 : W4.drew.cell? ⟨w.heap.size, 0, none⟩ = some (.int .i64 lo) := c4
    have c7 : W4.drew.cell? ⟨w.heap.size + 1, 0, none⟩ = some (.int .i64 hi) := c5
    gi_region
    all_goals
      clear hS1 hS2 c4 c5
      gi_wp2
      have c8 : (W4.drew.putObj (w.heap.size + 3) (.deferred none)).cell? ⟨w.heap.size, 0, none⟩ = some (.int .i64 lo) := (World.cell?_of_block (World.putObj_heap_other (by simp))).trans c6
      have c9 : (W4.drew.putObj (w.heap.size + 3) (.deferred none)).cell? ⟨w.heap.size + 1, 0, none⟩ = some (.int .i64 hi) := (World.cell?_of_block (World.putObj_heap_other (by simp))).trans c7
      have hg6 : W4.drew.grownBy (W4.drew.putObj (w.heap.size + 3) (.deferred none)) (some (w.heap.size + 3)) := grownBy_putObj' _ _ _
      have hb4 : Below w.heap.size w W4.drew := HB4.out.drew
      have hb6 : Below w.heap.size w (W4.drew.putObj (w.heap.size + 3) (.deferred none)) := hb4.grown hg6 (by have := hb4.size; omega) (fun b e => by injection e with e; omega)
      refine ⟨by simp, .inl ⟨_, _, rfl, run_takeDeferred HD4.out, ?_⟩⟩
      refine ⟨.tuple #[.int .i64 lo, .int .i64 hi], ?_, ?_⟩
      · simp [results, Try.f126, go_sem, c8, c9]
      · rw [HLO.out, HHI.out]
        exact ⟨rfl, hb6⟩
end Go.Proofs.Ytcmacejpoihhlaa

namespace Go.Proofs.Ytcmacejpoihhlaa
open Go.RowKit

def midP (T : List Int) : List Int := (T.drop 1).take 144
def midN (T : List Int) : List Int := (T.drop 145).take 144
theorem midP_get {M : Int} {T : List Int} (h : TabOk M T) {a b : Nat} (ha : a < 12) (hb : b < 12) : (midP T)[a * 12 + b]? = some (tP T a b) := by
  unfold midP tP
  rw [List.getElem?_take, if_pos (by omega), List.getElem?_drop]
  exact get_getD (by rw [h.len]; omega)
theorem midN_get {M : Int} {T : List Int} (h : TabOk M T) {a b : Nat} (ha : a < 12) (hb : b < 12) : (midN T)[a * 12 + b]? = some (tN T a b) := by
  unfold midN tN
  rw [List.getElem?_take, if_pos (by omega), List.getElem?_drop]
  exact get_getD (by rw [h.len]; omega)
theorem mid_len {M : Int} {T : List Int} (h : TabOk M T) : (midP T).length = 144 ∧ (midN T).length = 144 := by
  unfold midP midN
  simp [h.len]
theorem mid12Size : (Try.prog.info? 114).map (·.size) = some 144 := by kernel_rfl
theorem rangeAt_mid {w : World} {q : Nat} {t : TypeId} {T : List Int} (h : Blk w q t (ints T).toArray) (o : Nat) : w.rangeAt q o (ints ((T.drop o).take 144)) := by
  intro j v hv
  rw [h.cell]
  simp only [List.getElem?_toArray]
  rw [ints_get] at hv ⊢
  rw [List.getElem?_take] at hv
  split at hv
  · rwa [List.getElem?_drop] at hv
  · cases hv

set_option maxHeartbeats 4000000 in
set_option maxRecDepth 100000 in
theorem differences_any (n : Nat) (T : List Int) (w : World) (h12 : n ≤ 12) (hT : TabOk 10000 T) (hT0 : T[0]? = some (n : Int)) : Calls Try.prog 107 #[.agg (ints T).toArray] w
    fun e w' => e = .returned (.agg #[.int .i64 (difT n T).1, .int .i64 (difT n T).2]) ∧ Below w.heap.size w w' := by
  go_enter Try.func107, Try.ntmps107
  go_upto_region 1 with fail
  have HX := Lib.hid ((Blk.new w 116 (ints T).toArray).alloc (.cells #[.int .i64 0, .int .i64 0] 112))
  have hr := Blk.new (w.alloc (.cells (ints T).toArray 116)) 112 #[.int .i64 0, .int .i64 0]
  rw [show (w.alloc (.cells (ints T).toArray 116)).heap.size = w.heap.size + 1 by simp] at hr
  have HR := Lib.hid hr
  have HB := Lib.hid (((Below.refl _ w).alloc (Nat.le_refl _) (.cells (ints T).toArray 116)).alloc (by simp) (.cells #[.int .i64 0, .int .i64 0] 112))
  obtain ⟨W, hW⟩ : ∃ W, (w.alloc (.cells (ints T).toArray 116)).alloc (.cells #[.int .i64 0, .int .i64 0] 112) = W := ⟨_, rfl⟩
  rw [hW] at HX HR HB ⊢
  obtain ⟨q, hq⟩ : ∃ q, w.heap.size = q := ⟨_, rfl⟩
  rw [hq] at HX HR HB ⊢
  have HQ := Lib.hid hq
  clear hW hq hr
  have hszT := tab_size hT
  have hml := mid_len hT
  have HT := Lib.hid hT
  have HT0 := Lib.hid hT0
  have hi144P : (Try.prog.info? 114).map (·.size) = some (ints (midP T)).length := by rw [mid12Size, ints_length, hml.1]
  have hi144N : (Try.prog.info? 114).map (·.size) = some (ints (midN T)).length := by rw [mid12Size, ints_length, hml.2]
  have hrg : W.rangeAt q 1 (ints (midP T)) := rangeAt_mid HX.out 1
  clear hT hT0 hml
  go_wp2_with (first
    | (refine wpList_load_row rfl _ (.tmp 1) rfl q rfl _ _ _ _ HX.out Try.underlying116 rfl hszT ?_)
    | (refine wpList_load_mid rfl _ (.tmp 9) rfl q 1 rfl _ _ hrg Try.underlying114 rfl hi144P ?_))
  refine (cellsMk_any (ints T).toArray (ints (midP T)).toArray false W).mono ?_; rintro e w' ⟨rfl, rfl⟩
  have hx1 := ((Blk.new W 116 (ints T).toArray).alloc (.cells (ints (midP T)).toArray 114)).alloc (.cells #[.bool false] 4)
  have hx2 := (Blk.new (W.alloc (.cells (ints T).toArray 116)) 114 (ints (midP T)).toArray).alloc (.cells #[.bool false] 4)
  rw [show (W.alloc (.cells (ints T).toArray 116)).heap.size = W.heap.size + 1 by simp] at hx2
  have hx3 := Blk.new ((W.alloc (.cells (ints T).toArray 116)).alloc (.cells (ints (midP T)).toArray 114)) 4 #[.bool false]
  rw [show ((W.alloc (.cells (ints T).toArray 116)).alloc (.cells (ints (midP T)).toArray 114)).heap.size = W.heap.size + 1 + 1 by simp] at hx3
  have hbb : Below W.heap.size W (((W.alloc (.cells (ints T).toArray 116)).alloc (.cells (ints (midP T)).toArray 114)).alloc (.cells #[.bool false] 4)) := (((Below.refl _ _).alloc (Nat.le_refl _) _).alloc (by simp) _).alloc (by simp; omega) _
  obtain ⟨V5, hV⟩ : ∃ V, ((W.alloc (.cells (ints T).toArray 116)).alloc (.cells (ints (midP T)).toArray 114)).alloc (.cells #[.bool false] 4) = V := ⟨_, rfl⟩
  rw [hV] at hx1 hx2 hx3 hbb ⊢
  have HS5 := Lib.hid (spread_any W.heap.size (W.heap.size + 1 + 1) (W.heap.size + 1) n T (midP T) false (tP T) V5 h12 HT0.out (fun a b ha hb => midP_get HT.out (by omega) (by omega)) hx1 hx2 hx3)
  have HV5 := Lib.hid hbb
  clear hV hx1 hx2 hx3 hbb
  go_wp2_with fail
  refine HS5.out.mono ?_; rintro e w5 ⟨rfl, b9⟩
  have HC5 := Lib.hid (HV5.out.trans (b9.mono HV5.out.size))
  clear b9 HS5 HV5
  have HX5 := Lib.hid (HX.out.below HC5.out)
  have HR5 := Lib.hid (HR.out.below HC5.out)
  have HB5 := Lib.hid (HB.out.trans (HC5.out.mono (by have := HX.out.lt; omega)))
  have hrg5 : w5.rangeAt q 145 (ints (midN T)) := rangeAt_mid HX5.out 145
  have HPB := Lib.hid (difD_bd (l := seqF n false (tP T)) (M := 10000) (fun v hv => by
    obtain ⟨a, b, ha, hb, _, rfl⟩ := mem_seqF.1 hv
    exact HT.out.bd _ (List.mem_of_getElem? (show T[1 + (a * 12 + b)]? = some (tP T a b) from get_getD (by rw [HT.out.len]; omega)))) (by omega))
  have HNB := Lib.hid (difD_bd (l := seqF n true (tN T)) (M := 10000) (fun v hv => by
    obtain ⟨a, b, ha, hb, _, rfl⟩ := mem_seqF.1 hv
    exact HT.out.bd _ (List.mem_of_getElem? (show T[145 + (a * 12 + b)]? = some (tN T a b) from get_getD (by rw [HT.out.len]; omega)))) (by omega))
  have HD1 : Hid ((difT n T).1 = mxD (seqF n false (tP T)) - mnD (seqF n false (tP T))) := Lib.hid rfl
  have HD2 : Hid ((difT n T).2 = mxD (seqF n true (tN T)) - mnD (seqF n true (tN T))) := Lib.hid rfl
  clear hrg HX HR HB HC5
  obtain ⟨x1, hx1⟩ : ∃ x, mnD (seqF n false (tP T)) = x := ⟨_, rfl⟩
  obtain ⟨x2, hx2⟩ : ∃ x, mxD (seqF n false (tP T)) = x := ⟨_, rfl⟩
  rw [hx1, hx2] at HPB HD1
  rw [hx1, hx2]
  clear hx1 hx2
  go_wp2_with (first
    | (refine wpList_load_row rfl _ (.tmp 1) rfl q rfl _ _ _ _ HX5.out Try.underlying116 rfl hszT ?_)
    | (refine wpList_load_mid rfl _ (.tmp 17) rfl q 145 rfl _ _ hrg5 Try.underlying114 rfl hi144N ?_))
  refine (cellsMk_any (ints T).toArray (ints (midN T)).toArray true w5).mono ?_; rintro e w' ⟨rfl, rfl⟩
  have hx1 := ((Blk.new w5 116 (ints T).toArray).alloc (.cells (ints (midN T)).toArray 114)).alloc (.cells #[.bool true] 4)
  have hx2 := (Blk.new (w5.alloc (.cells (ints T).toArray 116)) 114 (ints (midN T)).toArray).alloc (.cells #[.bool true] 4)
  rw [show (w5.alloc (.cells (ints T).toArray 116)).heap.size = w5.heap.size + 1 by simp] at hx2
  have hx3 := Blk.new ((w5.alloc (.cells (ints T).toArray 116)).alloc (.cells (ints (midN T)).toArray 114)) 4 #[.bool true]
  rw [show ((w5.alloc (.cells (ints T).toArray 116)).alloc (.cells (ints (midN T)).toArray 114)).heap.size = w5.heap.size + 1 + 1 by simp] at hx3
  have hbb : Below w5.heap.size w5 (((w5.alloc (.cells (ints T).toArray 116)).alloc (.cells (ints (midN T)).toArray 114)).alloc (.cells #[.bool true] 4)) := (((Below.refl _ _).alloc (Nat.le_refl _) _).alloc (by simp) _).alloc (by simp; omega) _
  obtain ⟨V6, hV⟩ : ∃ V, ((w5.alloc (.cells (ints T).toArray 116)).alloc (.cells (ints (midN T)).toArray 114)).alloc (.cells #[.bool true] 4) = V := ⟨_, rfl⟩
  rw [hV] at hx1 hx2 hx3 hbb ⊢
  have HS6 := Lib.hid (spread_any w5.heap.size (w5.heap.size + 1 + 1) (w5.heap.size + 1) n T (midN T) true (tN T) V6 h12 HT0.out (fun a b ha hb => midN_get HT.out (by omega) (by omega)) hx1 hx2 hx3)
  have HV6 := Lib.hid hbb
  clear hV hx1 hx2 hx3 hbb
  go_wp2_with fail
  refine HS6.out.mono ?_; rintro e w6 ⟨rfl, b9⟩
  have HC6 := Lib.hid (HV6.out.trans (b9.mono HV6.out.size))
  clear b9 HS6 HV6
  have HR6 := Lib.hid (HR5.out.below HC6.out)
  have HB6 := Lib.hid (HB5.out.trans (HC6.out.mono (by have := HR5.out.lt; omega)))
  obtain ⟨y1, hy1⟩ : ∃ x, mnD (seqF n true (tN T)) = x := ⟨_, rfl⟩
  obtain ⟨y2, hy2⟩ : ∃ x, mxD (seqF n true (tN T)) = x := ⟨_, rfl⟩
  rw [hy1, hy2] at HNB HD2
  rw [hy1, hy2]
  obtain ⟨p1, p2, p3, p4⟩ := HPB.out
  obtain ⟨r1, r2, r3, r4⟩ := HNB.out
  have c0 : w6.cell? ⟨q + 1, 0, none⟩ = some (.int .i64 0) := by rw [HR6.out.cell]; rfl
  have c1 : w6.cell? ⟨q + 1, 1, none⟩ = some (.int .i64 0) := by rw [HR6.out.cell]; rfl
  have f0 := HR6.out.frozen 0
  have f1 := HR6.out.frozen 1
  have HXF := Lib.hid ((HR6.out.set_ 0 (.int .i64 (x2 - x1))).set_ 1 (.int .i64 (y2 - y1)))
  have HBF := Lib.hid ((HB6.out.setCell (p := ⟨q + 1, 0, none⟩) (by show q ≤ q + 1; omega) (.int .i64 (x2 - x1))).setCell (p := ⟨q + 1, 1, none⟩) (by show q ≤ q + 1; omega) (.int .i64 (y2 - y1)))
  clear hy1 hy2 hrg5 HX5 HR5 HB5 HC6 HPB HNB HR6 HB6
  go_wp2
  exact bodyPost_ret (v := .agg #[.int .i64 (x2 - x1), .int .i64 (y2 - y1)]) (results_cell_row rfl _ _ (q + 1) 112 _ (0, 0) _ rfl HXF.out Try.underlying112 rfl (by kernel_rfl)) rfl ⟨by rw [HD1.out, HD2.out], by rw [HQ.out]; exact HBF.out⟩

def Num3P (x : Int × Int × Int) (w : World) (e : Ending) (w' : World) : Prop := e = .returned (.tuple #[.int .i64 x.1, .int .i64 x.2.1, .int .i64 x.2.2]) ∧ Below w.heap.size w w'
set_option maxHeartbeats 2000000 in
set_option maxRecDepth 100000 in
theorem fairPr_any (A : Option Addr) (m c : Nat) (L : List (List Int)) (n : Int) (w : World) (h : RdL w A m L) (hn : I64 n) : Calls Try.prog 57 #[.int .i64 n, .slice A m c] w (Num3P (fairO n L) w) := by
  by_cases hz : ordE n L = 0
  · obtain ⟨h1, h2, h3, h4⟩ := ordE_ok hz
    obtain ⟨n, rfl⟩ : ∃ n' : Nat, n = n' := ⟨n.toNat, by omega⟩
    rw [Int.toNat_natCast] at h4
    have h12 : n ≤ 12 := by omega
    have hml := h.len
    have HV : Hid (fairO n L = ((difT n (tabL n L)).1, (difT n (tabL n L)).2, 0)) := Lib.hid (by unfold fairO; rw [if_neg (by omega), Int.toNat_natCast, difT_tab h12 h4])
    have HZ := Lib.hid hz
    have HT : Hid (TabOk 10000 (tabL n L)) := Lib.hid ((TabOk.tab h12 (fun o ho => okOrd_len (h4 o ho)) L.length (Nat.le_refl _)).mono (by omega))
    have HT0 : Hid ((tabL n L)[0]? = some (n : Int)) := Lib.hid (by
      have := (tabO_get h12 h4 L.length (Nat.le_refl _)).2.2
      rw [show tabTo n L L.length = tabL n L from rfl] at this
      rw [← this]
      exact get_getD (by rw [HT.out.len]; omega))
    have HR := Lib.hid h
    have HTO := Lib.hid (tableOf_any n L A m c w h h12 h4 (by omega))
    clear h1 h2 h3 h4 hml hz h
    go_enter Try.func57, Try.ntmps57
    go_wp2_with fail
    refine (checkO_any A m c L (n : Int) w HR.out hn).mono ?_; rintro e w' ⟨rfl, rfl⟩
    rw [HZ.out]
    go_wp2_with fail
    refine HTO.out.mono ?_; rintro e w2 ⟨rfl, b2⟩
    have HB2 := Lib.hid b2
    clear b2
    go_wp2_with fail
    refine (differences_any n (tabL n L) w2 h12 HT.out HT0.out).mono ?_; rintro e w3 ⟨rfl, b3⟩
    have HB3 := Lib.hid (HB2.out.trans (b3.mono HB2.out.size))
    clear b3
    generalize (difT n (tabL n L)).1 = x at HV ⊢
    generalize (difT n (tabL n L)).2 = y at HV ⊢
    go_upto_region 5 with fail
    have HX := Lib.hid (Blk.new w3 112 #[.int .i64 x, .int .i64 y])
    have HB4 := Lib.hid (HB3.out.alloc HB3.out.size (.cells #[.int .i64 x, .int .i64 y] 112))
    obtain ⟨W, hW⟩ : ∃ W, w3.alloc (.cells #[.int .i64 x, .int .i64 y] 112) = W := ⟨_, rfl⟩
    rw [hW] at HX HB4 ⊢
    have c0 : W.cell? ⟨w3.heap.size, 0, none⟩ = some (.int .i64 x) := by rw [HX.out.cell]; rfl
    have c1 : W.cell? ⟨w3.heap.size, 1, none⟩ = some (.int .i64 y) := by rw [HX.out.cell]; rfl
    clear hW
    go_quiet (fail)
    go_wp2
    go_ret3
    rw [HV.out]
    exact ⟨rfl, below_drewN HB4.out _⟩
  · have HV : Hid (fairO n L = (0, 0, ordE n L)) := Lib.hid (by unfold fairO; rw [if_pos hz])
    have g : (ordE n L != 0) = true := by simpa using hz
    have HR := Lib.hid h
    clear hz h
    go_enter Try.func57, Try.ntmps57
    go_wp2_with fail
    refine (checkO_any A m c L n w HR.out hn).mono ?_; rintro e w' ⟨rfl, rfl⟩
    generalize ordE n L = z at g HV ⊢
    go_wp2
    go_ret3
    rw [HV.out]
    exact ⟨rfl, Below.refl _ _⟩
end Go.Proofs.Ytcmacejpoihhlaa
