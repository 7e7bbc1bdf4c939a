/- Walks: the least and the greatest number of what is handed out. Walks: how fair orders are. Walks: slices.Compare, of two pairs of numbers. Walk: the order that comes next, of the program. -/
import Derived.Test.YtcmacejpoihhlaaMgS
import Derived.Sort.CutIn
import Derived.Test.YtcmacejpoihhlaaMgN
namespace Go.Proofs.Ytcmacejpoihhlaa
open Go.RowKit Go.Shelf
attribute [local go_sem] Oper.semAt_some

/-- what stands between two rounds of spread: the boxes and the loop's record from block g on -/
structure SpJ (w : World) (rec : Loop) (pre : List Int) (W : World) : Prop where
  lo : Blk W w.heap.size 3 #[.int .i64 (mnD pre)]
  hi : Blk W (w.heap.size + 1) 3 #[.int .i64 (mxD pre)]
  fi : Blk W (w.heap.size + 1 + 1) 4 #[.bool pre.isEmpty]
  df : W.heap[w.heap.size + 3]? = some (.deferred (some []))
  lp : W.heap[w.heap.size + 3 + 1]? = some (.loop rec)
  bel : Below w.heap.size w W

set_option maxHeartbeats 4000000 in
set_option maxRecDepth 100000 in
theorem spread_any (b1 b2 b3 n : Nat) (T M : List Int) (d : Bool) (f : Nat → Nat → Int) (w : World) (h12 : n ≤ 12) (hT0 : T[0]? = some (n : Int)) (hM : ∀ a b : Nat, a < n → b < n → M[a * 12 + b]? = some (f a b))
    (h1 : Blk w b1 116 (ints T).toArray) (h3 : Blk w b3 114 (ints M).toArray) (h2 : Blk w b2 4 #[.bool d]) :
    Calls Try.prog 126 #[.func (.func 139) #[] #[.pointer (some ⟨b1, 0, none⟩), .pointer (some ⟨b2, 0, none⟩), .pointer (some ⟨b3, 0, none⟩)]] w
      fun e w' => e = .returned (.tuple #[.int .i64 (mnD (seqF n d f)), .int .i64 (mxD (seqF n d f))]) ∧ Below w.heap.size w w' := by
  refine (callsIn_wide (n := 3)).1 ?_
  refine callsIn_of_wp_marks Try.func126 rfl trivial ?_ rfl
  simp only [Try.ntmps126, List.size_toArray, List.length_cons, List.length_nil, Nat.reduceAdd, Nat.reduceSub, Array.replicate_succ, Array.replicate_zero, List.push_toArray, List.append_toArray, List.nil_append, List.cons_append]
  have HT0 := Lib.hid hT0
  have HM := Lib.hid hM
  have H1 := Lib.hid h1
  have H2 := Lib.hid h2
  have H3 := Lib.hid h3
  clear hT0 hM h1 h2 h3
  gi_wp2_with fail
  have hx0 := ((Blk.new w 3 #[.int .i64 0]).alloc (.cells #[.int .i64 0] 3)).alloc (.cells #[.bool true] 4)
  have hx1 := (Blk.new (w.alloc (.cells #[.int .i64 0] 3)) 3 #[.int .i64 0]).alloc (.cells #[.bool true] 4)
  rw [show (w.alloc (.cells #[.int .i64 0] 3)).heap.size = w.heap.size + 1 by simp] at hx1
  have hx2 := Blk.new ((w.alloc (.cells #[.int .i64 0] 3)).alloc (.cells #[.int .i64 0] 3)) 4 #[.bool true]
  rw [show ((w.alloc (.cells #[.int .i64 0] 3)).alloc (.cells #[.int .i64 0] 3)).heap.size = w.heap.size + 1 + 1 by simp] at hx2
  have hb4 := (((Below.refl _ w).alloc (Nat.le_refl _) (.cells #[.int .i64 0] 3)).alloc (by simp) (.cells #[.int .i64 0] 3)).alloc (by simp; omega) (.cells #[.bool true] 4)
  have hs4 : (((w.alloc (.cells #[.int .i64 0] 3)).alloc (.cells #[.int .i64 0] 3)).alloc (.cells #[.bool true] 4)).heap.size = w.heap.size + 3 := by simp
  obtain ⟨w4, hw4⟩ : ∃ w4, ((w.alloc (.cells #[.int .i64 0] 3)).alloc (.cells #[.int .i64 0] 3)).alloc (.cells #[.bool true] 4) = w4 := ⟨_, rfl⟩
  rw [hw4] at hx0 hx1 hx2 hb4 hs4 ⊢
  clear hw4
  refine wpIn_range1 (gf := 139) (lb := #[.pointer (some ⟨b1, 0, none⟩), .pointer (some ⟨b2, 0, none⟩), .pointer (some ⟨b3, 0, none⟩)]) rfl (enters_of Try.func139 (by kernel_rfl) rfl) ?_
  intro fn rec hrec WL hWL
  have hst : rec.state = .ready := by rw [hrec]
  have hpe : rec.pending = none := by rw [hrec]
  have hps : rec.params.size = 1 := by rw [hrec]; rfl
  have hsz : (w4.alloc (.deferred (some []))).heap.size = w4.heap.size + 1 := by simp
  have hbl : Below w4.heap.size w4 WL := by rw [hWL]; exact ((Below.refl _ w4).alloc (Nat.le_refl _) _).alloc (by simp) _
  have hD : WL.heap[w4.heap.size]? = some (.deferred (some [])) := by
    rw [hWL]; exact (Below.heap_alloc _ _ _ (by simp)).trans (World.alloc_heap_new w4 _)
  have hR : WL.heap[w4.heap.size + 1]? = some (.loop rec) := by
    rw [hWL]; have := World.alloc_heap_new (w4.alloc (.deferred (some []))) (.loop rec); rwa [hsz] at this
  rw [hs4] at hD hR
  have HSJ := Lib.hid (show SpJ w rec [] WL from ⟨hx0.below hbl, hx1.below hbl, hx2.below hbl, hD, hR, hb4.trans (hbl.mono (by omega))⟩)
  have HREC := Lib.hid hrec
  rw [hs4]
  clear hsz hbl hD hR hWL hrec hx0 hx1 hx2 hb4 hs4
  refine (cellsIter_any (w.heap.size + 3 + 1) (SpJ w rec) b1 b2 b3 n T M d f WL h12 HT0.out HM.out ?_ HSJ.out ?_).mono ?_
  · intro pre W' hj
    exact ⟨H1.out.below hj.bel, H3.out.below hj.bel, H2.out.below hj.bel⟩
  · intro pre x W1 hj _
    have hl := hj.lp
    have hy := run_yield (P := Try.prog) (args := #[.int .i64 x]) hl (by rw [hps]; rfl)
    refine ⟨_, _, _, _, hy, roundIn_of_wpIn trivial ?_⟩
    have hbr := run_beginRound (P := Try.prog) hl hst
    have hlt : w.heap.size + 3 + 1 < W1.heap.size := (Array.getElem?_eq_some_iff.1 hl).1
    obtain ⟨WB, hWB⟩ : ∃ WB, WB = W1.putObj (w.heap.size + 3 + 1) (.loop { rec with state := .busy }) := ⟨_, rfl⟩
    have hgB : W1.grownBy WB (some (w.heap.size + 3 + 1)) := by rw [hWB]; exact grownBy_putObj' _ _ _
    have hlB : WB.heap[w.heap.size + 3 + 1]? = some (.loop { rec with state := .busy }) := by rw [hWB]; exact World.putObj_heap_same hlt
    have hdB : WB.heap[w.heap.size + 3]? = some (.deferred (some [])) := by rw [hWB]; exact (World.putObj_heap_other (by omega)).trans hj.df
    have hloB : Blk WB w.heap.size 3 #[.int .i64 (mnD pre)] := hj.lo.grown hgB (fun e => by injection e with e; omega)
    have hhiB : Blk WB (w.heap.size + 1) 3 #[.int .i64 (mxD pre)] := hj.hi.grown hgB (fun e => by injection e with e; omega)
    have hfiB : Blk WB (w.heap.size + 1 + 1) 4 #[.bool pre.isEmpty] := hj.fi.grown hgB (fun e => by injection e with e; omega)
    have hbB : Below w.heap.size w WB := hj.bel.grown hgB (by have := hj.bel.size; omega) (fun b e => by injection e with e; omega)
    rw [← hWB] at hbr
    have hrr : ({ rec with state := .ready, pending := none } : Loop) = rec := by
      cases rec
      simp only at hst hpe
      subst hst hpe
      rfl
    -- what a round leaves, from whatever the body has made of the boxes
    have HEND : Hid (∀ (W6 : World) (pre' : List Int), Blk W6 w.heap.size 3 #[.int .i64 (mnD pre')] → Blk W6 (w.heap.size + 1) 3 #[.int .i64 (mxD pre')] → Blk W6 (w.heap.size + 1 + 1) 4 #[.bool pre'.isEmpty] →
        (∀ b, w.heap.size + 3 ≤ b → W6.heap[b]? = WB.heap[b]?) → Below w.heap.size WB W6 →
        ∃ W7, (Instr.endRound (w.heap.size + 3 + 1) none).run Try.prog W6 = .ok (.bool true) W7 ∧ SpJ w rec pre' W7) := Lib.hid (by
      intro W6 pre' b1 b2 b3 hoth hbel6
      have hl6 : W6.heap[w.heap.size + 3 + 1]? = some (.loop { rec with state := .busy }) := (hoth _ (by omega)).trans hlB
      have hlt6 := (Array.getElem?_eq_some_iff.1 hl6).1
      have hend : (Instr.endRound (w.heap.size + 3 + 1) none).run Try.prog W6 = .ok (.bool true) (W6.putObj (w.heap.size + 3 + 1) (.loop rec)) := by
        have h9 := run_endRound (P := Try.prog) none hl6
        rw [h9]
        show Result.ok (Value.bool true) (W6.putObj _ (.loop { rec with state := (if (none : Option Code).isNone = true then LoopState.ready else LoopState.done), pending := none })) = _
        rw [show ({ rec with state := (if (none : Option Code).isNone = true then LoopState.ready else LoopState.done), pending := none } : Loop) = rec from hrr]
      have hg7 : W6.grownBy (W6.putObj (w.heap.size + 3 + 1) (.loop rec)) (some (w.heap.size + 3 + 1)) := grownBy_putObj' _ _ _
      exact ⟨_, hend, b1.grown hg7 (fun e => by injection e with e; omega), b2.grown hg7 (fun e => by injection e with e; omega), b3.grown hg7 (fun e => by injection e with e; omega),
        (World.putObj_heap_other (by omega)).trans ((hoth _ (by omega)).trans hdB), World.putObj_heap_same hlt6, (hbB.trans hbel6).grown hg7 (by have := hbB.size; omega) (fun b e => by injection e with e; omega)⟩)
    have HLO := Lib.hid hloB
    have HHI := Lib.hid hhiB
    have HFI := Lib.hid hfiB
    have c0 : WB.cell? ⟨w.heap.size, 0, none⟩ = some (.int .i64 (mnD pre)) := by rw [hloB.cell]; rfl
    have c1 : WB.cell? ⟨w.heap.size + 1, 0, none⟩ = some (.int .i64 (mxD pre)) := by rw [hhiB.cell]; rfl
    have c2 : WB.cell? ⟨w.heap.size + 1 + 1, 0, none⟩ = some (.bool pre.isEmpty) := by rw [hfiB.cell]; rfl
    have f0 := hloB.frozen 0
    have f1 := hhiB.frozen 0
    have f2 := hfiB.frozen 0
    clear hj hl hlt hWB hgB hloB hhiB hfiB hbB hlB hdB hy hrr
    have e := HREC.out
    subst e
    by_cases hpre : pre = []
    · subst hpre
      have HN1 : Hid (mnD ([] ++ [x]) = x) := Lib.hid rfl
      have HN2 : Hid (mxD ([] ++ [x]) = x) := Lib.hid rfl
      have HN3 : Hid (([] ++ [x] : List Int).isEmpty = false) := Lib.hid rfl
      have c0' : WB.cell? ⟨w.heap.size, 0, none⟩ = some (.int .i64 0) := c0
      have c1' : WB.cell? ⟨w.heap.size + 1, 0, none⟩ = some (.int .i64 0) := c1
      have c2' : WB.cell? ⟨w.heap.size + 1 + 1, 0, none⟩ = some (.bool true) := c2
      clear c0 c1 c2
      gi_wp2
      refine ⟨WB, hbr, ?_⟩
      clear hbr
      gi_upto_region 6 with fail
      have HL5 := Lib.hid (((HLO.out.set_ 0 (.int .i64 x)).far (p := ⟨w.heap.size + 1, 0, none⟩) (by show w.heap.size ≠ w.heap.size + 1; omega) (.int .i64 x)).far (p := ⟨w.heap.size + 1 + 1, 0, none⟩) (by show w.heap.size ≠ w.heap.size + 1 + 1; omega) (.bool false))
      have HH5 := Lib.hid (((HHI.out.far (p := ⟨w.heap.size, 0, none⟩) (by show w.heap.size + 1 ≠ w.heap.size; omega) (.int .i64 x)).set_ 0 (.int .i64 x)).far (p := ⟨w.heap.size + 1 + 1, 0, none⟩) (by show w.heap.size + 1 ≠ w.heap.size + 1 + 1; omega) (.bool false))
      have HF5 := Lib.hid (((HFI.out.far (p := ⟨w.heap.size, 0, none⟩) (by show w.heap.size + 1 + 1 ≠ w.heap.size; omega) (.int .i64 x)).far (p := ⟨w.heap.size + 1, 0, none⟩) (by show w.heap.size + 1 + 1 ≠ w.heap.size + 1; omega) (.int .i64 x)).set_ 0 (.bool false))
      have HO5 : Hid (∀ b, w.heap.size + 3 ≤ b → (((WB.setCell ⟨w.heap.size, 0, none⟩ (.int .i64 x)).setCell ⟨w.heap.size + 1, 0, none⟩ (.int .i64 x)).setCell ⟨w.heap.size + 1 + 1, 0, none⟩ (.bool false)).heap[b]? = WB.heap[b]?) := Lib.hid (fun b hb =>
        (Below.heap_setCell _ _ _ _ (by show b ≠ w.heap.size + 1 + 1; omega)).trans ((Below.heap_setCell _ _ _ _ (by show b ≠ w.heap.size + 1; omega)).trans (Below.heap_setCell _ _ _ _ (by show b ≠ w.heap.size; omega))))
      have HB5 := Lib.hid ((((Below.refl w.heap.size WB).setCell (p := ⟨w.heap.size, 0, none⟩) (Nat.le_refl _) (.int .i64 x)).setCell (p := ⟨w.heap.size + 1, 0, none⟩) (by show w.heap.size ≤ w.heap.size + 1; omega) (.int .i64 x)).setCell (p := ⟨w.heap.size + 1 + 1, 0, none⟩) (by show w.heap.size ≤ w.heap.size + 1 + 1; omega) (.bool false))
      obtain ⟨W5, hW5⟩ : ∃ W5, ((WB.setCell ⟨w.heap.size, 0, none⟩ (.int .i64 x)).setCell ⟨w.heap.size + 1, 0, none⟩ (.int .i64 x)).setCell ⟨w.heap.size + 1 + 1, 0, none⟩ (.bool false) = W5 := ⟨_, rfl⟩
      rw [hW5] at HL5 HH5 HF5 HO5 HB5 ⊢
      clear hW5 c0' c1' c2' f0 f1 f2 HLO HHI HFI
      have c0 : W5.cell? ⟨w.heap.size, 0, none⟩ = some (.int .i64 x) := by rw [HL5.out.cell]; rfl
      have c1 : W5.cell? ⟨w.heap.size + 1, 0, none⟩ = some (.int .i64 x) := by rw [HH5.out.cell]; rfl
      have f0 := HL5.out.frozen 0
      have f1 := HH5.out.frozen 0
      have HE7 := Lib.hid (HEND.out ((W5.setCell ⟨w.heap.size, 0, none⟩ (.int .i64 x)).setCell ⟨w.heap.size + 1, 0, none⟩ (.int .i64 x)).drew ([] ++ [x])
        (by rw [HN1.out]; exact (((HL5.out.set_ 0 (.int .i64 x)).far (p := ⟨w.heap.size + 1, 0, none⟩) (by show w.heap.size ≠ w.heap.size + 1; omega) (.int .i64 x))).drew)
        (by rw [HN2.out]; exact (((HH5.out.far (p := ⟨w.heap.size, 0, none⟩) (by show w.heap.size + 1 ≠ w.heap.size; omega) (.int .i64 x)).set_ 0 (.int .i64 x))).drew)
        (by rw [HN3.out]; exact (((HF5.out.far (p := ⟨w.heap.size, 0, none⟩) (by show w.heap.size + 1 + 1 ≠ w.heap.size; omega) (.int .i64 x)).far (p := ⟨w.heap.size + 1, 0, none⟩) (by show w.heap.size + 1 + 1 ≠ w.heap.size + 1; omega) (.int .i64 x))).drew)
        (fun b hb => ((Below.heap_setCell _ _ _ _ (by show b ≠ w.heap.size + 1; omega)).trans (Below.heap_setCell _ _ _ _ (by show b ≠ w.heap.size; omega))).trans (HO5.out b hb))
        ((((HB5.out.setCell (p := ⟨w.heap.size, 0, none⟩) (Nat.le_refl _) (.int .i64 x)).setCell (p := ⟨w.heap.size + 1, 0, none⟩) (by show w.heap.size ≤ w.heap.size + 1; omega) (.int .i64 x))).drew))
      clear HEND HSJ HL5 HH5 HF5 HO5 HB5 HN1 HN2 HN3
      gi_region
      all_goals
        gi_wp2
        obtain ⟨W7, e1, e2⟩ := HE7.out
        exact ⟨_, _, e1, rfl, e2⟩
    · have hemp : pre.isEmpty = false := by cases pre with | nil => exact absurd rfl hpre | cons a l => rfl
      have HN1 := Lib.hid (mnD_snoc hpre x)
      have HN2 := Lib.hid (mxD_snoc hpre x)
      have HN3 : Hid ((pre ++ [x]).isEmpty = false) := Lib.hid (by cases pre <;> rfl)
      rw [hemp] at c2 HFI
      have HE7 := Lib.hid (HEND.out ((WB.setCell ⟨w.heap.size, 0, none⟩ (.int .i64 (min (mnD pre) x))).setCell ⟨w.heap.size + 1, 0, none⟩ (.int .i64 (max (mxD pre) x))).drew (pre ++ [x])
        (by rw [HN1.out]; exact (((HLO.out.set_ 0 _).far (p := ⟨w.heap.size + 1, 0, none⟩) (by show w.heap.size ≠ w.heap.size + 1; omega) _)).drew)
        (by rw [HN2.out]; exact (((HHI.out.far (p := ⟨w.heap.size, 0, none⟩) (by show w.heap.size + 1 ≠ w.heap.size; omega) _).set_ 0 _)).drew)
        (by rw [HN3.out]; exact (((HFI.out.far (p := ⟨w.heap.size, 0, none⟩) (by show w.heap.size + 1 + 1 ≠ w.heap.size; omega) _).far (p := ⟨w.heap.size + 1, 0, none⟩) (by show w.heap.size + 1 + 1 ≠ w.heap.size + 1; omega) _)).drew)
        (fun b hb => ((Below.heap_setCell _ _ _ _ (by show b ≠ w.heap.size + 1; omega)).trans (Below.heap_setCell _ _ _ _ (by show b ≠ w.heap.size; omega))))
        (((((Below.refl w.heap.size WB).setCell (p := ⟨w.heap.size, 0, none⟩) (Nat.le_refl _) _).setCell (p := ⟨w.heap.size + 1, 0, none⟩) (by show w.heap.size ≤ w.heap.size + 1; omega) _)).drew))
      clear hemp hpre HEND HSJ HLO HHI HFI HN1 HN2 HN3
      gi_wp2
      refine ⟨WB, hbr, ?_⟩
      clear hbr
      gi_wp2_with fail
      gi_region
      all_goals
        gi_wp2
        obtain ⟨W7, e1, e2⟩ := HE7.out
        exact ⟨_, _, e1, rfl, e2⟩
  · rintro e W2 ⟨⟨v, rfl⟩, hj⟩
    have hel := run_endLoop (P := Try.prog) hj.lp (by rw [hst]; simp)
    rw [hpe] at hel
    obtain ⟨W4, hW4⟩ : ∃ W4, W4 = W2.putObj (w.heap.size + 3 + 1) (.loop { rec with state := .exhausted, pending := none }) := ⟨_, rfl⟩
    rw [← hW4] at hel
    have hg4 : W2.grownBy W4 (some (w.heap.size + 3 + 1)) := by rw [hW4]; exact grownBy_putObj' _ _ _
    have hd4 : W4.heap[w.heap.size + 3]? = some (.deferred (some [])) := by rw [hW4]; exact (World.putObj_heap_other (by omega)).trans hj.df
    have hx4 := hj.lo.grown hg4 (fun e => by injection e with e; omega)
    have hy4 := hj.hi.grown hg4 (fun e => by injection e with e; omega)
    have hb4 : Below w.heap.size w W4 := hj.bel.grown hg4 (by have := hj.bel.size; omega) (fun b e => by injection e with e; omega)
    obtain ⟨lo, hlo⟩ : ∃ x, mnD (seqF n d f) = x := ⟨_, rfl⟩
    obtain ⟨hi, hhi⟩ : ∃ x, mxD (seqF n d f) = x := ⟨_, rfl⟩
    rw [hlo] at hx4
    rw [hhi] at hy4
    have HLO := Lib.hid hlo
    have HHI := Lib.hid hhi
    have HB4 := Lib.hid hb4
    have HD4 := Lib.hid hd4
    have c4 : W4.cell? ⟨w.heap.size, 0, none⟩ = some (.int .i64 lo) := by rw [hx4.cell]; rfl
    have c5 : W4.cell? ⟨w.heap.size + 1, 0, none⟩ = some (.int .i64 hi) := by rw [hy4.cell]; rfl
    have f4 := hx4.frozen 0
    have f5 := hy4.frozen 0
    clear hg4 hd4 hx4 hy4 hb4 hj hW4 hlo hhi HSJ
    refine ⟨none, W4, hel, ?_⟩
    clear hel
    gi_wp2_with fail
    have hS1 : W4.drew.setCell ⟨w.heap.size, 0, none⟩ (.int .i64 lo) = W4.drew := setCell_same _ _ _ _ c4
    have hS2 : W4.drew.setCell ⟨w.heap.size + 1, 0, none⟩ (.int .i64 hi) = W4.drew := setCell_same _ _ _ _ c5
    have c6 : W4.drew.cell? ⟨w.heap.size, 0, none⟩ = some (.int .i64 lo) := c4
    have c7 : W4.drew.cell? ⟨w.heap.size + 1, 0, none⟩ = some (.int .i64 hi) := c5
    gi_region
    all_goals
      clear hS1 hS2 c4 c5
      gi_wp2
      have c8 : (W4.drew.putObj (w.heap.size + 3) (.deferred none)).cell? ⟨w.heap.size, 0, none⟩ = some (.int .i64 lo) := (World.cell?_of_block (World.putObj_heap_other (by simp))).trans c6
      have c9 : (W4.drew.putObj (w.heap.size + 3) (.deferred none)).cell? ⟨w.heap.size + 1, 0, none⟩ = some (.int .i64 hi) := (World.cell?_of_block (World.putObj_heap_other (by simp))).trans c7
      have hg6 : W4.drew.grownBy (W4.drew.putObj (w.heap.size + 3) (.deferred none)) (some (w.heap.size + 3)) := grownBy_putObj' _ _ _
      have hb4 : Below w.heap.size w W4.drew := HB4.out.drew
      have hb6 : Below w.heap.size w (W4.drew.putObj (w.heap.size + 3) (.deferred none)) := hb4.grown hg6 (by have := hb4.size; omega) (fun b e => by injection e with e; omega)
      refine ⟨by simp, .inl ⟨_, _, rfl, run_takeDeferred HD4.out, ?_⟩⟩
      refine ⟨.tuple #[.int .i64 lo, .int .i64 hi], ?_, ?_⟩
      · simp [results, Try.f126, go_sem, c8, c9]
      · rw [HLO.out, HHI.out]
        exact ⟨rfl, hb6⟩
end Go.Proofs.Ytcmacejpoihhlaa

namespace Go.Proofs.Ytcmacejpoihhlaa
open Go.RowKit

def midP (T : List Int) : List Int := (T.drop 1).take 144
def midN (T : List Int) : List Int := (T.drop 145).take 144
theorem midP_get {M : Int} {T : List Int} (h : TabOk M T) {a b : Nat} (ha : a < 12) (hb : b < 12) : (midP T)[a * 12 + b]? = some (tP T a b) := by
  unfold midP tP
  rw [List.getElem?_take, if_pos (by omega), List.getElem?_drop]
  exact get_getD (by rw [h.len]; omega)
theorem midN_get {M : Int} {T : List Int} (h : TabOk M T) {a b : Nat} (ha : a < 12) (hb : b < 12) : (midN T)[a * 12 + b]? = some (tN T a b) := by
  unfold midN tN
  rw [List.getElem?_take, if_pos (by omega), List.getElem?_drop]
  exact get_getD (by rw [h.len]; omega)
theorem mid_len {M : Int} {T : List Int} (h : TabOk M T) : (midP T).length = 144 ∧ (midN T).length = 144 := by
  unfold midP midN
  simp [h.len]
theorem mid12Size : (Try.prog.info? 114).map (·.size) = some 144 := by kernel_rfl
theorem rangeAt_mid {w : World} {q : Nat} {t : TypeId} {T : List Int} (h : Blk w q t (ints T).toArray) (o : Nat) : w.rangeAt q o (ints ((T.drop o).take 144)) := by
  intro j v hv
  rw [h.cell]
  simp only [List.getElem?_toArray]
  rw [ints_get] at hv ⊢
  rw [List.getElem?_take] at hv
  split at hv
  · rwa [List.getElem?_drop] at hv
  · cases hv

set_option maxHeartbeats 4000000 in
set_option maxRecDepth 100000 in
theorem differences_any (n : Nat) (T : List Int) (w : World) (h12 : n ≤ 12) (hT : TabOk 10000 T) (hT0 : T[0]? = some (n : Int)) : Calls Try.prog 107 #[.agg (ints T).toArray] w
    fun e w' => e = .returned (.agg #[.int .i64 (difT n T).1, .int .i64 (difT n T).2]) ∧ Below w.heap.size w w' := by
  go_enter Try.func107, Try.ntmps107
  go_upto_region 1 with fail
  have HX := Lib.hid ((Blk.new w 116 (ints T).toArray).alloc (.cells #[.int .i64 0, .int .i64 0] 112))
  have hr := Blk.new (w.alloc (.cells (ints T).toArray 116)) 112 #[.int .i64 0, .int .i64 0]
  rw [show (w.alloc (.cells (ints T).toArray 116)).heap.size = w.heap.size + 1 by simp] at hr
  have HR := Lib.hid hr
  have HB := Lib.hid (((Below.refl _ w).alloc (Nat.le_refl _) (.cells (ints T).toArray 116)).alloc (by simp) (.cells #[.int .i64 0, .int .i64 0] 112))
  obtain ⟨W, hW⟩ : ∃ W, (w.alloc (.cells (ints T).toArray 116)).alloc (.cells #[.int .i64 0, .int .i64 0] 112) = W := ⟨_, rfl⟩
  rw [hW] at HX HR HB ⊢
  obtain ⟨q, hq⟩ : ∃ q, w.heap.size = q := ⟨_, rfl⟩
  rw [hq] at HX HR HB ⊢
  have HQ := Lib.hid hq
  clear hW hq hr
  have hszT := tab_size hT
  have hml := mid_len hT
  have HT := Lib.hid hT
  have HT0 := Lib.hid hT0
  have hi144P : (Try.prog.info? 114).map (·.size) = some (ints (midP T)).length := by rw [mid12Size, ints_length, hml.1]
  have hi144N : (Try.prog.info? 114).map (·.size) = some (ints (midN T)).length := by rw [mid12Size, ints_length, hml.2]
  have hrg : W.rangeAt q 1 (ints (midP T)) := rangeAt_mid HX.out 1
  clear hT hT0 hml
  go_wp2_with (first
    | (refine wpList_load_row rfl _ (.tmp 1) rfl q rfl _ _ _ _ HX.out Try.underlying116 rfl hszT ?_)
    | (refine wpList_load_mid rfl _ (.tmp 9) rfl q 1 rfl _ _ hrg Try.underlying114 rfl hi144P ?_))
  refine (cellsMk_any (ints T).toArray (ints (midP T)).toArray false W).mono ?_; rintro e w' ⟨rfl, rfl⟩
  have hx1 := ((Blk.new W 116 (ints T).toArray).alloc (.cells (ints (midP T)).toArray 114)).alloc (.cells #[.bool false] 4)
  have hx2 := (Blk.new (W.alloc (.cells (ints T).toArray 116)) 114 (ints (midP T)).toArray).alloc (.cells #[.bool false] 4)
  rw [show (W.alloc (.cells (ints T).toArray 116)).heap.size = W.heap.size + 1 by simp] at hx2
  have hx3 := Blk.new ((W.alloc (.cells (ints T).toArray 116)).alloc (.cells (ints (midP T)).toArray 114)) 4 #[.bool false]
  rw [show ((W.alloc (.cells (ints T).toArray 116)).alloc (.cells (ints (midP T)).toArray 114)).heap.size = W.heap.size + 1 + 1 by simp] at hx3
  have hbb : Below W.heap.size W (((W.alloc (.cells (ints T).toArray 116)).alloc (.cells (ints (midP T)).toArray 114)).alloc (.cells #[.bool false] 4)) := (((Below.refl _ _).alloc (Nat.le_refl _) _).alloc (by simp) _).alloc (by simp; omega) _
  obtain ⟨V5, hV⟩ : ∃ V, ((W.alloc (.cells (ints T).toArray 116)).alloc (.cells (ints (midP T)).toArray 114)).alloc (.cells #[.bool false] 4) = V := ⟨_, rfl⟩
  rw [hV] at hx1 hx2 hx3 hbb ⊢
  have HS5 := Lib.hid (spread_any W.heap.size (W.heap.size + 1 + 1) (W.heap.size + 1) n T (midP T) false (tP T) V5 h12 HT0.out (fun a b ha hb => midP_get HT.out (by omega) (by omega)) hx1 hx2 hx3)
  have HV5 := Lib.hid hbb
  clear hV hx1 hx2 hx3 hbb
  go_wp2_with fail
  refine HS5.out.mono ?_; rintro e w5 ⟨rfl, b9⟩
  have HC5 := Lib.hid (HV5.out.trans (b9.mono HV5.out.size))
  clear b9 HS5 HV5
  have HX5 := Lib.hid (HX.out.below HC5.out)
  have HR5 := Lib.hid (HR.out.below HC5.out)
  have HB5 := Lib.hid (HB.out.trans (HC5.out.mono (by have := HX.out.lt; omega)))
  have hrg5 : w5.rangeAt q 145 (ints (midN T)) := rangeAt_mid HX5.out 145
  have HPB := Lib.hid (difD_bd (l := seqF n false (tP T)) (M := 10000) (fun v hv => by
    obtain ⟨a, b, ha, hb, _, rfl⟩ := mem_seqF.1 hv
    exact HT.out.bd _ (List.mem_of_getElem? (show T[1 + (a * 12 + b)]? = some (tP T a b) from get_getD (by rw [HT.out.len]; omega)))) (by omega))
  have HNB := Lib.hid (difD_bd (l := seqF n true (tN T)) (M := 10000) (fun v hv => by
    obtain ⟨a, b, ha, hb, _, rfl⟩ := mem_seqF.1 hv
    exact HT.out.bd _ (List.mem_of_getElem? (show T[145 + (a * 12 + b)]? = some (tN T a b) from get_getD (by rw [HT.out.len]; omega)))) (by omega))
  have HD1 : Hid ((difT n T).1 = mxD (seqF n false (tP T)) - mnD (seqF n false (tP T))) := Lib.hid rfl
  have HD2 : Hid ((difT n T).2 = mxD (seqF n true (tN T)) - mnD (seqF n true (tN T))) := Lib.hid rfl
  clear hrg HX HR HB HC5
  obtain ⟨x1, hx1⟩ : ∃ x, mnD (seqF n false (tP T)) = x := ⟨_, rfl⟩
  obtain ⟨x2, hx2⟩ : ∃ x, mxD (seqF n false (tP T)) = x := ⟨_, rfl⟩
  rw [hx1, hx2] at HPB HD1
  rw [hx1, hx2]
  clear hx1 hx2
  go_wp2_with (first
    | (refine wpList_load_row rfl _ (.tmp 1) rfl q rfl _ _ _ _ HX5.out Try.underlying116 rfl hszT ?_)
    | (refine wpList_load_mid rfl _ (.tmp 17) rfl q 145 rfl _ _ hrg5 Try.underlying114 rfl hi144N ?_))
  refine (cellsMk_any (ints T).toArray (ints (midN T)).toArray true w5).mono ?_; rintro e w' ⟨rfl, rfl⟩
  have hx1 := ((Blk.new w5 116 (ints T).toArray).alloc (.cells (ints (midN T)).toArray 114)).alloc (.cells #[.bool true] 4)
  have hx2 := (Blk.new (w5.alloc (.cells (ints T).toArray 116)) 114 (ints (midN T)).toArray).alloc (.cells #[.bool true] 4)
  rw [show (w5.alloc (.cells (ints T).toArray 116)).heap.size = w5.heap.size + 1 by simp] at hx2
  have hx3 := Blk.new ((w5.alloc (.cells (ints T).toArray 116)).alloc (.cells (ints (midN T)).toArray 114)) 4 #[.bool true]
  rw [show ((w5.alloc (.cells (ints T).toArray 116)).alloc (.cells (ints (midN T)).toArray 114)).heap.size = w5.heap.size + 1 + 1 by simp] at hx3
  have hbb : Below w5.heap.size w5 (((w5.alloc (.cells (ints T).toArray 116)).alloc (.cells (ints (midN T)).toArray 114)).alloc (.cells #[.bool true] 4)) := (((Below.refl _ _).alloc (Nat.le_refl _) _).alloc (by simp) _).alloc (by simp; omega) _
  obtain ⟨V6, hV⟩ : ∃ V, ((w5.alloc (.cells (ints T).toArray 116)).alloc (.cells (ints (midN T)).toArray 114)).alloc (.cells #[.bool true] 4) = V := ⟨_, rfl⟩
  rw [hV] at hx1 hx2 hx3 hbb ⊢
  have HS6 := Lib.hid (spread_any w5.heap.size (w5.heap.size + 1 + 1) (w5.heap.size + 1) n T (midN T) true (tN T) V6 h12 HT0.out (fun a b ha hb => midN_get HT.out (by omega) (by omega)) hx1 hx2 hx3)
  have HV6 := Lib.hid hbb
  clear hV hx1 hx2 hx3 hbb
  go_wp2_with fail
  refine HS6.out.mono ?_; rintro e w6 ⟨rfl, b9⟩
  have HC6 := Lib.hid (HV6.out.trans (b9.mono HV6.out.size))
  clear b9 HS6 HV6
  have HR6 := Lib.hid (HR5.out.below HC6.out)
  have HB6 := Lib.hid (HB5.out.trans (HC6.out.mono (by have := HR5.out.lt; omega)))
  obtain ⟨y1, hy1⟩ : ∃ x, mnD (seqF n true (tN T)) = x := ⟨_, rfl⟩
  obtain ⟨y2, hy2⟩ : ∃ x, mxD (seqF n true (tN T)) = x := ⟨_, rfl⟩
  rw [hy1, hy2] at HNB HD2
  rw [hy1, hy2]
  obtain ⟨p1, p2, p3, p4⟩ := HPB.out
  obtain ⟨r1, r2, r3, r4⟩ := HNB.out
  have c0 : w6.cell? ⟨q + 1, 0, none⟩ = some (.int .i64 0) := by rw [HR6.out.cell]; rfl
  have c1 : w6.cell? ⟨q + 1, 1, none⟩ = some (.int .i64 0) := by rw [HR6.out.cell]; rfl
  have f0 := HR6.out.frozen 0
  have f1 := HR6.out.frozen 1
  have HXF := Lib.hid ((HR6.out.set_ 0 (.int .i64 (x2 - x1))).set_ 1 (.int .i64 (y2 - y1)))
  have HBF := Lib.hid ((HB6.out.setCell (p := ⟨q + 1, 0, none⟩) (by show q ≤ q + 1; omega) (.int .i64 (x2 - x1))).setCell (p := ⟨q + 1, 1, none⟩) (by show q ≤ q + 1; omega) (.int .i64 (y2 - y1)))
  clear hy1 hy2 hrg5 HX5 HR5 HB5 HC6 HPB HNB HR6 HB6
  go_wp2
  exact bodyPost_ret (v := .agg #[.int .i64 (x2 - x1), .int .i64 (y2 - y1)]) (results_cell_row rfl _ _ (q + 1) 112 _ (0, 0) _ rfl HXF.out Try.underlying112 rfl (by kernel_rfl)) rfl ⟨by rw [HD1.out, HD2.out], by rw [HQ.out]; exact HBF.out⟩

def Num3P (x : Int × Int × Int) (w : World) (e : Ending) (w' : World) : Prop := e = .returned (.tuple #[.int .i64 x.1, .int .i64 x.2.1, .int .i64 x.2.2]) ∧ Below w.heap.size w w'
set_option maxHeartbeats 2000000 in
set_option maxRecDepth 100000 in
theorem fairPr_any (A : Option Addr) (m c : Nat) (L : List (List Int)) (n : Int) (w : World) (h : RdL w A m L) (hn : I64 n) : Calls Try.prog 57 #[.int .i64 n, .slice A m c] w (Num3P (fairO n L) w) := by
  by_cases hz : ordE n L = 0
  · obtain ⟨h1, h2, h3, h4⟩ := ordE_ok hz
    obtain ⟨n, rfl⟩ : ∃ n' : Nat, n = n' := ⟨n.toNat, by omega⟩
    rw [Int.toNat_natCast] at h4
    have h12 : n ≤ 12 := by omega
    have hml := h.len
    have HV : Hid (fairO n L = ((difT n (tabL n L)).1, (difT n (tabL n L)).2, 0)) := Lib.hid (by unfold fairO; rw [if_neg (by omega), Int.toNat_natCast, difT_tab h12 h4])
    have HZ := Lib.hid hz
    have HT : Hid (TabOk 10000 (tabL n L)) := Lib.hid ((TabOk.tab h12 (fun o ho => okOrd_len (h4 o ho)) L.length (Nat.le_refl _)).mono (by omega))
    have HT0 : Hid ((tabL n L)[0]? = some (n : Int)) := Lib.hid (by
      have := (tabO_get h12 h4 L.length (Nat.le_refl _)).2.2
      rw [show tabTo n L L.length = tabL n L from rfl] at this
      rw [← this]
      exact get_getD (by rw [HT.out.len]; omega))
    have HR := Lib.hid h
    have HTO := Lib.hid (tableOf_any n L A m c w h h12 h4 (by omega))
    clear h1 h2 h3 h4 hml hz h
    go_enter Try.func57, Try.ntmps57
    go_wp2_with fail
    refine (checkO_any A m c L (n : Int) w HR.out hn).mono ?_; rintro e w' ⟨rfl, rfl⟩
    rw [HZ.out]
    go_wp2_with fail
    refine HTO.out.mono ?_; rintro e w2 ⟨rfl, b2⟩
    have HB2 := Lib.hid b2
    clear b2
    go_wp2_with fail
    refine (differences_any n (tabL n L) w2 h12 HT.out HT0.out).mono ?_; rintro e w3 ⟨rfl, b3⟩
    have HB3 := Lib.hid (HB2.out.trans (b3.mono HB2.out.size))
    clear b3
    generalize (difT n (tabL n L)).1 = x at HV ⊢
    generalize (difT n (tabL n L)).2 = y at HV ⊢
    go_upto_region 5 with fail
    have HX := Lib.hid (Blk.new w3 112 #[.int .i64 x, .int .i64 y])
    have HB4 := Lib.hid (HB3.out.alloc HB3.out.size (.cells #[.int .i64 x, .int .i64 y] 112))
    obtain ⟨W, hW⟩ : ∃ W, w3.alloc (.cells #[.int .i64 x, .int .i64 y] 112) = W := ⟨_, rfl⟩
    rw [hW] at HX HB4 ⊢
    have c0 : W.cell? ⟨w3.heap.size, 0, none⟩ = some (.int .i64 x) := by rw [HX.out.cell]; rfl
    have c1 : W.cell? ⟨w3.heap.size, 1, none⟩ = some (.int .i64 y) := by rw [HX.out.cell]; rfl
    clear hW
    go_quiet (fail)
    go_wp2
    go_ret3
    rw [HV.out]
    exact ⟨rfl, below_drewN HB4.out _⟩
  · have HV : Hid (fairO n L = (0, 0, ordE n L)) := Lib.hid (by unfold fairO; rw [if_pos hz])
    have g : (ordE n L != 0) = true := by simpa using hz
    have HR := Lib.hid h
    clear hz h
    go_enter Try.func57, Try.ntmps57
    go_wp2_with fail
    refine (checkO_any A m c L n w HR.out hn).mono ?_; rintro e w' ⟨rfl, rfl⟩
    generalize ordE n L = z at g HV ⊢
    go_wp2
    go_ret3
    rw [HV.out]
    exact ⟨rfl, Below.refl _ _⟩
end Go.Proofs.Ytcmacejpoihhlaa

namespace Go.Proofs.Ytcmacejpoihhlaa
open Go.RowKit

def cmpI (x y : Int) : Int := if x < y then -1 else if y < x then 1 else 0
def cmp2 (a b : Int × Int) : Int := if cmpI a.1 b.1 ≠ 0 then cmpI a.1 b.1 else cmpI a.2 b.2
theorem cmp2_lt (a b : Int × Int) : cmp2 a b < 0 ↔ ltD a b := by
  unfold cmp2 cmpI ltD
  split <;> split at * <;> (try split at *) <;> (try split) <;> (try split) <;> omega
theorem cmpI_bd (x y : Int) : -1 ≤ cmpI x y ∧ cmpI x y ≤ 1 := by unfold cmpI; split; omega; split <;> omega

set_option maxHeartbeats 400000 in
theorem isNaN_any (x : Int) (w : World) : Calls Try.prog 140 #[.int .i64 x] w fun e w' => e = .returned (.bool false) ∧ w = w' := by
  go_enter Try.func140, Try.ntmps140
  go_wp2
  go_ret
  exact ⟨rfl, rfl⟩

set_option maxHeartbeats 400000 in
theorem cmpInt_any (x y : Int) (w : World) : Calls Try.prog 133 #[.int .i64 x, .int .i64 y] w fun e w' => e = .returned (.int .i64 (cmpI x y)) ∧ w = w' := by
  have h : x < y ∨ (¬x < y ∧ y < x) ∨ (¬x < y ∧ ¬y < x) := by omega
  rcases h with h | ⟨h1, h⟩ | ⟨h1, h⟩
  · have HV : Hid (cmpI x y = -1) := Lib.hid (by unfold cmpI; rw [if_pos h])
    go_enter Try.func133, Try.ntmps133
    go_wp2_with fail
    refine (isNaN_any x w).mono ?_; rintro e w' ⟨rfl, rfl⟩
    go_wp2_with fail
    refine (isNaN_any y w).mono ?_; rintro e w' ⟨rfl, rfl⟩
    go_wp2
    go_ret
    exact ⟨ret_int HV.out.symm, rfl⟩
  · have HV : Hid (cmpI x y = 1) := Lib.hid (by unfold cmpI; rw [if_neg h1, if_pos h])
    go_enter Try.func133, Try.ntmps133
    go_wp2_with fail
    refine (isNaN_any x w).mono ?_; rintro e w' ⟨rfl, rfl⟩
    go_wp2_with fail
    refine (isNaN_any y w).mono ?_; rintro e w' ⟨rfl, rfl⟩
    go_wp2
    go_ret
    exact ⟨ret_int HV.out.symm, rfl⟩
  · have HV : Hid (cmpI x y = 0) := Lib.hid (by unfold cmpI; rw [if_neg h1, if_neg h])
    go_enter Try.func133, Try.ntmps133
    go_wp2_with fail
    refine (isNaN_any x w).mono ?_; rintro e w' ⟨rfl, rfl⟩
    go_wp2_with fail
    refine (isNaN_any y w).mono ?_; rintro e w' ⟨rfl, rfl⟩
    go_wp2
    go_ret
    exact ⟨ret_int HV.out.symm, rfl⟩

set_option maxHeartbeats 1000000 in
set_option maxRecDepth 100000 in
theorem compare2_any (p q c d : Nat) (a b : Int × Int) (w : World) (h1 : Blk w p 112 #[.int .i64 a.1, .int .i64 a.2]) (h2 : Blk w q 112 #[.int .i64 b.1, .int .i64 b.2]) :
    Calls Try.prog 112 #[.slice (some ⟨p, 0, none⟩) 2 c, .slice (some ⟨q, 0, none⟩) 2 d] w fun e w' => e = .returned (.int .i64 (cmp2 a b)) ∧ w = w' := by
  obtain ⟨a1, a2⟩ := a
  obtain ⟨b1, b2⟩ := b
  simp only at h1 h2
  have c0 : w.cell? ⟨p, 0, none⟩ = some (.int .i64 a1) := by rw [h1.cell]; rfl
  have c1 : w.cell? ⟨p, 1, none⟩ = some (.int .i64 a2) := by rw [h1.cell]; rfl
  have e0 : w.cell? ⟨q, 0, none⟩ = some (.int .i64 b1) := by rw [h2.cell]; rfl
  have e1 : w.cell? ⟨q, 1, none⟩ = some (.int .i64 b2) := by rw [h2.cell]; rfl
  have HC : Hid (cmp2 (a1, a2) (b1, b2) = if cmpI a1 b1 ≠ 0 then cmpI a1 b1 else cmpI a2 b2) := Lib.hid rfl
  generalize cmp2 (a1, a2) (b1, b2) = z at HC ⊢
  have HM1 := Lib.hid (cmpInt_any a1 b1 w)
  have HM2 := Lib.hid (cmpInt_any a2 b2 w)
  generalize cmpI a1 b1 = x at HC HM1
  generalize cmpI a2 b2 = y at HC HM2
  clear h1 h2
  go_enter Try.func112, Try.ntmps112
  go_wp2_with fail
  go_loopw [11] (fun i wr => ((i = .int .i64 0 ∧ True) ∨ (i = .int .i64 1 ∧ x = 0) ∨ (i = .int .i64 2 ∧ x = 0 ∧ y = 0)) ∧ w = wr) (fun i _ => 2 - (intOf i).toNat)
  case atStart => exact ⟨.inl ⟨rfl, trivial⟩, rfl⟩
  case round =>
    obtain ⟨⟨rfl, _⟩ | ⟨rfl, hx⟩ | ⟨rfl, hx, hy⟩, rfl⟩ := hrel
    · go_wp2_with fail
      refine HM1.out.mono ?_; rintro e w' ⟨rfl, rfl⟩
      by_cases hx : x = 0
      · subst hx
        go_wp2
        go_roundw
        case rel => exact ⟨.inr (.inl ⟨rfl, trivial⟩), trivial⟩
        case measure => simp [intOf]
      · have g : (x != 0) = true := by simpa using hx
        have HZ : Hid (z = x) := Lib.hid (by rw [HC.out, if_pos hx])
        clear hx
        go_wp2
        go_ret
        exact ⟨ret_int HZ.out.symm, rfl⟩
    · go_wp2_with fail
      refine HM2.out.mono ?_; rintro e w' ⟨rfl, rfl⟩
      have HZ : Hid (z = y) := Lib.hid (by rw [HC.out, if_neg (by omega)])
      by_cases hy : y = 0
      · subst hy
        have hx0 := hx
        clear hx
        go_wp2
        go_roundw
        case rel => exact ⟨.inr (.inr ⟨rfl, hx0, trivial⟩), trivial⟩
        case measure => simp [intOf]
      · have g : (y != 0) = true := by simpa using hy
        clear hy hx
        go_wp2
        go_ret
        exact ⟨ret_int HZ.out.symm, rfl⟩
    · have HZ : Hid (z = 0) := Lib.hid (by rw [HC.out, if_neg (by omega)]; exact hy)
      clear hx hy
      go_wp2
      go_ret
      exact ⟨ret_int HZ.out.symm, rfl⟩
end Go.Proofs.Ytcmacejpoihhlaa

namespace Go.Proofs.Ytcmacejpoihhlaa
open Go.RowKit Go.Shelf
attribute [local go_sem] Oper.semAt_some

/-- what stands between two rounds of Turn: the boxes and the loop's record from block g on, the best so far -/
structure TuJ (w : World) (g : Nat) (rec : Loop) (n : Nat) (L : List (List Int)) (k : Nat) (W : World) : Prop where
  tab : Blk W g 116 (ints (tabL n L)).toArray
  best : ∃ (Ab : Option Addr) (cb : Nat), Blk W (g + 1) 22 #[.slice Ab (turnTo n L k).1.length cb] ∧ OwnI W (g + 7) 3 Ab (turnTo n L k).1.length cb (turnTo n L k).1 ∧ Ab.isNone = decide (k = 0)
  least : Blk W (g + 1 + 1) 112 #[.int .i64 (turnTo n L k).2.1, .int .i64 (turnTo n L k).2.2]
  nb : Blk W (g + 3) 3 #[.int .i64 n]
  df : W.heap[g + 4]? = some (.deferred (some []))
  lp : W.heap[g + 5]? = some (.loop rec)
  bel : Below w.heap.size w W
  le : g + 6 ≤ W.heap.size ∧ w.heap.size ≤ g
theorem ne_own {w : World} {base n c g : Nat} {A : Option Addr} {l : List Int} (h : OwnI w base 3 A n c l) (hg : g < base) : A.map (·.block) = none ∨ A.map (·.block) ≠ some g := by
  cases e : A.map (·.block) with
  | none => exact .inl rfl
  | some b => exact .inr (fun e2 => by injection e2 with e2; have := (h.1.block e).1; omega)
theorem TuJ.grown {w W W' : World} {g : Nat} {rec : Loop} {n : Nat} {L : List (List Int)} {k : Nat} (h : TuJ w g rec n L k W) (hg : W.grownBy W' (some (g + 6))) : TuJ w g rec n L k W' := by
  obtain ⟨Ab, cb, h1, h2, h3⟩ := h.best
  have hle := h.le
  have hs := hg.size
  have hn : ∀ {b : Nat}, b < g + 6 → some b ≠ some (g + 6) := fun hb e => by injection e with e; omega
  exact ⟨h.tab.grown hg (hn (by omega)), ⟨Ab, cb, h1.grown hg (hn (by omega)), h2.grown hg (ne_own h2 (by omega)), h3⟩, h.least.grown hg (hn (by omega)), h.nb.grown hg (hn (by omega)),
    (hg.block _ (by omega) (hn (by omega))).trans h.df, (hg.block _ (by omega) (hn (by omega))).trans h.lp, h.bel.grown hg (by omega) (fun b e => by injection e with e; omega), by omega⟩

/-- a load of a whole row, inside a fence -/
theorem wpListIn_load_row {F : Fence} {n : Nat} {P : Program} {ops : Array Oper} {rest : List Oper} {o : Oper} {a : Act} {w : World} {Q : Exit → Act → World → Prop} (hgd : o.guard = none) (ty : TypeId) (x : Operand) (ho : o.op = .load ty x)
    (g : Nat) (hx : a.eval x = .pointer (some ⟨g, 0, none⟩)) (t : TypeId) (cs : Array Value) (fr : Nat × Nat) (d : TypeDesc) (hg : w.heap[g]? = some (.cells cs t fr))
    (hu : P.underlying ty = some d) (hd : (match d with | .struct _ | .array _ _ => true | _ => false) = true) (hi : (P.info? ty).map (·.size) = some cs.size)
    (h : wpListIn F n P ops Q rest (a.put o.dst (.agg cs)) w) : wpListIn F n P ops Q (o :: rest) a w := by
  refine wpListIn_plain hgd fun K hK' => ?_
  unfold Oper.wpIn
  refine ⟨by simp [Oper.about, ho], ?_⟩
  rw [Oper.semAt_plain F _ _ (by rw [ho]; intro c hc'; cases hc')]
  simp [execOp, ho, hx, Instr.loadAt, Instr.sureAddr, Sem.run_bind, Sem.run_pure, Result.andThen, run_loadVar_row w g t ty cs fr d hg hu hd hi]
  exact hK' _ _ h

/-- numbers and an error: the numbers may lie anywhere, from the base on -/
def IntsErrO (x : List Int × Int) (w : World) (e : Ending) (w' : World) : Prop :=
  ∃ A c, e = .returned (.tuple #[.slice A x.1.length c, .int .i64 x.2]) ∧ OwnI w' w.heap.size 3 A x.1.length c x.1 ∧ Below w.heap.size w w'

set_option maxHeartbeats 4000000 in
set_option maxRecDepth 100000 in
theorem turnP_any (A : Option Addr) (m c : Nat) (L : List (List Int)) (n : Int) (w : World) (h : RdL w A m L) (hn : I64 n) : Calls Try.prog 65 #[.int .i64 n, .slice A m c] w (IntsErrO (turnE n L) w) := by
  have H0 := Lib.hid h
  have hml := h.len
  by_cases hz : ordE n L = 0
  · obtain ⟨h1, h2, h3, h4⟩ := ordE_ok hz
    have HZ := Lib.hid hz
    by_cases hf : 6 < n ∨ L.length = 60
    · have HV := Lib.hid (turnE_full hz hf)
      have hc : 6 < n ∨ (n ≤ 6 ∧ m = 60) := by omega
      clear hz hf h1 h2 h3 h4 hml h
      go_enter Try.func65, Try.ntmps65
      go_wp2_with fail
      refine (checkO_any A m c L n w H0.out hn).mono ?_; rintro e w1 ⟨rfl, rfl⟩
      rw [HZ.out]
      rcases hc with h6 | ⟨h6, hm⟩
      · go_wp2
        go_ret2
        rw [HV.out]
        exact ⟨none, 0, rfl, OwnI.nil_ _ _ _, Below.refl _ _⟩
      · subst hm
        go_wp2
        go_ret2
        rw [HV.out]
        exact ⟨none, 0, rfl, OwnI.nil_ _ _ _, Below.refl _ _⟩
    · obtain ⟨n, rfl⟩ : ∃ n' : Nat, n = n' := ⟨n.toNat, by omega⟩
      rw [Int.toNat_natCast] at h4
      have hn6 : n ≤ 6 := by omega
      have hn1 : 1 ≤ n := by omega
      have g6 : decide ((6 : Int) < n) = false := decide_eq_false (by omega)
      have gm : ((m : Int) == 60) = false := beq_false_of_ne (by omega)
      have hm60 : m < 60 := by omega
      have HV := Lib.hid (turnE_ok hz hn6 (by omega))
      have HPF := Lib.hid (perms_f hn1 hn6)
      have HTB := Lib.hid (turn_best n L HPF.out hn1)
      have HL4 := Lib.hid h4
      have HT : Hid (TabOk 9000 (tabL n L)) := Lib.hid ((TabOk.tab (by omega) (fun o ho => okOrd_len (h4 o ho)) L.length (Nat.le_refl _)).mono (by omega))
      have HTO := Lib.hid (tableOf_any n L A m c w h (by omega) h4 (by omega))
      have hszT := tab_size HT.out
      have hold : Try.zeroCells116.size = (ints (tabL n L)).toArray.size := by rw [tabZero, List.size_toArray, List.size_toArray, ints_length, ints_length, HT.out.len]; rfl
      have hone : (ints (tabL n L)).toArray.all (·.oneCell') = true := by simp only [List.all_toArray]; exact List.all_eq_true.2 (ints_oneCell' _)
      clear hz hf h1 h2 h3 h4 hml h
      refine (callsIn_wide (n := 3)).1 ?_
      refine callsIn_of_wp_marks Try.func65 rfl trivial ?_ rfl
      simp only [Try.ntmps65, List.size_toArray, List.length_cons, List.length_nil, Nat.reduceAdd, Nat.reduceSub, Array.replicate_succ, Array.replicate_zero, List.push_toArray, List.append_toArray, List.nil_append, List.cons_append]
      gi_wp2_with fail
      refine ⟨trivial, ?_⟩
      refine (callsIn_wide.2 (checkO_any A m c L n w H0.out hn)).mono ?_; rintro e w1 ⟨rfl, rfl⟩
      rw [HZ.out]
      gi_upto_region 6 with fail
      refine wpIn_wide.2 ?_
      go_upto_region 7 with (first
        | (go_at_call 106; refine HTO.out.mono ?_; rintro e w2 ⟨rfl, b2⟩; have HB2 := Lib.hid b2; clear b2; obtain ⟨T, hT⟩ : ∃ T, tabL n L = T := ⟨_, rfl⟩; rw [hT] at hszT hold hone ⊢)
        | (refine wpList_store_row rfl _ (.tmp 7) (.tmp 27) rfl w2.heap.size (ints T).toArray rfl rfl _ _ (heap_alloc_new w2 _) hszT hold hone ?_))
      have hx0 : Blk ((w2.alloc (.cells Try.zeroCells116 116)).setRow w2.heap.size (ints T).toArray) w2.heap.size 116 (ints T).toArray := setRow_heap _ _ _ _ _ _ (heap_alloc_new w2 _)
      have hb0 := below_setRow ((HB2.out).alloc HB2.out.size (.cells Try.zeroCells116 116)) HB2.out.size (ints T).toArray
      have hs0 : ((w2.alloc (.cells Try.zeroCells116 116)).setRow w2.heap.size (ints T).toArray).heap.size = w2.heap.size + 1 := by simp
      have hge := HB2.out.size
      obtain ⟨g, hg⟩ : ∃ g, w2.heap.size = g := ⟨_, rfl⟩
      rw [hg] at hx0 hb0 hs0 hge ⊢
      have HX0 : Hid (Blk _ g 116 (ints T).toArray) := Lib.hid hx0
      have HB0 := Lib.hid hb0
      generalize (w2.alloc (.cells Try.zeroCells116 116)).setRow g (ints T).toArray = w3 at HX0 HB0 hs0 ⊢
      clear hx0 hb0 hold hone HB2 hg
      gi_wp2_with fail
      have hx1 := (HX0.out.alloc (.cells #[.slice none 0 0] 22)).alloc (.cells #[.int .i64 0, .int .i64 0] 112)
      have hx2 := (Blk.new w3 22 #[.slice none 0 0]).alloc (.cells #[.int .i64 0, .int .i64 0] 112)
      have hx3 := Blk.new (w3.alloc (.cells #[.slice none 0 0] 22)) 112 #[.int .i64 0, .int .i64 0]
      rw [show (w3.alloc (.cells #[.slice none 0 0] 22)).heap.size = w3.heap.size + 1 by simp] at hx3
      rw [hs0] at hx2 hx3
      have hb1 := (HB0.out.alloc (by omega) (.cells #[.slice none 0 0] 22)).alloc (by simp; omega) (.cells #[.int .i64 0, .int .i64 0] 112)
      have hs4 : ((w3.alloc (.cells #[.slice none 0 0] 22)).alloc (.cells #[.int .i64 0, .int .i64 0] 112)).heap.size = g + 3 := by simp; omega
      have HX1 := Lib.hid hx1
      have HX2 := Lib.hid hx2
      have HX3 := Lib.hid hx3
      have HB1 := Lib.hid hb1
      generalize (w3.alloc (.cells #[.slice none 0 0] 22)).alloc (.cells #[.int .i64 0, .int .i64 0] 112) = w4 at HX1 HX2 HX3 HB1 hs4 ⊢
      clear hx1 hx2 hx3 hb1 hs0 HX0 HB0
      refine ⟨trivial, ?_⟩
      refine (callsIn_wide.2 (ordersMk_any n w4)).mono ?_; rintro e w' ⟨rfl, rfl⟩
      have hs5 : (w4.alloc (.cells #[.int .i64 n] 3)).heap.size = g + 4 := by simp; omega
      have hx4 := Blk.new w4 3 #[.int .i64 n]
      rw [hs4] at hx4 ⊢
      have HX4 := Lib.hid hx4
      have HX1b := Lib.hid (HX1.out.alloc (.cells #[.int .i64 n] 3))
      have HX2b := Lib.hid (HX2.out.alloc (.cells #[.int .i64 n] 3))
      have HX3b := Lib.hid (HX3.out.alloc (.cells #[.int .i64 n] 3))
      have HB4 := Lib.hid (HB1.out.alloc HB1.out.size (.cells #[.int .i64 n] 3))
      clear hx4 HX1 HX2 HX3 HB1 hs4
      generalize w4.alloc (.cells #[.int .i64 n] 3) = w5 at HX4 HX1b HX2b HX3b HB4 hs5 ⊢
      gi_wp2_with fail
      refine wpIn_range1 (gf := 132) (lb := #[.pointer (some ⟨g + 3, 0, none⟩)]) rfl (enters_of Try.func132 (by kernel_rfl) rfl) ?_
      intro fn rec hrec WL hWL
      have hst : rec.state = .ready := by rw [hrec]
      have hpe : rec.pending = none := by rw [hrec]
      have hps : rec.params.size = 1 := by rw [hrec]; rfl
      have hsz : (w5.alloc (.deferred (some []))).heap.size = w5.heap.size + 1 := by simp
      have hbl : Below w5.heap.size w5 WL := by rw [hWL]; exact ((Below.refl _ w5).alloc (Nat.le_refl _) _).alloc (by simp) _
      have hD : WL.heap[w5.heap.size]? = some (.deferred (some [])) := by
        rw [hWL]; exact (Below.heap_alloc _ _ _ (by simp)).trans (World.alloc_heap_new w5 _)
      have hR : WL.heap[w5.heap.size + 1]? = some (.loop rec) := by
        rw [hWL]; have := World.alloc_heap_new (w5.alloc (.deferred (some []))) (.loop rec); rwa [hsz] at this
      have hLS : WL.heap.size = g + 6 := by rw [hWL]; simp; omega
      rw [hs5] at hD hR
      have HSJ := Lib.hid (show TuJ w1 g rec n L 0 WL from ⟨by rw [hT]; exact HX1b.out.below hbl, ⟨none, 0, HX2b.out.below hbl, OwnI.nil_ _ _ _, rfl⟩, HX3b.out.below hbl, HX4.out.below hbl, hD, hR, HB4.out.trans (hbl.mono HB4.out.size), by omega, hge⟩)
      have HREC := Lib.hid hrec
      have HTT := Lib.hid hT
      rw [hs5]
      clear hsz hbl hD hR hWL hrec HX1b HX2b HX3b HX4 HB4 hs5 hT
      refine (ordersIter_any (g + 4 + 1) (TuJ w1 g rec n L) (g + 3) n WL hn1 hn6 ?_ ?_ HSJ.out ?_).mono ?_
      · intro k W' hj
        rw [hj.nb.cell]; rfl
      · intro k W1 W2 hj hg
        rw [hLS] at hg
        exact hj.grown hg
      · intro k A' c' W1 hk hj hq1 ho
        rw [hLS] at hq1 ho ⊢
        have hl := hj.lp
        have hy := run_yield (P := Try.prog) (args := #[.slice A' n c']) hl (by rw [hps]; rfl)
        refine ⟨_, _, _, _, hy, roundIn_of_wpIn trivial ?_⟩
        have hbr := run_beginRound (P := Try.prog) hl hst
        obtain ⟨Ab, cb, hxo, hown, hnn⟩ := hj.best
        have hle := hj.le
        have hlt : g + 4 + 1 < W1.heap.size := (Array.getElem?_eq_some_iff.1 hl).1
        obtain ⟨WB, hWB⟩ : ∃ WB, WB = W1.putObj (g + 4 + 1) (.loop { rec with state := .busy }) := ⟨_, rfl⟩
        have hgB : W1.grownBy WB (some (g + 4 + 1)) := by rw [hWB]; exact grownBy_putObj' _ _ _
        have hlB : WB.heap[g + 4 + 1]? = some (.loop { rec with state := .busy }) := by rw [hWB]; exact World.putObj_heap_same hlt
        have hdB : WB.heap[g + 4]? = some (.deferred (some [])) := by rw [hWB]; exact (World.putObj_heap_other (by omega)).trans hj.df
        have hqB : WB.heap[g + 6]? = W1.heap[g + 6]? := by rw [hWB]; exact World.putObj_heap_other (by omega)
        have hsB : WB.heap.size = W1.heap.size := by rw [hWB]; simp [World.putObj]
        have hn4 : ∀ {b : Nat}, b < g + 4 → some b ≠ some (g + 4 + 1) := fun hb e => by injection e with e; omega
        have htB : Blk WB g 116 (ints T).toArray := by have := hj.tab.grown hgB (hn4 (by omega)); rwa [HTT.out] at this
        have hxB : Blk WB (g + 1) 22 #[.slice Ab (turnTo n L k).1.length cb] := hxo.grown hgB (hn4 (by omega))
        have hOB : OwnI WB (g + 7) 3 Ab (turnTo n L k).1.length cb (turnTo n L k).1 := hown.grown hgB (ne_own hown (by omega))
        have hlsB : Blk WB (g + 1 + 1) 112 #[.int .i64 (turnTo n L k).2.1, .int .i64 (turnTo n L k).2.2] := hj.least.grown hgB (hn4 (by omega))
        have hnB : Blk WB (g + 3) 3 #[.int .i64 n] := hj.nb.grown hgB (hn4 (by omega))
        have hpB : OwnI WB (g + 7) 3 A' n c' (prm n k) := ho.grown hgB (ne_own ho (by omega))
        have hbB : Below w1.heap.size w1 WB := hj.bel.grown hgB (by have := hj.bel.size; omega) (fun b e => by injection e with e; omega)
        rw [← hWB] at hbr
        have hrr : ({ rec with state := .ready, pending := none } : Loop) = rec := by
          cases rec
          simp only at hst hpe
          subst hst hpe
          rfl
        -- what a round leaves, from whatever the body has made of the two boxes
        have HEND : Hid (∀ (W6 : World) (s : List Int × Int × Int) (A9 : Option Addr) (c9 : Nat), Blk W6 (g + 1) 22 #[.slice A9 s.1.length c9] → Blk W6 (g + 1 + 1) 112 #[.int .i64 s.2.1, .int .i64 s.2.2] → OwnI W6 (g + 7) 3 A9 s.1.length c9 s.1 → A9.isNone = false → turnTo n L (k + 1) = s →
            (∀ b, b < WB.heap.size → b ≠ g + 1 → b ≠ g + 1 + 1 → W6.heap[b]? = WB.heap[b]?) → WB.heap.size ≤ W6.heap.size → Below w1.heap.size WB W6 →
            ∃ W7, (Instr.endRound (g + 4 + 1) none).run Try.prog W6 = .ok (.bool true) W7 ∧ TuJ w1 g rec n L (k + 1) W7 ∧ W7.heap[g + 6]? = W1.heap[g + 6]?) := Lib.hid (by
          intro W6 s A9 c9 b1 b2 b3 b4 hs hoth hsz6 hbel6
          have hl6 : W6.heap[g + 4 + 1]? = some (.loop { rec with state := .busy }) := (hoth _ (by omega) (by omega) (by omega)).trans hlB
          have hlt6 := (Array.getElem?_eq_some_iff.1 hl6).1
          have hend : (Instr.endRound (g + 4 + 1) none).run Try.prog W6 = .ok (.bool true) (W6.putObj (g + 4 + 1) (.loop rec)) := by
            have h9 := run_endRound (P := Try.prog) none hl6
            rw [h9]
            show Result.ok (Value.bool true) (W6.putObj _ (.loop { rec with state := (if (none : Option Code).isNone = true then LoopState.ready else LoopState.done), pending := none })) = _
            rw [show ({ rec with state := (if (none : Option Code).isNone = true then LoopState.ready else LoopState.done), pending := none } : Loop) = rec from hrr]
          have hg7 : W6.grownBy (W6.putObj (g + 4 + 1) (.loop rec)) (some (g + 4 + 1)) := grownBy_putObj' _ _ _
          have keep : ∀ {b : Nat} {t : TypeId} {cs : Array Value}, Blk WB b t cs → b < g + 4 → b ≠ g + 1 → b ≠ g + 1 + 1 → Blk (W6.putObj (g + 4 + 1) (.loop rec)) b t cs := fun {b t cs} h1 h2 h3 h4 => Blk.grown (w := W6) ((hoth _ h1.lt h3 h4).trans h1) hg7 (hn4 h2)
          refine ⟨_, hend, ⟨by rw [HTT.out]; exact keep htB (by omega) (by omega) (by omega), ⟨A9, c9, by rw [hs]; exact b1.grown hg7 (hn4 (by omega)), by rw [hs]; exact b3.grown hg7 (ne_own b3 (by omega)), by rw [b4]; rfl⟩,
            by rw [hs]; exact b2.grown hg7 (hn4 (by omega)), keep hnB (by omega) (by omega) (by omega),
            (World.putObj_heap_other (by omega)).trans ((hoth _ (by omega) (by omega) (by omega)).trans hdB), World.putObj_heap_same hlt6,
            (hbB.trans hbel6).grown hg7 (by have := hbB.size; omega) (fun b e => by injection e with e; omega), ⟨by have := hg7.size; omega, hle.2⟩⟩, ?_⟩
          exact (World.putObj_heap_other (by omega)).trans ((hoth _ (by omega) (by omega) (by omega)).trans hqB))
        have hok := HPF.out.ok k hk
        have HPO := Lib.hid (fun v (hv : v ∈ prm n k) => (by have := okOrd_mem hok v hv; omega : 0 ≤ v ∧ v < 12))
        have HPL : Hid ((prm n k).length = n) := Lib.hid (okOrd_len hok)
        have HDT : Hid (difT n (wAll (prm n k) T) = addF n L (prm n k)) := Lib.hid (by rw [← HTT.out]; exact difT_with (by omega) HL4.out hok)
        have HWT : Hid (TabOk 10000 (wAll (prm n k) T)) := Lib.hid (by
          have := (HTT.out ▸ HT.out).to (prm n k) (prm n k).length (by omega)
          rw [HPL.out] at this
          unfold wAll
          rw [HPL.out]
          exact this.mono (by omega))
        have HW0 : Hid ((wAll (prm n k) T)[0]? = some (n : Int)) := Lib.hid (by
          have hL2 : ∀ x ∈ L ++ [prm n k], okOrd n x = true := fun x hx => by
            rcases List.mem_append.1 hx with h | h
            · exact HL4.out x h
            · simp at h; subst h; exact hok
          have h9 := (tabO_get (by omega) hL2 (L ++ [prm n k]).length (Nat.le_refl _)).2.2
          rw [show tabTo n (L ++ [prm n k]) (L ++ [prm n k]).length = tabL n (L ++ [prm n k]) from rfl, tabL_snoc, HTT.out] at h9
          rw [← h9]
          exact get_getD (by rw [HWT.out.len]; omega))
        have HSU := Lib.hid (turnTo_succ (L := L) (prm_get hk))
        have HTB2 := Lib.hid htB
        have HXB := Lib.hid hxB
        have HOB := Lib.hid hOB
        have HLB := Lib.hid hlsB
        have HPB := Lib.hid hpB
        have HBB := Lib.hid hbB
        have hsB6 : g + 6 < WB.heap.size := by omega
        clear hj ho hl hlt hWB hgB hxo hown hxB hOB hlsB hnB hpB hbB hlB hdB hqB hsB hy hrr htB hn4 hq1 hok
        have e := HREC.out
        subst e
        gi_wp2
        refine ⟨WB, hbr, ?_⟩
        clear hbr
        gi_wp2_with (first
          | (refine wpListIn_load_row rfl _ (.tmp 7) rfl g rfl _ _ _ _ HTB2.out Try.underlying116 rfl hszT ?_))
        refine ⟨trivial, ?_⟩
        refine (CallsIn.inRound _ (callsIn_wide.2 (with_any 9000 T (prm n k) A' n c' WB (HTT.out ▸ HT.out) HPB.out.rd (by omega) (by omega) (by omega) HPO.out))).mono ?_; rintro e w6 ⟨rfl, b6⟩
        have HB6 := Lib.hid b6
        clear b6
        gi_wp2_with fail
        refine ⟨trivial, ?_⟩
        refine (CallsIn.inRound _ (callsIn_wide.2 (differences_any n (wAll (prm n k) T) w6 (by omega) HWT.out HW0.out))).mono ?_; rintro e w7 ⟨rfl, b7⟩
        rw [HDT.out]
        have HB7 := Lib.hid (HB6.out.trans (b7.mono HB6.out.size))
        clear b7 HB6
        obtain ⟨⟨fa, fb⟩, hf⟩ : ∃ f, addF n L (prm n k) = f := ⟨_, rfl⟩
        rw [hf]
        unfold turnStep at HSU
        rw [hf] at HSU
        have hs0 : k = 0 ↔ (turnTo n L k).1 = [] := by
          constructor
          · rintro rfl; rfl
          · intro e
            rcases Nat.eq_zero_or_pos k with h0 | h0
            · exact h0
            · obtain ⟨p, hp, e2, _⟩ := HTB.out k h0 (by omega)
              rw [e2] at e
              have := okOrd_len (HPF.out.ok p (by omega))
              rw [show prm n p = [] from e] at this
              simp at this; omega
        obtain ⟨⟨sl, sp, sn⟩, hs⟩ : ∃ s, turnTo n L k = s := ⟨_, rfl⟩
        rw [hs] at HXB HOB HLB HSU hs0
        simp only at HXB HOB HLB HSU hs0 ⊢
        have HSO := Lib.hid hs0
        clear hs hf hs0 HDT HWT HW0
        gi_upto_region 12 with fail
        have hxd := Blk.new w7 112 #[.int .i64 fa, .int .i64 fb]
        have hb8 := HB7.out.alloc HB7.out.size (.cells #[.int .i64 fa, .int .i64 fb] 112)
        have hpz : WB.heap.size ≤ w7.heap.size := HB7.out.size
        obtain ⟨z, hz⟩ : ∃ z, w7.heap.size = z := ⟨_, rfl⟩
        rw [hz] at hxd hpz ⊢
        have HXD := Lib.hid hxd
        have HB8 := Lib.hid hb8
        generalize w7.alloc (.cells #[.int .i64 fa, .int .i64 fb] 112) = W5 at HXD HB8 ⊢
        clear hxd hb8 HB7 hz
        have HX5 : Hid (Blk W5 (g + 1) _ _) := Lib.hid (HXB.out.below HB8.out)
        have HL5 : Hid (Blk W5 (g + 1 + 1) _ _) := Lib.hid (HLB.out.below HB8.out)
        have HO5 := Lib.hid (HOB.out.below HB8.out)
        have HP5 := Lib.hid (HPB.out.below HB8.out)
        have c1 : W5.cell? ⟨g + 1, 0, none⟩ = some (.slice Ab sl.length cb) := by rw [HX5.out.cell]; rfl
        have c2 : W5.cell? ⟨g + 1 + 1, 0, none⟩ = some (.int .i64 sp) := by rw [HL5.out.cell]; rfl
        have c3 : W5.cell? ⟨g + 1 + 1, 1, none⟩ = some (.int .i64 sn) := by rw [HL5.out.cell]; rfl
        have c4 : W5.cell? ⟨z, 0, none⟩ = some (.int .i64 fa) := by rw [HXD.out.cell]; rfl
        have c5 : W5.cell? ⟨z, 1, none⟩ = some (.int .i64 fb) := by rw [HXD.out.cell]; rfl
        have f1 := HX5.out.frozen 0
        have f2 := HL5.out.frozen 0
        have f3 := HL5.out.frozen 1
        have hmx : Try.prog.follows .mixedOrders = true := by kernel_rfl
        have hq : ∀ (w : World) (a : Option Addr) (n c n' c' : Nat), (binOp .eql 22 (.slice a n c) (.slice none n' c')).run Try.prog w = .ok (.bool a.isNone) w := fun w a n c n' c' => Lib.run_eql_slice_nil w _ _ a n c n' c' Try.underlying22
        have hfn : Fence.wide.fn 112 := trivial
        have HA9 : Hid (A'.isNone = false) := Lib.hid (by
          obtain ⟨g9, e9, _⟩ := HP5.out.form (by omega)
          rw [e9]; rfl)
        have HW1 : Hid (w1.heap.size ≤ WB.heap.size) := Lib.hid HBB.out.size
        have HYES : Hid (sl = [] ∨ ltD (fa, fb) (sp, sn) → ∃ W7, (Instr.endRound (g + 4 + 1) none).run Try.prog (((W5.setCell ⟨g + 1, 0, none⟩ (.slice A' n c')).setCell ⟨g + 1 + 1, 0, none⟩ (.int .i64 fa)).setCell ⟨g + 1 + 1, 1, none⟩ (.int .i64 fb)).drew.drew = .ok (.bool true) W7 ∧ TuJ w1 g _ n L (k + 1) W7 ∧ W7.heap[g + 6]? = W1.heap[g + 6]?) := Lib.hid (by
          intro hy
          have hAb : ∀ b, A'.map (·.block) = some b → g + 7 ≤ b := fun b e => (HP5.out.1.block e).1
          refine HEND.out _ (prm n k, fa, fb) A' c' ?_ ?_ ?_ HA9.out (by rw [HSU.out, if_pos hy]) ?_ ?_ ?_
          · rw [show ((prm n k, fa, fb) : List Int × Int × Int).1.length = n from HPL.out]
            exact ((((HX5.out.set_ 0 (.slice A' n c')).far (p := ⟨g + 1 + 1, 0, none⟩) (by show g + 1 ≠ g + 1 + 1; omega) _).far (p := ⟨g + 1 + 1, 1, none⟩) (by show g + 1 ≠ g + 1 + 1; omega) _).drew).drew
          · exact ((((HL5.out.far (p := ⟨g + 1, 0, none⟩) (by show g + 1 + 1 ≠ g + 1; omega) _).set_ 0 (.int .i64 fa)).set_ 1 (.int .i64 fb)).drew).drew
          · rw [show ((prm n k, fa, fb) : List Int × Int × Int).1.length = n from HPL.out]
            exact ((((HP5.out.far (p := ⟨g + 1, 0, none⟩) (fun e => by have h9 : g + 7 ≤ g + 1 := hAb _ e; omega) _).far (p := ⟨g + 1 + 1, 0, none⟩) (fun e => by have h9 : g + 7 ≤ g + 1 + 1 := hAb _ e; omega) _).far (p := ⟨g + 1 + 1, 1, none⟩) (fun e => by have h9 : g + 7 ≤ g + 1 + 1 := hAb _ e; omega) _).drew).drew
          · intro b hb hb1 hb2
            exact (Below.heap_setCell _ _ _ _ (by simpa using hb2)).trans ((Below.heap_setCell _ _ _ _ (by simpa using hb2)).trans ((Below.heap_setCell _ _ _ _ (by simpa using hb1)).trans (HB8.out.block b hb)))
          · have := HB8.out.size
            simpa [World.setCell] using this
          · have hge9 := HW1.out
            exact (((((HB8.out.mono HW1.out).setCell (p := ⟨g + 1, 0, none⟩) (by show w1.heap.size ≤ g + 1; omega) _).setCell (p := ⟨g + 1 + 1, 0, none⟩) (by show w1.heap.size ≤ g + 1 + 1; omega) _).setCell (p := ⟨g + 1 + 1, 1, none⟩) (by show w1.heap.size ≤ g + 1 + 1; omega) _).drew).drew)
        have HNO : Hid (¬(sl = [] ∨ ltD (fa, fb) (sp, sn)) → ∃ W7, (Instr.endRound (g + 4 + 1) none).run Try.prog W5.drew = .ok (.bool true) W7 ∧ TuJ w1 g _ n L (k + 1) W7 ∧ W7.heap[g + 6]? = W1.heap[g + 6]?) := Lib.hid (by
          intro hy
          have hk0 : k ≠ 0 := fun e => hy (.inl (HSO.out.1 e))
          exact HEND.out _ (sl, sp, sn) Ab cb HX5.out.drew HL5.out.drew HO5.out.drew (by rw [hnn]; exact decide_eq_false hk0) (by rw [HSU.out, if_neg hy]) (fun b hb _ _ => HB8.out.block b hb) HB8.out.size (HB8.out.mono HW1.out).drew)
        by_cases hk0 : k = 0
        · have gN : Ab.isNone = true := by rw [hnn, hk0]; rfl
          have HE7 := Lib.hid (HYES.out (.inl (HSO.out.1 hk0)))
          clear hnn hk0 HYES HNO HEND
          gi_region
          all_goals
            gi_wp2_with fail
            gi_region_with_o (fail)
            all_goals
              gi_wp2
              obtain ⟨W7, e1, e2⟩ := HE7.out
              exact ⟨_, _, e1, rfl, e2⟩
        · have gN : Ab.isNone = false := by rw [hnn]; exact decide_eq_false hk0
          have HCP := Lib.hid (compare2_any z (g + 1 + 1) 2 2 (fa, fb) (sp, sn) W5.drew HXD.out.drew HL5.out.drew)
          have HLT := Lib.hid (cmp2_lt (fa, fb) (sp, sn))
          generalize cmp2 (fa, fb) (sp, sn) = y at HCP HLT
          by_cases hy : y < 0
          · have HE7 := Lib.hid (HYES.out (.inr (HLT.out.1 hy)))
            clear hnn hk0 HYES HNO HEND
            gi_region_with_o (gi_at_call 112; refine (CallsIn.inRound _ (callsIn_wide.2 HCP.out)).mono ?_; rintro e w' ⟨rfl, rfl⟩)
            all_goals
              gi_wp2_with fail
              gi_region_with_o (fail)
              all_goals
                gi_wp2
                obtain ⟨W7, e1, e2⟩ := HE7.out
                exact ⟨_, _, e1, rfl, e2⟩
          · have HE7 := Lib.hid (HNO.out (fun h => by
              rcases h with h | h
              · exact hk0 (HSO.out.2 h)
              · exact hy (HLT.out.2 h)))
            have hy2 : 0 ≤ y := by omega
            clear hnn hk0 HYES HNO HEND hy
            gi_region_with_o (gi_at_call 112; refine (CallsIn.inRound _ (callsIn_wide.2 HCP.out)).mono ?_; rintro e w' ⟨rfl, rfl⟩)
            all_goals
              gi_wp2
              obtain ⟨W7, e1, e2⟩ := HE7.out
              exact ⟨_, _, e1, rfl, e2⟩
      · rintro e W2 ⟨⟨v, rfl⟩, hj⟩
        have hel := run_endLoop (P := Try.prog) hj.lp (by rw [hst]; simp)
        rw [hpe] at hel
        obtain ⟨Ab, cb, hxo, hown, hnn⟩ := hj.best
        have hle := hj.le
        obtain ⟨W4, hW4⟩ : ∃ W4, W4 = W2.putObj (g + 4 + 1) (.loop { rec with state := .exhausted, pending := none }) := ⟨_, rfl⟩
        rw [← hW4] at hel
        have hg4 : W2.grownBy W4 (some (g + 4 + 1)) := by rw [hW4]; exact grownBy_putObj' _ _ _
        have hd4 : W4.heap[g + 4]? = some (.deferred (some [])) := by rw [hW4]; exact (World.putObj_heap_other (by omega)).trans hj.df
        have hx4 := hxo.grown hg4 (fun e => by injection e with e; omega)
        have ho4 := hown.grown hg4 (ne_own hown (by omega))
        have hb4 : Below w1.heap.size w1 W4 := hj.bel.grown hg4 (by have := hj.bel.size; omega) (fun b e => by injection e with e; omega)
        generalize (turnTo n L (cntP n)).1 = s at hx4 ho4 HV
        have HD4 := Lib.hid hd4
        have HO4 := Lib.hid ho4
        have HB4 := Lib.hid hb4
        have c4 : W4.cell? ⟨g + 1, 0, none⟩ = some (.slice Ab s.length cb) := by rw [hx4.cell]; rfl
        clear hg4 hd4 hx4 ho4 hb4 hxo hown hj hW4 HSJ
        refine ⟨none, W4, hel, ?_⟩
        clear hel
        gi_wp2
        have hg6 : W4.grownBy (W4.putObj (g + 4) (.deferred none)) (some (g + 4)) := grownBy_putObj' _ _ _
        have ho6 := HO4.out.grown hg6 (ne_own HO4.out (by omega))
        have hb6 : Below w1.heap.size w1 (W4.putObj (g + 4) (.deferred none)) := HB4.out.grown hg6 (by have := HB4.out.size; omega) (fun b e => by injection e with e; omega)
        refine ⟨by simp, .inl ⟨_, _, rfl, run_takeDeferred HD4.out, ?_⟩⟩
        refine ⟨.tuple #[.slice Ab s.length cb, .int .i64 0], by simp [results, Try.f65, go_sem], ?_⟩
        rw [HV.out]
        exact ⟨Ab, cb, rfl, ho6.mono (by omega), hb6⟩
  · have HV := Lib.hid (turnE_bad hz)
    have g : (ordE n L != 0) = true := by simpa using hz
    clear h hz hml
    go_enter Try.func65, Try.ntmps65
    go_wp2_with fail
    refine (checkO_any A m c L n w H0.out hn).mono ?_; rintro e w1 ⟨rfl, rfl⟩
    generalize ordE n L = z at HV g ⊢
    go_wp2
    go_ret2
    rw [HV.out]
    exact ⟨none, 0, rfl, OwnI.nil_ _ _ _, Below.refl _ _⟩
end Go.Proofs.Ytcmacejpoihhlaa
