/- Walk: the program's Next: the first that the iterator hands out. -/
import Derived.Test.YtooepkpgffpcjaaDoorIter
namespace Go.Proofs.YtooepkpgffpcjaaDoor
open Go.RowKit Go.Shelf
attribute [local go_sem] Oper.semAt_some

/-- a range over a function, outermost, at no fence: the iterator's call -/
theorem wpIn_range1 {P : Program} {g : Operand} {ps : Array Tmp} {assign body : Code} {Q : Exit → Act → World → Prop} {a : Act} {w : World} {gf : Nat} {lb : Array Value}
    (hg : a.eval g = Value.func (Fn.func gf) #[] lb) (eg : ∀ (args : Array Value) (w : World), (callFunc gf args).run P w = Result.ok (Next.enter gf args) w)
    (h : ∀ (fn : FuncId) (rec : Loop), rec = { state := .ready, pending := none, fn := fn, tmps := a.tmps, params := ps, assign := assign, body := body, defers := w.heap.size } →
      ∀ W1, W1 = (w.alloc (.deferred (some []))).alloc (.loop rec) → CallsIn Fence.wide (3 - 1) P gf (#[.func (.yield (w.heap.size + 1)) #[] #[]] ++ lb) W1 (rangePost Fence.wide 3 P (w.heap.size + 1) Q { a with defers := [{ target := .collected w.heap.size, args := #[] }] ++ a.defers })) :
    (Code.rangeFunc g ps assign body).wpIn Fence.wide 3 P Q a w := by
  refine wpIn_rangeFunc ?_
  intro fn _
  obtain ⟨W1, hW1⟩ : ∃ W1, W1 = (w.alloc (.deferred (some []))).alloc (.loop { state := .ready, pending := none, fn := fn, tmps := a.tmps, params := ps, assign := assign, body := body, defers := w.heap.size }) := ⟨_, rfl⟩
  have hc := h fn _ rfl W1 hW1
  refine ⟨w.heap.size + 1, [{ target := .collected w.heap.size, args := #[] }], W1, { target := .fn (.func gf) lb, args := #[.func (.yield (w.heap.size + 1)) #[] #[]] }, W1, gf, #[.func (.yield (w.heap.size + 1)) #[] #[]] ++ lb, W1, ?_, ?_, ?_, ?_, ?_, ?_⟩

  · rw [hW1]; exact run_enterLoop_outer _ _ _ _ _
  · simp only [resolve, hg]
    simp [go_sem]
  · intro f' _; trivial
  · simp [invoke, go_sem, eg]
  · intro _; omega
  · exact hc

set_option maxHeartbeats 1000000 in
set_option maxRecDepth 100000 in
theorem next_any (A : Option Addr) (n c : Nat) (l : List Int) (w : World) (h : RdI w A n l) : Calls Tryd.prog 47 #[.slice A n c] w (IntsErr (nextE l) w) := by
  by_cases h0 : chk l = 0
  · have HV : Hid (nextE l = match nextL l with | some q => (q, 0) | none => ([], 7)) := Lib.hid (by unfold nextE; rw [if_neg (by omega)]; rfl)
    have HK := Lib.hid h0
    clear h0
    refine (callsIn_wide (n := 3)).1 ?_
    refine callsIn_of_wp_marks Tryd.func47 rfl trivial ?_ rfl
    simp only [Tryd.ntmps47, List.size_toArray, List.length_cons, List.length_nil, Nat.reduceAdd, Nat.reduceSub, Array.replicate_succ, Array.replicate_zero, List.push_toArray, List.append_toArray, List.nil_append, List.cons_append]
    gi_wp2_with fail
    have hs0 : ((w.alloc (.cells #[.slice none 0 0] 22)).alloc (.cells #[.int .i64 0] 30)).heap.size = w.heap.size + 2 := by simp
    have hb0 : Below w.heap.size w ((w.alloc (.cells #[.slice none 0 0] 22)).alloc (.cells #[.int .i64 0] 30)) := ((Below.refl _ w).alloc (Nat.le_refl _) _).alloc (by simp) _
    have b2 : Blk ((w.alloc (.cells #[.slice none 0 0] 22)).alloc (.cells #[.int .i64 0] 30)) w.heap.size 22 #[.slice none 0 0] := (Blk.new w _ _).alloc _
    have b3 : Blk ((w.alloc (.cells #[.slice none 0 0] 22)).alloc (.cells #[.int .i64 0] 30)) (w.heap.size + 1) 30 #[.int .i64 0] := by
      have := Blk.new (w.alloc (.cells #[.slice none 0 0] 22)) 30 #[.int .i64 0]
      simpa using this
    have HA := Lib.hid (h.below hb0)
    have HS := Lib.hid hs0
    have HB0 := Lib.hid hb0
    have HB2 := Lib.hid b2
    have HB3 := Lib.hid b3
    clear hs0 hb0 b2 b3 h
    generalize (w.alloc (.cells #[.slice none 0 0] 22)).alloc (.cells #[.int .i64 0] 30) = W0 at HA HS HB0 HB2 HB3 ⊢
    refine ⟨trivial, ?_⟩
    refine (callsIn_wide.2 (check_any A n c l W0 HA.out)).mono ?_; rintro e w' ⟨rfl, rfl⟩
    rw [HK.out]
    gi_wp2_with fail
    refine ⟨trivial, ?_⟩
    refine (callsIn_wide.2 (after_any A n c W0)).mono ?_; rintro e w' ⟨rfl, rfl⟩
    have hs1 : (W0.alloc (.cells #[.slice A n c] 22)).heap.size = w.heap.size + 3 := by have := HS.out; simp; omega
    have hb1 := HB0.out.trans ((Below.refl _ W0).alloc HB0.out.size (.cells #[.slice A n c] 22))
    have hbox := Blk.new W0 22 #[.slice A n c]
    rw [HS.out] at hbox
    rw [HS.out]
    have HA1 := Lib.hid (HA.out.alloc (.cells #[.slice A n c] 22))
    have HB12 := Lib.hid (HB2.out.alloc (.cells #[.slice A n c] 22))
    have HB13 := Lib.hid (HB3.out.alloc (.cells #[.slice A n c] 22))
    have HS1 := Lib.hid hs1
    have HB1 := Lib.hid hb1
    have HBX := Lib.hid hbox
    clear hs1 hb1 hbox HA HB0 HB2 HB3 HS
    generalize W0.alloc (.cells #[.slice A n c] 22) = w1 at HA1 HB12 HB13 HS1 HB1 HBX ⊢
    gi_wp2_with fail
    refine wpIn_range1 (gf := 118) (lb := #[.pointer (some ⟨w.heap.size + 2, 0, none⟩)]) rfl (enters_of Tryd.func118 (by kernel_rfl) rfl) ?_
    intro fn rec hrec WL hWL
    have hst : rec.state = .ready := by rw [hrec]
    have hps : rec.params.size = 1 := by rw [hrec]; rfl
    have hsz : (w1.alloc (.deferred (some []))).heap.size = w1.heap.size + 1 := by simp
    have hbl : Below w1.heap.size w1 WL := by rw [hWL]; exact ((Below.refl _ w1).alloc (Nat.le_refl _) _).alloc (by simp) _
    have hD : WL.heap[w1.heap.size]? = some (.deferred (some [])) := by
      rw [hWL]; exact (Below.heap_alloc _ _ _ (by simp)).trans (World.alloc_heap_new w1 _)
    have hR : WL.heap[w1.heap.size + 1]? = some (.loop rec) := by
      rw [hWL]; have := World.alloc_heap_new (w1.alloc (.deferred (some []))) (.loop rec); rwa [hsz] at this
    have hLS : WL.heap.size = w.heap.size + 5 := by rw [hWL]; have := HS1.out; simp; omega
    have HBL := Lib.hid hbl
    have HD := Lib.hid hD
    have HR := Lib.hid hR
    have HLS := Lib.hid hLS
    have HAL := Lib.hid (HA1.out.below hbl)
    have HXL := Lib.hid (HBX.out.below hbl)
    have H2L := Lib.hid (HB12.out.below hbl)
    have H3L := Lib.hid (HB13.out.below hbl)
    have HBW := Lib.hid (HB1.out.trans (hbl.mono HB1.out.size))
    have hDs : w1.heap.size = w.heap.size + 3 := HS1.out
    rw [hDs] at HD HR ⊢
    have HREC := Lib.hid hrec
    have hbox : WL.cell? ⟨w.heap.size + 2, 0, none⟩ = some (.slice A n c) := by rw [HXL.out.cell]; rfl
    clear hsz hbl hD hR hLS hWL hrec HBL HXL HB12 HB13 HA1 HB1 HBX HS1 hDs
    refine (iter_any (w.heap.size + 3 + 1) (fun A' c' q W' => W'.heap[w.heap.size + 3 + 1]? = some (.loop { rec with state := .done, pending := some .ret }) ∧ W'.heap[w.heap.size + 3]? = some (.deferred (some [])) ∧
        Blk W' w.heap.size 22 #[.slice A' n c'] ∧ Blk W' (w.heap.size + 1) 30 #[.int .i64 0] ∧ OwnI W' w.heap.size 3 A' n c' q ∧ Below w.heap.size w W' ∧ ∀ b, A'.map (·.block) = some b → w.heap.size + 5 ≤ b) (w.heap.size + 2) A n c l WL hbox HAL.out HK.out ?_).mono ?_
    · intro A' c' q W2 hb hq ho
      have hl : W2.heap[w.heap.size + 3 + 1]? = some (.loop rec) := (hb.block _ (by have := HLS.out; omega)).trans HR.out
      have hd : W2.heap[w.heap.size + 3]? = some (.deferred (some [])) := (hb.block _ (by have := HLS.out; omega)).trans HD.out
      have hy := run_yield (P := Tryd.prog) (args := #[.slice A' n c']) hl (by rw [hps]; rfl)
      refine ⟨_, _, _, _, hy, roundIn_of_wpIn trivial ?_⟩
      have hlt : w.heap.size + 3 + 1 < W2.heap.size := (Array.getElem?_eq_some_iff.1 hl).1
      have hbr := run_beginRound (P := Tryd.prog) hl hst
      obtain ⟨WB, hWB⟩ : ∃ WB, WB = W2.putObj (w.heap.size + 3 + 1) (.loop { rec with state := .busy }) := ⟨_, rfl⟩
      have hgB : W2.grownBy WB (some (w.heap.size + 3 + 1)) := by rw [hWB]; exact grownBy_putObj' _ _ _
      have hlB : WB.heap[w.heap.size + 3 + 1]? = some (.loop { rec with state := .busy }) := by rw [hWB]; exact World.putObj_heap_same hlt
      have hdB : WB.heap[w.heap.size + 3]? = some (.deferred (some [])) := by rw [hWB]; exact (World.putObj_heap_other (by omega)).trans hd
      have H2B : Hid (Blk WB w.heap.size 22 #[.slice none 0 0]) := Lib.hid ((H2L.out.below hb).grown hgB (fun e => by injection e with e; omega))
      have H3B : Hid (Blk WB (w.heap.size + 1) 30 #[.int .i64 0]) := Lib.hid ((H3L.out.below hb).grown hgB (fun e => by injection e with e; omega))
      have HOB : Hid (OwnI WB w.heap.size 3 A' n c' q) := Lib.hid ((ho.grown hgB (by
        cases e : A'.map (·.block) with
        | none => exact .inl rfl
        | some b => exact .inr (fun e2 => by injection e2 with e2; have := (ho.1.block e).1; have := HLS.out; omega))).mono (by have := HLS.out; omega))
      have HBB : Hid (Below w.heap.size w WB) := Lib.hid ((HBW.out.trans (hb.mono HBW.out.size)).grown hgB (by have := HBW.out.size; have := hb.size; omega) (fun b e => by injection e with e; omega))
      have HAO : Hid (∀ b, A'.map (·.block) = some b → w.heap.size + 5 ≤ b) := Lib.hid fun b hb' => by have := (ho.1.block hb').1; have := HLS.out; omega
      rw [← hWB] at hbr
      have c2 : WB.cell? ⟨w.heap.size, 0, none⟩ = some (.slice none 0 0) := by rw [H2B.out.cell]; rfl
      have c3 : WB.cell? ⟨w.heap.size + 1, 0, none⟩ = some (.int .i64 0) := by rw [H3B.out.cell]; rfl
      have f2 := H2B.out.frozen 0
      have f3 := H3B.out.frozen 0
      have HLB := Lib.hid hlB
      have HDB := Lib.hid hdB
      clear hlB hdB hWB hgB hl hd hy hb hq ho hlt
      obtain ⟨W3, hW3⟩ : ∃ W3, W3 = (WB.setCell ⟨w.heap.size, 0, none⟩ (.slice A' n c')).setCell ⟨w.heap.size + 1, 0, none⟩ (.int .i64 0) := ⟨_, rfl⟩
      have hk3 : KeepsOthers WB W3 := by rw [hW3]; exact (KeepsOthers.setCell _ _ _).trans (KeepsOthers.setCell _ _ _)
      have hl3 := hk3.same _ _ HLB.out rfl
      have hd3 := hk3.same _ _ HDB.out rfl
      have hlt3 := (Array.getElem?_eq_some_iff.1 hl3).1
      have h23 : Blk W3 w.heap.size 22 #[.slice A' n c'] := by rw [hW3]; exact (H2B.out.set_ 0 (.slice A' n c')).far (p := ⟨w.heap.size + 1, 0, none⟩) (by simp) _
      have h33 : Blk W3 (w.heap.size + 1) 30 #[.int .i64 0] := by rw [hW3]; exact (H3B.out.far (p := ⟨w.heap.size, 0, none⟩) (by simp) _).set_ 0 (.int .i64 0)
      have ho3 : OwnI W3 w.heap.size 3 A' n c' q := by
        rw [hW3]
        exact (HOB.out.far (p := ⟨w.heap.size, 0, none⟩) (fun e => by have h9 : w.heap.size + 5 ≤ w.heap.size := HAO.out _ e; omega) _).far (p := ⟨w.heap.size + 1, 0, none⟩) (fun e => by have h9 : w.heap.size + 5 ≤ w.heap.size + 1 := HAO.out _ e; omega) _
      have hb3 : Below w.heap.size w W3 := by rw [hW3]; exact (HBB.out.setCell (p := ⟨w.heap.size, 0, none⟩) (Nat.le_refl _) _).setCell (p := ⟨w.heap.size + 1, 0, none⟩) (by simp) _
      have HL3 := Lib.hid hl3
      have HF := Lib.hid (And.intro (And.intro hd3 hlt3) (And.intro (And.intro h23 h33) (And.intro ho3 hb3)))
      clear hl3 hd3 hlt3 h23 h33 ho3 hb3 hk3
      have e := HREC.out
      subst e
      gi_wp2
      refine ⟨WB, hbr, ?_⟩
      gi_wp2
      rw [← hW3]
      obtain ⟨⟨hd3, hlt3⟩, ⟨h23, h33⟩, ho3, hb3⟩ := HF.out
      have hsz3 := hb3.size
      have hg3 := fun o' => grownBy_putObj' W3 (w.heap.size + 3 + 1) o'
      refine ⟨_, _, run_endRound (some .ret) HL3.out, rfl, World.putObj_heap_same hlt3, (World.putObj_heap_other (by omega)).trans hd3, h23.grown (hg3 _) (fun e => by injection e with e; omega), h33.grown (hg3 _) (fun e => by injection e with e; omega), ?_, hb3.grown (hg3 _) (by omega) (fun b e => by injection e with e; omega), HAO.out⟩
      refine ho3.grown (hg3 _) ?_
      cases e : A'.map (·.block) with
      | none => exact .inl rfl
      | some b => exact .inr (fun e2 => by injection e2 with e2; have := HAO.out b e; omega)
    · rintro e W2 ⟨⟨v, rfl⟩, (⟨hq, hb⟩ | ⟨A', c', q, hq, hL, hDD, hb2, hb3, ho, hb, hao⟩)⟩
      · have hl : W2.heap[w.heap.size + 3 + 1]? = some (.loop rec) := (hb.block _ (by have := HLS.out; omega)).trans HR.out
        have hd : W2.heap[w.heap.size + 3]? = some (.deferred (some [])) := (hb.block _ (by have := HLS.out; omega)).trans HD.out
        have hel := run_endLoop (P := Tryd.prog) hl (by rw [hst]; simp)
        have hpe : rec.pending = none := by rw [HREC.out]
        rw [hpe] at hel
        obtain ⟨W4, hW4⟩ : ∃ W4, W4 = W2.putObj (w.heap.size + 3 + 1) (.loop { rec with state := .exhausted }) := ⟨_, rfl⟩
        rw [hpe] at hW4
        have hg4 : W2.grownBy W4 (some (w.heap.size + 3 + 1)) := by rw [hW4]; exact grownBy_putObj' _ _ _
        have hd4 : W4.heap[w.heap.size + 3]? = some (.deferred (some [])) := by rw [hW4]; exact (World.putObj_heap_other (by omega)).trans hd
        have h24 : Blk W4 w.heap.size 22 #[.slice none 0 0] := (H2L.out.below hb).grown hg4 (fun e => by injection e with e; omega)
        have h34 : Blk W4 (w.heap.size + 1) 30 #[.int .i64 0] := (H3L.out.below hb).grown hg4 (fun e => by injection e with e; omega)
        have hb4 : Below w.heap.size w W4 := (HBW.out.trans (hb.mono HBW.out.size)).grown hg4 (by have := HBW.out.size; have := hb.size; omega) (fun b e => by injection e with e; omega)
        rw [← hW4] at hel
        have c2 : W4.cell? ⟨w.heap.size, 0, none⟩ = some (.slice none 0 0) := by rw [h24.cell]; rfl
        have c3 : W4.cell? ⟨w.heap.size + 1, 0, none⟩ = some (.int .i64 0) := by rw [h34.cell]; rfl
        have f2 := h24.frozen 0
        have f3 := h34.frozen 0
        obtain ⟨W5, hW5⟩ : ∃ W5, W5 = (W4.setCell ⟨w.heap.size, 0, none⟩ (.slice none 0 0)).setCell ⟨w.heap.size + 1, 0, none⟩ (.int .i64 7) := ⟨_, rfl⟩
        have hk5 : KeepsOthers W4 W5 := by rw [hW5]; exact (KeepsOthers.setCell _ _ _).trans (KeepsOthers.setCell _ _ _)
        have hd5 := hk5.same _ _ hd4 rfl
        have h25 : Blk W5 w.heap.size 22 #[.slice none 0 0] := by rw [hW5]; exact (h24.set_ 0 (.slice none 0 0)).far (p := ⟨w.heap.size + 1, 0, none⟩) (by simp) _
        have h35 : Blk W5 (w.heap.size + 1) 30 #[.int .i64 7] := by rw [hW5]; exact (h34.far (p := ⟨w.heap.size, 0, none⟩) (by simp) _).set_ 0 (.int .i64 7)
        have hb5 : Below w.heap.size w W5 := by rw [hW5]; exact (hb4.setCell (p := ⟨w.heap.size, 0, none⟩) (Nat.le_refl _) _).setCell (p := ⟨w.heap.size + 1, 0, none⟩) (by simp) _
        have hg6 := grownBy_putObj' W5 (w.heap.size + 3) (.deferred none)
        have h26 := h25.grown hg6 (fun e => by injection e with e; omega)
        have h36 := h35.grown hg6 (fun e => by injection e with e; omega)
        have hb6 : Below w.heap.size w (W5.putObj (w.heap.size + 3) (.deferred none)) := hb5.grown hg6 (by have := hb5.size; omega) (fun b e => by injection e with e; omega)
        have c26 : (W5.putObj (w.heap.size + 3) (.deferred none)).cell? ⟨w.heap.size, 0, none⟩ = some (.slice none 0 0) := by rw [h26.cell]; rfl
        have c36 : (W5.putObj (w.heap.size + 3) (.deferred none)).cell? ⟨w.heap.size + 1, 0, none⟩ = some (.int .i64 7) := by rw [h36.cell]; rfl
        have HF := Lib.hid (And.intro hd5 (And.intro hb6 (And.intro c26 c36)))
        rw [hq] at HV
        clear h24 h34 hb4 hg4 hd4 hW4 hk5 hd5 h25 h35 hb5 hg6 h26 h36 hb6 c26 c36 hl hd hb hq
        refine ⟨none, W4, hel, ?_⟩
        gi_wp2
        rw [← hW5]
        obtain ⟨hd5, hb6, c26, c36⟩ := HF.out
        refine ⟨by simp, .inl ⟨_, _, rfl, run_takeDeferred hd5, ?_⟩⟩
        refine ⟨.tuple #[.slice none 0 0, .int .i64 7], by simp [results, Tryd.f47, go_sem, c26, c36], ?_⟩
        rw [HV.out]
        exact ⟨none, 0, rfl, OwnI.nil_ _ _ _, hb6⟩
      · have hel := run_endLoop (P := Tryd.prog) hL (by simp)
        obtain ⟨W4, hW4⟩ : ∃ W4, W4 = W2.putObj (w.heap.size + 3 + 1) (.loop { rec with state := .exhausted, pending := some .ret }) := ⟨_, rfl⟩
        have hg4 : W2.grownBy W4 (some (w.heap.size + 3 + 1)) := by rw [hW4]; exact grownBy_putObj' _ _ _
        have hd4 : W4.heap[w.heap.size + 3]? = some (.deferred (some [])) := by rw [hW4]; exact (World.putObj_heap_other (by omega)).trans hDD
        have h24 := hb2.grown hg4 (fun e => by injection e with e; omega)
        have h34 := hb3.grown hg4 (fun e => by injection e with e; omega)
        have hne : ∀ r, r < w.heap.size + 5 → A'.map (·.block) = none ∨ A'.map (·.block) ≠ some r := fun r hr => by
          cases e : A'.map (·.block) with
          | none => exact .inl rfl
          | some b => exact .inr (fun e2 => by injection e2 with e2; have := hao b e; omega)
        have ho4 := ho.grown hg4 (hne _ (by omega))
        have hsz2 := hb.size
        have hb4 : Below w.heap.size w W4 := hb.grown hg4 (by omega) (fun b e => by injection e with e; omega)
        have hg6 := grownBy_putObj' W4 (w.heap.size + 3) (.deferred none)
        have h26 := h24.grown hg6 (fun e => by injection e with e; omega)
        have h36 := h34.grown hg6 (fun e => by injection e with e; omega)
        have ho6 := ho4.grown hg6 (hne _ (by omega))
        have hsz4 := hb4.size
        have hb6 : Below w.heap.size w (W4.putObj (w.heap.size + 3) (.deferred none)) := hb4.grown hg6 (by omega) (fun b e => by injection e with e; omega)
        have c26 : (W4.putObj (w.heap.size + 3) (.deferred none)).cell? ⟨w.heap.size, 0, none⟩ = some (.slice A' n c') := by rw [h26.cell]; rfl
        have c36 : (W4.putObj (w.heap.size + 3) (.deferred none)).cell? ⟨w.heap.size + 1, 0, none⟩ = some (.int .i64 0) := by rw [h36.cell]; rfl
        have hlq : q.length = n := ho.len
        refine ⟨some .ret, W4, by rw [hW4]; exact hel, ?_⟩
        rw [hq] at HV
        have HF := Lib.hid (And.intro hd4 (And.intro hb6 (And.intro c26 (And.intro c36 ho6))))
        clear h24 h34 hg4 hd4 hW4 hg6 h26 h36 hb6 c26 c36 hb ho ho4 ho6 hb2 hb3 hb4 hel hL hDD hne
        gi_wp2
        obtain ⟨hd4, hb6, c26, c36, ho6⟩ := HF.out
        refine ⟨by simp, .inl ⟨_, _, rfl, run_takeDeferred hd4, ?_⟩⟩
        refine ⟨.tuple #[.slice A' n c', .int .i64 0], by simp [results, Tryd.f47, go_sem, c26, c36], ?_⟩
        rw [HV.out]
        exact ⟨A', c', by simp only [hlq], by simp only [hlq]; exact ho6, hb6⟩
  · have HV : Hid (nextE l = ([], chk l)) := Lib.hid (by unfold nextE; rw [if_pos h0])
    have hb0 : Below w.heap.size w ((w.alloc (.cells #[.slice none 0 0] 22)).alloc (.cells #[.int .i64 0] 30)) := ((Below.refl _ w).alloc (Nat.le_refl _) _).alloc (by simp) _
    have HC := Lib.hid (check_any A n c l _ (h.below hb0))
    generalize chk l = z at HC h0 HV
    have g1 : (z == 0) = false := by simpa using h0
    have g2 : (z != 0) = true := by simpa using h0
    clear h0 hb0
    go_enter Tryd.func47, Tryd.ntmps47
    go_wp2_with fail
    refine HC.out.mono ?_; rintro e w' ⟨rfl, rfl⟩
    go_wp2
    have h2 : Blk ((w.alloc (.cells #[.slice none 0 0] 22)).alloc (.cells #[.int .i64 z] 30)) w.heap.size 22 #[.slice none 0 0] := (Blk.new w _ _).alloc _
    have h3 : Blk ((w.alloc (.cells #[.slice none 0 0] 22)).alloc (.cells #[.int .i64 z] 30)) (w.heap.size + 1) 30 #[.int .i64 z] := by
      have := Blk.new (w.alloc (.cells #[.slice none 0 0] 22)) 30 #[.int .i64 z]
      simpa using this
    have c2 : ((w.alloc (.cells #[.slice none 0 0] 22)).alloc (.cells #[.int .i64 z] 30)).cell? ⟨w.heap.size, 0, none⟩ = some (.slice none 0 0) := by rw [h2.cell]; rfl
    have c3 : ((w.alloc (.cells #[.slice none 0 0] 22)).alloc (.cells #[.int .i64 z] 30)).cell? ⟨w.heap.size + 1, 0, none⟩ = some (.int .i64 z) := by rw [h3.cell]; rfl
    refine bodyPost_ret (v := .tuple #[.slice none 0 0, .int .i64 z]) (by simp [results, Tryd.f47, go_sem, c2, c3]) rfl ?_
    rw [HV.out]
    exact ⟨none, 0, rfl, OwnI.nil_ _ _ _, ((Below.refl _ w).alloc (Nat.le_refl _) _).alloc (by simp) _⟩
end Go.Proofs.YtooepkpgffpcjaaDoor
