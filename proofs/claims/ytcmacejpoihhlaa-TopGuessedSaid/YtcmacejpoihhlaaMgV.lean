/- Walks: marks an answer; an example of marks. An example of marks. Walk: an example of marks. Walk: the statement TopGuessed. -/
import Derived.Test.YtcmacejpoihhlaaMgT
import Derived.Laws.ResultCell
import Derived.Test.YtcmacejpoihhlaaMgU
namespace Go.Proofs.Ytcmacejpoihhlaa
open Go.RowKit

theorem results_row_tmp {P : Program} {fn : Func} {p u : Tmp} {ty : TypeId} (h : fn.results = #[.cell p ty, .tmp u]) (tmps : Array Value) (w : World) (g : Nat) (t : TypeId) (cs : Array Value) (fr : Nat × Nat) (d : TypeDesc)
    (hp : tmps.getD p undef = .pointer (some ⟨g, 0, none⟩)) (hg : w.heap[g]? = some (.cells cs t fr))
    (hu : P.underlying ty = some d) (hd : (match d with | .struct _ | .array _ _ => true | _ => false) = true) (hi : (P.info? ty).map (·.size) = some cs.size) :
    (results fn tmps).run P w = .ok (.tuple #[.agg cs, tmps.getD u undef]) w := by
  rw [results_cell_tmp h, hp]
  simp only [asAddr, Sem.run_pure, Result.andThen_ok, run_loadVar_row w g t ty cs fr d hg hu hd hi]

def Marked (v : Value) (w : World) (e : Ending) (w' : World) : Prop := e = .returned (.tuple #[v, .int .i64 0]) ∧ Below w.heap.size w w'

set_option maxHeartbeats 4000000 in
set_option maxRecDepth 100000 in
theorem markP_any (s : Scoring) (K A B : Option Addr) (kn kc n c d : Nat) (t a : List Int) (w : World) (hk : RdI w K kn s.keys) (hkc : kn ≤ kc) (h1 : RdI w A n t) (h2 : RdI w B n a) (ht : chk t = 0) (ha : ∀ v ∈ a, 0 ≤ v ∧ v ≤ 8) (hs : s.ok) :
    Calls Try.prog 73 #[.agg (scCells s K kn kc), .slice A n c, .slice B n d] w (Marked (markV s t a) w) := by
  have hn9 : n ≤ 9 := by have := (chk_ok ht).2.1; have := h1.len; omega
  have HTK := Lib.hid ht
  have HA8 := Lib.hid ha
  have HSO := Lib.hid hs
  have HX := Lib.hid ((Blk.new w 79 (scCells s K kn kc)).alloc (.cells (mkA ⟨0, 0, 0, 0, 0, true⟩) 82))
  have HO0 := Blk.new (w.alloc (.cells (scCells s K kn kc) 79)) 82 (mkA ⟨0, 0, 0, 0, 0, true⟩)
  rw [show (w.alloc (.cells (scCells s K kn kc) 79)).heap.size = w.heap.size + 1 by simp] at HO0
  have HO := Lib.hid HO0
  have HK := Lib.hid ((hk.alloc (.cells (scCells s K kn kc) 79)).alloc (.cells (mkA ⟨0, 0, 0, 0, 0, true⟩) 82))
  have HA := Lib.hid ((h1.alloc (.cells (scCells s K kn kc) 79)).alloc (.cells (mkA ⟨0, 0, 0, 0, 0, true⟩) 82))
  have HB := Lib.hid ((h2.alloc (.cells (scCells s K kn kc) 79)).alloc (.cells (mkA ⟨0, 0, 0, 0, 0, true⟩) 82))
  have HBE := Lib.hid (((Below.refl _ w).alloc (Nat.le_refl _) (.cells (scCells s K kn kc) 79)).alloc (by simp) (.cells (mkA ⟨0, 0, 0, 0, 0, true⟩) 82))
  have HCK : Hid (∀ W, RdI W K kn s.keys → Calls Try.prog 113 #[.agg #[.int .i64 s.p1, .int .i64 s.p2, .int .i64 s.p3, .int .i64 s.p4, .int .i64 s.p5, .slice K kn kc]] W (NumM 0 W)) := Lib.hid (fun W h => checkSc_any s K kn kc W h hs hkc)
  have HMK : Hid (∀ W, RdI W A n t → RdI W B n a → Calls Try.prog 115 #[.agg #[.int .i64 s.p1, .int .i64 s.p2, .int .i64 s.p3, .int .i64 s.p4, .int .i64 s.p5, .slice K kn kc], .agg #[.slice A n c, .slice B n d]] W fun e w' => e = .returned (markV s t a) ∧ Below W.heap.size W w') := Lib.hid (fun W h h' => markS_any s K A B kn kc n c d t a W h h' ht ha hs)
  obtain ⟨v0, v1, v2, v3, v4, v5, v6, v7, hv⟩ : ∃ v0 v1 v2 v3 v4 v5 v6 v7, markV s t a = .agg #[.int .i64 v0, .int .i64 v1, .int .i64 v2, .int .i64 v3, .int .i64 v4, .int .i64 v5, .int .i64 v6, .int .i64 v7] := ⟨_, _, _, _, _, _, _, _, rfl⟩
  rw [hv] at HMK ⊢
  simp only [scCells, mkA] at HX HO HK HA HB HBE
  unfold scCells
  clear hk h1 h2 ht ha hs HO0 hv
  go_enter Try.func73, Try.ntmps73
  go_upto_region 1 with fail
  obtain ⟨W, hW⟩ : ∃ W, (w.alloc (.cells #[.int .i64 s.p1, .int .i64 s.p2, .int .i64 s.p3, .int .i64 s.p4, .int .i64 s.p5, .slice K kn kc] 79)).alloc (.cells #[.int .i64 0, .int .i64 0, .int .i64 0, .int .i64 0, .int .i64 0, .int .i64 0, .int .i64 0, .int .i64 0] 82) = W := ⟨_, rfl⟩
  rw [hW] at HX HO HK HA HB HBE ⊢
  clear hW
  obtain ⟨q, hq⟩ : ∃ q, w.heap.size = q := ⟨_, rfl⟩
  rw [hq] at HX HO HBE ⊢
  have HQ := Lib.hid hq
  clear hq
  have c0 : W.cell? ⟨q, 0, none⟩ = some (.int .i64 s.p1) := by rw [HX.out.cell]; rfl
  have c1 : W.cell? ⟨q, 1, none⟩ = some (.int .i64 s.p2) := by rw [HX.out.cell]; rfl
  have c2 : W.cell? ⟨q, 2, none⟩ = some (.int .i64 s.p3) := by rw [HX.out.cell]; rfl
  have c3 : W.cell? ⟨q, 3, none⟩ = some (.int .i64 s.p4) := by rw [HX.out.cell]; rfl
  have c4 : W.cell? ⟨q, 4, none⟩ = some (.int .i64 s.p5) := by rw [HX.out.cell]; rfl
  have c5 : W.cell? ⟨q, 5, none⟩ = some (.slice K kn kc) := by rw [HX.out.cell]; rfl
  go_wp2_with fail
  refine (HCK.out W HK.out).mono ?_; rintro e w2 ⟨rfl, b2⟩
  have HX2 := Lib.hid (HX.out.below b2)
  have HO2 := Lib.hid (HO.out.below b2)
  have HA2 := Lib.hid (HA.out.below b2)
  have HB2 := Lib.hid (HB.out.below b2)
  have HE2 := Lib.hid (HBE.out.trans (b2.mono (by have := HO.out.lt; omega)))
  clear b2 HX HO HK HA HB HBE HCK c0 c1 c2 c3 c4 c5
  have HCH := Lib.hid (check_any A n c t w2 HA2.out)
  rw [HTK.out] at HCH
  go_wp2_with fail
  refine HCH.out.mono ?_; rintro e w' ⟨rfl, rfl⟩
  go_wp2_with fail
  refine (writtenS_any B n d a _ HB2.out (by omega) HA8.out).mono ?_; rintro e w' ⟨rfl, rfl⟩
  have c0 : w'.cell? ⟨q, 0, none⟩ = some (.int .i64 s.p1) := by rw [HX2.out.cell]; rfl
  have c1 : w'.cell? ⟨q, 1, none⟩ = some (.int .i64 s.p2) := by rw [HX2.out.cell]; rfl
  have c2 : w'.cell? ⟨q, 2, none⟩ = some (.int .i64 s.p3) := by rw [HX2.out.cell]; rfl
  have c3 : w'.cell? ⟨q, 3, none⟩ = some (.int .i64 s.p4) := by rw [HX2.out.cell]; rfl
  have c4 : w'.cell? ⟨q, 4, none⟩ = some (.int .i64 s.p5) := by rw [HX2.out.cell]; rfl
  have c5 : w'.cell? ⟨q, 5, none⟩ = some (.slice K kn kc) := by rw [HX2.out.cell]; rfl
  go_wp2_with fail
  refine (HMK.out w' HA2.out HB2.out).mono ?_; rintro e w3 ⟨rfl, b3⟩
  have HO3 := Lib.hid (HO2.out.below b3)
  have HE3 := Lib.hid (HE2.out.trans (b3.mono (by have := HO2.out.lt; omega)))
  clear b3 HX2 HO2 HA2 HB2 HE2 HMK c0 c1 c2 c3 c4 c5
  have z0 : w3.cell? ⟨q + 1, 0, none⟩ = some (.int .i64 0) := by rw [HO3.out.cell]; rfl
  have z1 : w3.cell? ⟨q + 1, 1, none⟩ = some (.int .i64 0) := by rw [HO3.out.cell]; rfl
  have z2 : w3.cell? ⟨q + 1, 2, none⟩ = some (.int .i64 0) := by rw [HO3.out.cell]; rfl
  have z3 : w3.cell? ⟨q + 1, 3, none⟩ = some (.int .i64 0) := by rw [HO3.out.cell]; rfl
  have z4 : w3.cell? ⟨q + 1, 4, none⟩ = some (.int .i64 0) := by rw [HO3.out.cell]; rfl
  have z5 : w3.cell? ⟨q + 1, 5, none⟩ = some (.int .i64 0) := by rw [HO3.out.cell]; rfl
  have z6 : w3.cell? ⟨q + 1, 6, none⟩ = some (.int .i64 0) := by rw [HO3.out.cell]; rfl
  have z7 : w3.cell? ⟨q + 1, 7, none⟩ = some (.int .i64 0) := by rw [HO3.out.cell]; rfl
  have g0 := HO3.out.frozen 0
  have g1 := HO3.out.frozen 1
  have g2 := HO3.out.frozen 2
  have g3 := HO3.out.frozen 3
  have g4 := HO3.out.frozen 4
  have g5 := HO3.out.frozen 5
  have g6 := HO3.out.frozen 6
  have g7 := HO3.out.frozen 7
  have HXF := Lib.hid ((((((((HO3.out.set_ 0 (.int .i64 v0)).set_ 1 (.int .i64 v1)).set_ 2 (.int .i64 v2)).set_ 3 (.int .i64 v3)).set_ 4 (.int .i64 v4)).set_ 5 (.int .i64 v5)).set_ 6 (.int .i64 v6)).set_ 7 (.int .i64 v7))
  have hbb : q ≤ q + 1 := by omega
  have HBF := Lib.hid ((((((((HE3.out.setCell (p := ⟨q + 1, 0, none⟩) hbb (.int .i64 v0)).setCell (p := ⟨q + 1, 1, none⟩) hbb (.int .i64 v1)).setCell (p := ⟨q + 1, 2, none⟩) hbb (.int .i64 v2)).setCell (p := ⟨q + 1, 3, none⟩) hbb (.int .i64 v3)).setCell (p := ⟨q + 1, 4, none⟩) hbb (.int .i64 v4)).setCell (p := ⟨q + 1, 5, none⟩) hbb (.int .i64 v5)).setCell (p := ⟨q + 1, 6, none⟩) hbb (.int .i64 v6)).setCell (p := ⟨q + 1, 7, none⟩) hbb (.int .i64 v7))
  clear HO3 HE3
  go_wp2
  exact bodyPost_ret (v := .tuple #[.agg #[.int .i64 v0, .int .i64 v1, .int .i64 v2, .int .i64 v3, .int .i64 v4, .int .i64 v5, .int .i64 v6, .int .i64 v7], .int .i64 0]) (results_row_tmp (p := 6) (u := 7) rfl _ _ (q + 1) 82 _ (0, 0) _ rfl HXF.out Try.underlying82 rfl (by kernel_rfl)) rfl ⟨rfl, by rw [HQ.out]; exact HBF.out⟩

end Go.Proofs.Ytcmacejpoihhlaa

namespace Go.Proofs.Ytcmacejpoihhlaa
open Go.RowKit

/-! ### The example -/
theorem mv_ex : movesP [0, 0, 1, 1] [0, 1, 0, 1] = (2, 0) := by decide +kernel
def exS : Scoring := ⟨1, 2, 10, 5, 1, []⟩
theorem exS_ok : exS.ok := by unfold Scoring.ok exS; simp
theorem ex_mark : markV exS [0, 1, 0, 2] [5, 3, 5, 0] = .agg #[.int .i64 36, .int .i64 4, .int .i64 0, .int .i64 6, .int .i64 2, .int .i64 1, .int .i64 4, .int .i64 3] := by
  have h : ptL exS (mkTo [0, 1, 0, 2] [5, 3, 5, 0] 4) = 36 ∧ (mkTo [0, 1, 0, 2] [5, 3, 5, 0] 4).pk = 4 ∧ (mkTo [0, 1, 0, 2] [5, 3, 5, 0] 4).wr = 0 ∧ (mkTo [0, 1, 0, 2] [5, 3, 5, 0] 4).pr = 6 ∧ (mkTo [0, 1, 0, 2] [5, 3, 5, 0] 4).nw = 2 ∧ whI (mkTo [0, 1, 0, 2] [5, 3, 5, 0] 4) = 1 ∧ (mkTo [0, 1, 0, 2] [5, 3, 5, 0] 4).st = 4 ∧ honL [0, 1, 0, 2] [5, 3, 5, 0] = 3 := by decide +kernel
  obtain ⟨h0, h1, h2, h3, h4, h5, h6, h7⟩ := h
  unfold markV
  show Value.agg #[.int .i64 (ptL exS (mkTo [0, 1, 0, 2] [5, 3, 5, 0] 4)), .int .i64 (mkTo [0, 1, 0, 2] [5, 3, 5, 0] 4).pk, .int .i64 (mkTo [0, 1, 0, 2] [5, 3, 5, 0] 4).wr, .int .i64 (mkTo [0, 1, 0, 2] [5, 3, 5, 0] 4).pr, .int .i64 (mkTo [0, 1, 0, 2] [5, 3, 5, 0] 4).nw, .int .i64 (whI (mkTo [0, 1, 0, 2] [5, 3, 5, 0] 4)), .int .i64 (mkTo [0, 1, 0, 2] [5, 3, 5, 0] 4).st, .int .i64 (honL [0, 1, 0, 2] [5, 3, 5, 0])] = _
  rw [h0, h1, h2, h3, h4, h5, h6, h7]

end Go.Proofs.Ytcmacejpoihhlaa

namespace Go.Proofs.Ytcmacejpoihhlaa
open Go.RowKit

theorem lit4s (w : World) (a b c d : Int) (t : TypeId) (h : ∀ v ∈ [a, b, c, d], I64 v) : RdI (w.alloc (.cells #[.int .i64 a, .int .i64 b, .int .i64 c, .int .i64 d] t)) (some ⟨w.heap.size, 0, none⟩) 4 [a, b, c, d] :=
  (OwnI.lit w t [a, b, c, d] 4 (by omega) rfl 0 (by omega) h).rd

set_option maxHeartbeats 4000000 in
set_option maxRecDepth 100000 in
theorem scored_any (w : World) : Calls Try.prog 76 #[] w fun e w' => e = .returned (.bool true) ∧ Below w.heap.size w w' := by
  go_enter Try.func76, Try.ntmps76
  go_wp2_with fail
  have HL0 := Lib.hid ((lit4s w 0 0 1 1 3 (by simp [I64])).alloc (.cells #[.int .i64 0, .int .i64 1, .int .i64 0, .int .i64 1] 3))
  have hl1 := lit4s (w.alloc (.cells #[.int .i64 0, .int .i64 0, .int .i64 1, .int .i64 1] 3)) 0 1 0 1 3 (by simp [I64])
  rw [show (w.alloc (.cells #[.int .i64 0, .int .i64 0, .int .i64 1, .int .i64 1] 3)).heap.size = w.heap.size + 1 by simp] at hl1
  have HL1 := Lib.hid hl1
  clear hl1
  have HB := Lib.hid (((Below.refl _ w).alloc (Nat.le_refl _) (.cells #[.int .i64 0, .int .i64 0, .int .i64 1, .int .i64 1] 3)).alloc (by simp) (.cells #[.int .i64 0, .int .i64 1, .int .i64 0, .int .i64 1] 3))
  have HMV := Lib.hid (moves_any (some ⟨w.heap.size, 0, none⟩) (some ⟨w.heap.size + 1, 0, none⟩) 4 4 4 4 [0, 0, 1, 1] [0, 1, 0, 1] _ HL0.out HL1.out)
  rw [mv_ex] at HMV
  refine HMV.out.mono ?_; rintro e w2 ⟨rfl, b2⟩
  have HB2 := Lib.hid (HB.out.trans (b2.mono HB.out.size))
  clear b2 HL0 HL1 HB HMV
  go_wp2_with fail
  have HL0 := Lib.hid ((lit4s w2 0 1 0 2 3 (by simp [I64])).alloc (.cells #[.int .i64 5, .int .i64 3, .int .i64 5, .int .i64 0] 3))
  have hl1 := lit4s (w2.alloc (.cells #[.int .i64 0, .int .i64 1, .int .i64 0, .int .i64 2] 3)) 5 3 5 0 3 (by simp [I64])
  rw [show (w2.alloc (.cells #[.int .i64 0, .int .i64 1, .int .i64 0, .int .i64 2] 3)).heap.size = w2.heap.size + 1 by simp] at hl1
  have HL1 := Lib.hid hl1
  clear hl1
  have HB := Lib.hid ((HB2.out.alloc HB2.out.size (.cells #[.int .i64 0, .int .i64 1, .int .i64 0, .int .i64 2] 3)).alloc (Nat.le_trans HB2.out.size (by simp)) (.cells #[.int .i64 5, .int .i64 3, .int .i64 5, .int .i64 0] 3))
  have HMK := Lib.hid (markP_any exS none (some ⟨w2.heap.size, 0, none⟩) (some ⟨w2.heap.size + 1, 0, none⟩) 0 0 4 4 4 [0, 1, 0, 2] [5, 3, 5, 0] _ RdI.nil_ (Nat.le_refl _) HL0.out HL1.out (by decide) (by simp) exS_ok)
  rw [ex_mark] at HMK
  refine HMK.out.mono ?_; rintro e w3 ⟨rfl, b3⟩
  have HB3 := Lib.hid (HB.out.trans (b3.mono HB.out.size))
  clear b3 HL0 HL1 HB HB2 HMK
  have HB4 := Lib.hid (HB3.out.alloc HB3.out.size (.cells #[.int .i64 36, .int .i64 4, .int .i64 0, .int .i64 6, .int .i64 2, .int .i64 1, .int .i64 4, .int .i64 3] 82))
  go_wp2
  go_ret
  exact ⟨rfl, HB4.out⟩
end Go.Proofs.Ytcmacejpoihhlaa

namespace Go.Proofs.Ytcmacejpoihhlaa
open Go.RowKit

theorem pr_inj {d r k : Nat} (h1 : 1 ≤ d) (h7 : d ≤ 7) (hr : (r : Int) < countR d) (hk : (k : Int) < countR d) (h : pr d r = pr d k) : r = k := by
  have e1 := rank_pr h1 h7 hr
  have e2 := rank_pr h1 h7 hk
  rw [h] at e1
  omega
theorem whI_pr {d r k : Nat} (h1 : 1 ≤ d) (h7 : d ≤ 7) (hr : (r : Int) < countR d) (hk : (k : Int) < countR d) : whI (mkTo (pr d k) (pr d r) (pr d k).length) = if k = r then 1 else 0 := by
  have hw := whole_part (t := pr d k) (a := pr d r) (pr_chk h1 h7 k) (by rw [pr_len, pr_len])
  rw [ofL_self (pr_chk h1 h7 r)] at hw
  unfold whI
  by_cases e : k = r
  · rw [if_pos (hw.2 (by rw [e])), if_pos e]
  · rw [if_neg (fun h => e (pr_inj h1 h7 hr hk (hw.1 h)).symm), if_neg e]

/-- what the rounds of TopGuessed know of memory -/
structure GuW (w : World) (q p : Nat) (s : Scoring) (A K G H O : Option Addr) (n c kn kc d m : Nat) (gu sh ot : List Int) (W : World) : Prop where
  st : Blk W q 24 #[.slice A n c, .int .i64 d]
  sc : Blk W p 79 (scCells s K kn kc)
  kr : RdI W K kn s.keys
  gu : RdI W G d gu
  sh : RdI W H m sh
  ot : RdI W O d ot
  bel : Below w.heap.size w W
theorem GuW.below {w W W' : World} {q p : Nat} {s : Scoring} {A K G H O : Option Addr} {n c kn kc d m : Nat} {gu sh ot : List Int} (h : GuW w q p s A K G H O n c kn kc d m gu sh ot W) (hb : Below W.heap.size W W') : GuW w q p s A K G H O n c kn kc d m gu sh ot W' :=
  ⟨h.st.below hb, h.sc.below hb, h.kr.below hb, h.gu.below hb, h.sh.below hb, h.ot.below hb, h.bel.trans (hb.mono h.bel.size)⟩

set_option maxHeartbeats 8000000 in
set_option maxRecDepth 100000 in
theorem topGuessed_any (A0 : Option Addr) (n0 c0 : Nat) (nums : List Int) (w : World) (h0 : RdI w A0 n0 nums) : Calls Try.prog 17 #[.slice A0 n0 c0] w fun e w' => e = .returned (.bool true) ∧ Below w.heap.size w w' := by
  go_enter Try.func17, Try.ntmps17
  go_wp2_with fail
  refine (boxOf_any A0 n0 c0 nums w h0).mono ?_; rintro e w1 ⟨g, rfl, hg, hbox, hb1⟩
  have HBX := Lib.hid hbox
  have HB := Lib.hid hb1
  have hgl := hbox.lt
  have hgw : w.heap.size ≤ g := hg
  clear h0 hbox hb1 hg
  go_wp2_with fail
  refine (stockOf_any g 3 3 5 w1 HBX.out (by omega) (by omega) (by omega) (by omega) (by omega) (by omega)).mono ?_; rintro e w2 ⟨A, n, c, l, d, rfl, hbd, h4, hown, hsp⟩
  have hd5 : d ≤ 5 := hbd.2.2.2.1
  have hd1 : 1 ≤ d := hbd.2.2.1
  have hn4 : n ≤ 3 := hbd.2.1
  have hn1 := hbd.1
  have HZ := Lib.hid (stock_chk hown.len hbd.1 (by omega) h4 (by omega) hd1 (by omega) hbd.2.2.2.2)
  have HSC := Lib.hid (shaped_ok HZ.out (by omega))
  have HLN := Lib.hid hown.len
  have HA := Lib.hid hown
  have HSP := Lib.hid hsp
  clear hown hsp hbd h4 HBX
  go_wp2_with fail
  refine (scoringOf_any g w2 HSP.out.box).mono ?_; rintro e w3 ⟨s, K, kn, kc, rfl, hsok, hkc, hkown, hsp⟩
  have HSO := Lib.hid hsok
  have hg2 : g < w2.heap.size := HSP.out.box.lt
  have HK := Lib.hid hkown
  have HA3 := Lib.hid (HA.out.spun_ hsp hgl)
  have HSP3 := Lib.hid (HSP.out.trans hsp)
  clear hsok hkown hsp HA HSP
  unfold scCells
  go_upto_region 3 with fail
  have HST := Lib.hid ((Blk.new w3 24 #[.slice A n c, .int .i64 d]).alloc (.cells (scCells s K kn kc) 79))
  have hsx := Blk.new (w3.alloc (.cells #[.slice A n c, .int .i64 d] 24)) 79 (scCells s K kn kc)
  rw [show (w3.alloc (.cells #[.slice A n c, .int .i64 d] 24)).heap.size = w3.heap.size + 1 by simp] at hsx
  have HSX := Lib.hid hsx
  have HKR := Lib.hid ((HK.out.rd.alloc (.cells #[.slice A n c, .int .i64 d] 24)).alloc (.cells (scCells s K kn kc) 79))
  have HAR := Lib.hid ((HA3.out.rd.alloc (.cells #[.slice A n c, .int .i64 d] 24)).alloc (.cells (scCells s K kn kc) 79))
  have HBX := Lib.hid ((HSP3.out.box.alloc (.cells #[.slice A n c, .int .i64 d] 24)).alloc (.cells (scCells s K kn kc) 79))
  have hw13 := HSP3.out.grown.size
  have hw1 := HB.out.size
  have HB4 := Lib.hid (((HB.out.trans (HSP3.out.below hgw HB.out.size)).alloc (by omega) (.cells #[.slice A n c, .int .i64 d] 24)).alloc (by simp; omega) (.cells (scCells s K kn kc) 79))
  have hg3 : g < w3.heap.size := HSP3.out.box.lt
  have HKG : Hid (∀ b, K.map (·.block) = some b → b ≠ g) := Lib.hid (fun b e => by have h9 : w2.heap.size ≤ b := (HK.out.1.block e).1; omega)
  unfold scCells at HST HSX HKR HAR HBX HB4
  obtain ⟨W4, hW4⟩ : ∃ W', (w3.alloc (.cells #[.slice A n c, .int .i64 d] 24)).alloc (.cells #[.int .i64 s.p1, .int .i64 s.p2, .int .i64 s.p3, .int .i64 s.p4, .int .i64 s.p5, .slice K kn kc] 79) = W' := ⟨_, rfl⟩
  rw [hW4] at HST HSX HKR HAR HBX HB4 ⊢
  obtain ⟨q, hq⟩ : ∃ q, w3.heap.size = q := ⟨_, rfl⟩
  rw [hq] at HST HSX hg3 ⊢
  have hqg : q ≠ g := by omega
  have hqg2 : q + 1 ≠ g := by omega
  clear hW4 hq hsx HK HA3 HSP3 HB hw13
  obtain ⟨r0, hr0, hbe, hpos, hmost, hless⟩ := best_is HZ.out (by omega : d ≤ 6)
  have hcp := count_pos hd1 (by omega : d ≤ 6)
  obtain ⟨m, hm⟩ : ∃ m : Nat, countR d = m := ⟨(countR d).toNat, by omega⟩
  rw [hm] at hr0 hbe hmost hcp
  rw [Int.toNat_natCast] at hbe hmost
  have HCM := Lib.hid hm
  have hr0m : r0 < m := by omega
  have HBE := Lib.hid hbe
  have HMO := Lib.hid hmost
  have HPL : Hid (∀ r, (pr d r).length = d) := Lib.hid (pr_len d)
  have HCO : Hid (countE (d : Int) = ((m : Int), 0)) := Lib.hid (by unfold countE; rw [if_neg (by omega), Int.toNat_natCast, hm])
  have HUN : Hid (∀ r, r < m → unrankE (d : Int) (r : Int) = (pr d r, 0)) := Lib.hid (fun r hr => unrank_pr hd1 (by omega) (by rw [HCM.out]; omega))
  have HWB : Hid (∀ r, 0 ≤ waysOf l (pr d r) ∧ waysOf l (pr d r) ≤ 3904305912313344) := Lib.hid (fun r => waysOf_bd (by rw [HLN.out]; omega) (chkS_ok HZ.out).2.2.1 (pr_chk hd1 (by omega) r))
  clear hm hbe hmost hless hpos
  have c0 : W4.cell? ⟨q, 0, none⟩ = some (.slice A n c) := by rw [HST.out.cell]; rfl
  have c1 : W4.cell? ⟨q, 1, none⟩ = some (.int .i64 d) := by rw [HST.out.cell]; rfl
  go_wp2_with fail
  refine (guessP_any A n c l d W4 HAR.out (I64.small (by omega))).mono ?_; rintro e w5 ⟨G, cg, rfl, h5, b5⟩
  rw [guessE_ok HSC.out, HCM.out, Int.toNat_natCast, HBE.out] at h5 ⊢
  simp only at h5 ⊢
  rw [HPL.out] at h5 ⊢
  have HG5 := Lib.hid h5.rd
  have hcg := h5.capC
  have HST5 := Lib.hid (HST.out.below b5)
  have HSX5 := Lib.hid (HSX.out.below b5)
  have HKR5 := Lib.hid (HKR.out.below b5)
  have HAR5 := Lib.hid (HAR.out.below b5)
  have HBX5 := Lib.hid (HBX.out.below b5)
  have HB5 := Lib.hid (HB4.out.trans (b5.mono HB4.out.size))
  have HGG : Hid (∀ b, G.map (·.block) = some b → b ≠ g) := Lib.hid (fun b e => by have h9 : W4.heap.size ≤ b := (h5.1.block e).1; have := HBX.out.lt; omega)
  clear h5 b5 HST HSX HKR HAR HBX HB4 c0 c1
  have c0 : w5.cell? ⟨q, 0, none⟩ = some (.slice A n c) := by rw [HST5.out.cell]; rfl
  have c1 : w5.cell? ⟨q, 1, none⟩ = some (.int .i64 d) := by rw [HST5.out.cell]; rfl
  go_wp2_with fail
  refine (shapesP_any A n c l d w5 HAR5.out (I64.small (by omega))).mono ?_; rintro e w6 ⟨H, ch, rfl, h6, b6⟩
  rw [shapesE_ok HSC.out] at h6 ⊢
  simp only at h6 ⊢
  rw [shapesTo_len] at h6 ⊢
  rw [HCM.out, Int.toNat_natCast] at h6 ⊢
  have HH6 := Lib.hid h6.rd
  have HST6 := Lib.hid (HST5.out.below b6)
  have HSX6 := Lib.hid (HSX5.out.below b6)
  have HKR6 := Lib.hid (HKR5.out.below b6)
  have HG6 := Lib.hid (HG5.out.below b6)
  have HBX6 := Lib.hid (HBX5.out.below b6)
  have HB6 := Lib.hid (HB5.out.trans (b6.mono HB5.out.size))
  have HHG : Hid (∀ b, H.map (·.block) = some b → b ≠ g) := Lib.hid (fun b e => by have h9 : w5.heap.size ≤ b := (h6.1.block e).1; have := HBX5.out.lt; omega)
  clear h6 b6 HST5 HSX5 HKR5 HAR5 HBX5 HB5 HG5 c0 c1
  have c1 : w6.cell? ⟨q, 1, none⟩ = some (.int .i64 d) := by rw [HST6.out.cell]; rfl
  go_wp2_with fail
  refine (count_any (d : Int) w6).mono ?_; rintro e w7 ⟨rfl, b7⟩
  rw [HCO.out]
  have HH7 := Lib.hid (HH6.out.below b7)
  have HST7 := Lib.hid (HST6.out.below b7)
  have HSX7 := Lib.hid (HSX6.out.below b7)
  have HKR7 := Lib.hid (HKR6.out.below b7)
  have HG7 := Lib.hid (HG6.out.below b7)
  have HBX7 := Lib.hid (HBX6.out.below b7)
  have HB7 := Lib.hid (HB6.out.trans (b7.mono HB6.out.size))
  clear b7 HST6 HSX6 HKR6 HBX6 HB6 HG6 HH6 c1
  have c1 : w7.cell? ⟨q, 1, none⟩ = some (.int .i64 d) := by rw [HST7.out.cell]; rfl
  have hd9 : d ≤ 9 := by omega
  go_wp2_with fail
  refine (partitionOf_any g d w7 HBX7.out hd1 hd9).mono ?_; rintro e w8 ⟨O, co, ot, rfl, hoc, hown, hsp⟩
  have hol := hown.len
  obtain ⟨e1, e2, e3⟩ := cover_at hd1 hd5 hoc hol
  obtain ⟨ro, hro⟩ : ∃ ro : Nat, (rnk ot).toNat = ro := ⟨_, rfl⟩
  rw [hro] at e1
  have hrom : ro < m := by rw [HCM.out] at e3; omega
  rw [e1] at hown
  have HW8 : Hid (GuW w q (q + 1) s A K G H O n c kn kc d m (pr d r0) (shapesTo l d m) (pr d ro) w8) := Lib.hid
    ⟨HST7.out.grown hsp.grown (fun e => by injection e with e; exact hqg e), HSX7.out.grown hsp.grown (fun e => by injection e with e; exact hqg2 e), HKR7.out.spun hsp HKG.out, HG7.out.spun hsp HGG.out, HH7.out.spun hsp HHG.out, hown.rd, HB7.out.trans (hsp.below hgw HB7.out.size)⟩
  clear hown hsp hoc hol e1 e2 e3 hro HST7 HSX7 HKR7 HG7 HH7 HBX7 HB7 c1 HKG HGG HHG
  go_wp2_with fail
  go_loopw [14, 15, 16] (fun x y i wr => ∃ r : Nat, r ≤ m ∧ i = .int .i64 r ∧ x = .int .i64 (if r0 < r then waysOf l (pr d r0) else 0) ∧ y = .int .i64 (if ro < r then waysOf l (pr d ro) else 0) ∧ GuW w q (q + 1) s A K G H O n c kn kc d m (pr d r0) (shapesTo l d m) (pr d ro) wr) (fun _ _ i _ => m - (intOf i).toNat)
  case atStart => exact ⟨0, by omega, rfl, by rw [if_neg (by omega)], by rw [if_neg (by omega)], HW8.out⟩
  case round =>
    obtain ⟨r, hr, rfl, rfl, rfl, hgw8⟩ := hrel
    have HW := Lib.hid hgw8
    clear hgw8 HW8
    by_cases hrm : r < m
    · have hrmI : (r : Int) < m := by omega
      have HUr := Lib.hid (HUN.out r hrm)
      have HPr := Lib.hid (HPL.out r)
      have c1 : wr.cell? ⟨q, 1, none⟩ = some (.int .i64 d) := by rw [HW.out.st.cell]; rfl
      obtain ⟨x, hx⟩ : ∃ x, waysOf l (pr d r) = x := ⟨_, rfl⟩
      have HGX : Hid ((shapesTo l d m)[r]? = some x) := Lib.hid (by unfold shapesTo; rw [List.getElem?_map, List.getElem?_range hrm]; simp only [Option.map_some]; rw [hx])
      have hxb := HWB.out r
      rw [hx] at hxb
      have hw1 : whI (mkTo (pr d r) (pr d r0) (pr d r).length) = if r = r0 then 1 else 0 := whI_pr hd1 (by omega) (by rw [HCM.out]; omega) (by rw [HCM.out]; omega)
      have hw2 : whI (mkTo (pr d r) (pr d ro) (pr d r).length) = if r = ro then 1 else 0 := whI_pr hd1 (by omega) (by rw [HCM.out]; omega) (by rw [HCM.out]; omega)
      obtain ⟨a0, a1, a2, a3, a4, a6, a7, hma⟩ : ∃ a0 a1 a2 a3 a4 a6 a7, markV s (pr d r) (pr d r0) = .agg #[.int .i64 a0, .int .i64 a1, .int .i64 a2, .int .i64 a3, .int .i64 a4, .int .i64 (if r = r0 then 1 else 0), .int .i64 a6, .int .i64 a7] := ⟨_, _, _, _, _, _, _, by unfold markV; rw [hw1]⟩
      obtain ⟨o0, o1, o2, o3, o4, o6, o7, hmo⟩ : ∃ a0 a1 a2 a3 a4 a6 a7, markV s (pr d r) (pr d ro) = .agg #[.int .i64 a0, .int .i64 a1, .int .i64 a2, .int .i64 a3, .int .i64 a4, .int .i64 (if r = ro then 1 else 0), .int .i64 a6, .int .i64 a7] := ⟨_, _, _, _, _, _, _, by unfold markV; rw [hw2]⟩
      clear hw1 hw2
      obtain ⟨f1, hf1⟩ : ∃ f : Int, (if r = r0 then (1 : Int) else 0) = f := ⟨_, rfl⟩
      obtain ⟨f2, hf2⟩ : ∃ f : Int, (if r = ro then (1 : Int) else 0) = f := ⟨_, rfl⟩
      rw [hf1] at hma
      rw [hf2] at hmo
      have HP8 : Hid (∀ t, ∀ v ∈ pr d t, 0 ≤ v ∧ v ≤ 8) := Lib.hid (fun t v hv => by have := (chk_ok (pr_chk hd1 (by omega) t)).2.2.1 v hv; omega)
      have HM1 : Hid (∀ (T : Option Addr) (ct : Nat) W, RdI W K kn s.keys → RdI W T d (pr d r) → RdI W G d (pr d r0) → Calls Try.prog 73 #[.agg #[.int .i64 s.p1, .int .i64 s.p2, .int .i64 s.p3, .int .i64 s.p4, .int .i64 s.p5, .slice K kn kc], .slice T d ct, .slice G d cg] W (Marked (.agg #[.int .i64 a0, .int .i64 a1, .int .i64 a2, .int .i64 a3, .int .i64 a4, .int .i64 f1, .int .i64 a6, .int .i64 a7]) W)) := Lib.hid (fun T ct W x1 x2 x3 => by
        rw [← hma]; exact markP_any s K T G kn kc d ct cg (pr d r) (pr d r0) W x1 hkc x2 x3 (pr_chk hd1 (by omega) r) (HP8.out r0) HSO.out)
      have HM2 : Hid (∀ (T : Option Addr) (ct : Nat) W, RdI W K kn s.keys → RdI W T d (pr d r) → RdI W O d (pr d ro) → Calls Try.prog 73 #[.agg #[.int .i64 s.p1, .int .i64 s.p2, .int .i64 s.p3, .int .i64 s.p4, .int .i64 s.p5, .slice K kn kc], .slice T d ct, .slice O d co] W (Marked (.agg #[.int .i64 o0, .int .i64 o1, .int .i64 o2, .int .i64 o3, .int .i64 o4, .int .i64 f2, .int .i64 o6, .int .i64 o7]) W)) := Lib.hid (fun T ct W x1 x2 x3 => by
        rw [← hmo]; exact markP_any s K T O kn kc d ct co (pr d r) (pr d ro) W x1 hkc x2 x3 (pr_chk hd1 (by omega) r) (HP8.out ro) HSO.out)
      have hcase1 : (f1 = 1 ∧ r = r0) ∨ (f1 = 0 ∧ r ≠ r0) := by
        rw [← hf1]
        by_cases e : r = r0
        · rw [if_pos e]; exact .inl ⟨rfl, e⟩
        · rw [if_neg e]; exact .inr ⟨rfl, e⟩
      have hcase2 : (f2 = 1 ∧ r = ro) ∨ (f2 = 0 ∧ r ≠ ro) := by
        rw [← hf2]
        by_cases e : r = ro
        · rw [if_pos e]; exact .inl ⟨rfl, e⟩
        · rw [if_neg e]; exact .inr ⟨rfl, e⟩
      have HN1 : Hid ((if r0 < r + 1 then waysOf l (pr d r0) else 0) = (if r0 < r then waysOf l (pr d r0) else 0) + x * f1) := Lib.hid (by
        rcases hcase1 with ⟨h1, h2⟩ | ⟨h1, h2⟩
        · rw [if_pos (by omega), if_neg (by omega), h1, ← h2, hx]; omega
        · rw [h1, Int.mul_zero, Int.add_zero]
          by_cases h3 : r0 < r
          · rw [if_pos (by omega), if_pos h3]
          · rw [if_neg (by omega), if_neg h3])
      have HN2 : Hid ((if ro < r + 1 then waysOf l (pr d ro) else 0) = (if ro < r then waysOf l (pr d ro) else 0) + x * f2) := Lib.hid (by
        rcases hcase2 with ⟨h1, h2⟩ | ⟨h1, h2⟩
        · rw [if_pos (by omega), if_neg (by omega), h1, ← h2, hx]; omega
        · rw [h1, Int.mul_zero, Int.add_zero]
          by_cases h3 : ro < r
          · rw [if_pos (by omega), if_pos h3]
          · rw [if_neg (by omega), if_neg h3])
      have hyb1 : 0 ≤ (if r0 < r then waysOf l (pr d r0) else 0) ∧ (if r0 < r then waysOf l (pr d r0) else 0) ≤ 3904305912313344 := by
        have := HWB.out r0
        split <;> omega
      have hyb2 : 0 ≤ (if ro < r then waysOf l (pr d ro) else 0) ∧ (if ro < r then waysOf l (pr d ro) else 0) ≤ 3904305912313344 := by
        have := HWB.out ro
        split <;> omega
      obtain ⟨y1, hy1⟩ : ∃ y1, (if r0 < r then waysOf l (pr d r0) else 0) = y1 := ⟨_, rfl⟩
      obtain ⟨y2, hy2⟩ : ∃ y2, (if ro < r then waysOf l (pr d ro) else 0) = y2 := ⟨_, rfl⟩
      rw [hy1] at HN1 hyb1 ⊢
      rw [hy2] at HN2 hyb2 ⊢
      clear hf1 hf2 hma hmo hx hy1 hy2 HP8
      go_wp2_with fail
      refine (unrank_any (d : Int) (r : Int) wr).mono ?_; rintro e w9 ⟨T, ct, rfl, h9, b9⟩
      rw [HUr.out] at h9 ⊢
      simp only at h9 ⊢
      rw [HPr.out] at h9 ⊢
      have HT9 := Lib.hid h9.rd
      have HW9 := Lib.hid (HW.out.below b9)
      clear h9 b9 HW c1
      have e0 : w9.cell? ⟨q + 1, 0, none⟩ = some (.int .i64 s.p1) := by rw [HW9.out.sc.cell]; rfl
      have e1 : w9.cell? ⟨q + 1, 1, none⟩ = some (.int .i64 s.p2) := by rw [HW9.out.sc.cell]; rfl
      have e2 : w9.cell? ⟨q + 1, 2, none⟩ = some (.int .i64 s.p3) := by rw [HW9.out.sc.cell]; rfl
      have e3 : w9.cell? ⟨q + 1, 3, none⟩ = some (.int .i64 s.p4) := by rw [HW9.out.sc.cell]; rfl
      have e4 : w9.cell? ⟨q + 1, 4, none⟩ = some (.int .i64 s.p5) := by rw [HW9.out.sc.cell]; rfl
      have e5 : w9.cell? ⟨q + 1, 5, none⟩ = some (.slice K kn kc) := by rw [HW9.out.sc.cell]; rfl
      go_wp2_with fail
      refine (HM1.out T ct w9 HW9.out.kr HT9.out HW9.out.gu).mono ?_; rintro e w10 ⟨rfl, b10⟩
      have HT10 := Lib.hid (HT9.out.below b10)
      have HW10 := Lib.hid (HW9.out.below b10)
      clear b10 HT9 HW9 e0 e1 e2 e3 e4 e5 HM1
      go_upto_region 15 with fail
      have HWa := Lib.hid (HW10.out.below ((Below.refl _ _).alloc (Nat.le_refl _) (.cells #[.int .i64 a0, .int .i64 a1, .int .i64 a2, .int .i64 a3, .int .i64 a4, .int .i64 f1, .int .i64 a6, .int .i64 a7] 82)))
      have HTa := Lib.hid (HT10.out.alloc (.cells #[.int .i64 a0, .int .i64 a1, .int .i64 a2, .int .i64 a3, .int .i64 a4, .int .i64 f1, .int .i64 a6, .int .i64 a7] 82))
      have HRa := Lib.hid (Blk.new w10 82 #[.int .i64 a0, .int .i64 a1, .int .i64 a2, .int .i64 a3, .int .i64 a4, .int .i64 f1, .int .i64 a6, .int .i64 a7])
      obtain ⟨wa, hwa⟩ : ∃ W', w10.alloc (.cells #[.int .i64 a0, .int .i64 a1, .int .i64 a2, .int .i64 a3, .int .i64 a4, .int .i64 f1, .int .i64 a6, .int .i64 a7] 82) = W' := ⟨_, rfl⟩
      rw [hwa] at HWa HTa HRa ⊢
      obtain ⟨p1, hp1⟩ : ∃ r1, w10.heap.size = r1 := ⟨_, rfl⟩
      rw [hp1] at HRa ⊢
      clear hwa hp1 HT10 HW10
      have e0 : wa.cell? ⟨q + 1, 0, none⟩ = some (.int .i64 s.p1) := by rw [HWa.out.sc.cell]; rfl
      have e1 : wa.cell? ⟨q + 1, 1, none⟩ = some (.int .i64 s.p2) := by rw [HWa.out.sc.cell]; rfl
      have e2 : wa.cell? ⟨q + 1, 2, none⟩ = some (.int .i64 s.p3) := by rw [HWa.out.sc.cell]; rfl
      have e3 : wa.cell? ⟨q + 1, 3, none⟩ = some (.int .i64 s.p4) := by rw [HWa.out.sc.cell]; rfl
      have e4 : wa.cell? ⟨q + 1, 4, none⟩ = some (.int .i64 s.p5) := by rw [HWa.out.sc.cell]; rfl
      have e5 : wa.cell? ⟨q + 1, 5, none⟩ = some (.slice K kn kc) := by rw [HWa.out.sc.cell]; rfl
      go_wp2_with fail
      refine (HM2.out T ct wa HWa.out.kr HTa.out HWa.out.ot).mono ?_; rintro e w11 ⟨rfl, b11⟩
      have HWb := Lib.hid (HWa.out.below b11)
      have HRb := Lib.hid (HRa.out.below b11)
      clear b11 HTa HWa HRa e0 e1 e2 e3 e4 e5 HM2
      go_upto_region 16 with fail
      have HWc := Lib.hid (HWb.out.below ((Below.refl _ _).alloc (Nat.le_refl _) (.cells #[.int .i64 o0, .int .i64 o1, .int .i64 o2, .int .i64 o3, .int .i64 o4, .int .i64 f2, .int .i64 o6, .int .i64 o7] 82)))
      have HRc := Lib.hid (HRb.out.alloc (.cells #[.int .i64 o0, .int .i64 o1, .int .i64 o2, .int .i64 o3, .int .i64 o4, .int .i64 f2, .int .i64 o6, .int .i64 o7] 82))
      have HSc := Lib.hid (Blk.new w11 82 #[.int .i64 o0, .int .i64 o1, .int .i64 o2, .int .i64 o3, .int .i64 o4, .int .i64 f2, .int .i64 o6, .int .i64 o7])
      obtain ⟨wc, hwc⟩ : ∃ W', w11.alloc (.cells #[.int .i64 o0, .int .i64 o1, .int .i64 o2, .int .i64 o3, .int .i64 o4, .int .i64 f2, .int .i64 o6, .int .i64 o7] 82) = W' := ⟨_, rfl⟩
      rw [hwc] at HWc HRc HSc ⊢
      obtain ⟨p2, hp2⟩ : ∃ r1, w11.heap.size = r1 := ⟨_, rfl⟩
      rw [hp2] at HSc ⊢
      clear hwc hp2 HWb HRb
      have hc1 : wc.cell? ⟨p1, 5, none⟩ = some (.int .i64 f1) := by rw [HRc.out.cell]; rfl
      have hc2 : wc.cell? ⟨p2, 5, none⟩ = some (.int .i64 f2) := by rw [HSc.out.cell]; rfl
      obtain ⟨sd, x', rfl, _, hv, _, hcv⟩ := HWc.out.sh.at_ hrm
      obtain rfl : x = x' := by have h9 := hv.out; rw [HGX.out] at h9; injection h9
      clear hv HGX HRc HSc
      have hm1 : 0 ≤ x * f1 ∧ x * f1 ≤ 3904305912313344 := by rcases hcase1 with ⟨h, _⟩ | ⟨h, _⟩ <;> rw [h] <;> omega
      have hm2 : 0 ≤ x * f2 ∧ x * f2 ≤ 3904305912313344 := by rcases hcase2 with ⟨h, _⟩ | ⟨h, _⟩ <;> rw [h] <;> omega
      have hq1 : IntKind.i64.wrap (x * f1) = x * f1 := IntWalk.i64_in _ (by omega)
      have hq2 : IntKind.i64.wrap (x * f2) = x * f2 := IntWalk.i64_in _ (by omega)
      have hq3 : IntKind.i64.wrap (y1 + x * f1) = y1 + x * f1 := IntWalk.i64_in _ (by omega)
      have hq4 : IntKind.i64.wrap (y2 + x * f2) = y2 + x * f2 := IntWalk.i64_in _ (by omega)
      clear hcase1 hcase2
      · skip
        go_upto_region 18 with fail
        go_region_held3 (fun w' => (w'.cell? ⟨p1, 5, none⟩ = some (.int .i64 f1) ∧ w'.cell? ⟨p2, 5, none⟩ = some (.int .i64 f2)) ∧ w'.cell? (sd.add r) = some (.int .i64 x)) (exact ⟨⟨hc1, hc2⟩, hcv⟩) (fail)
        go_wp2
        go_roundw
        case rel => exact ⟨r + 1, by omega, by go_num, by rw [HN1.out], by rw [HN2.out], HWc.out.below ((Below.refl _ _).drew)⟩
        case measure => simp [intOf]; omega
    · have hrm2 : r = m := by omega
      subst hrm2
      rw [if_pos hr0m, if_pos hrom]
      have hle := HMO.out ro hrom
      obtain ⟨y1, hy1⟩ : ∃ y1, waysOf l (pr d r0) = y1 := ⟨_, rfl⟩
      obtain ⟨y2, hy2⟩ : ∃ y2, waysOf l (pr d ro) = y2 := ⟨_, rfl⟩
      rw [hy1, hy2] at hle
      rw [hy1, hy2]
      clear hy1 hy2 hr0 
      go_wp2_with fail
      refine (scored_any wr).mono ?_; rintro e w13 ⟨rfl, b13⟩
      have HBF := Lib.hid (HW.out.bel.trans (b13.mono HW.out.bel.size))
      clear b13
      go_wp2
      go_ret
      exact ⟨rfl, HBF.out⟩
end Go.Proofs.Ytcmacejpoihhlaa
