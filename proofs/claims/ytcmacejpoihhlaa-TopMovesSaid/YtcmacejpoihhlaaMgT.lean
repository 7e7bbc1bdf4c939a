/- Walks: marks an answer; an example of marks. An example of marks. Walk: an example of marks. -/
import Derived.Test.YtcmacejpoihhlaaMgS
import Derived.Laws.ResultCell
namespace Go.Proofs.Ytcmacejpoihhlaa
open Go.RowKit

theorem results_row_tmp {P : Program} {fn : Func} {p u : Tmp} {ty : TypeId} (h : fn.results = #[.cell p ty, .tmp u]) (tmps : Array Value) (w : World) (g : Nat) (t : TypeId) (cs : Array Value) (fr : Nat × Nat) (d : TypeDesc)
    (hp : tmps.getD p undef = .pointer (some ⟨g, 0, none⟩)) (hg : w.heap[g]? = some (.cells cs t fr))
    (hu : P.underlying ty = some d) (hd : (match d with | .struct _ | .array _ _ => true | _ => false) = true) (hi : (P.info? ty).map (·.size) = some cs.size) :
    (results fn tmps).run P w = .ok (.tuple #[.agg cs, tmps.getD u undef]) w := by
  rw [results_cell_tmp h, hp]
  simp only [asAddr, Sem.run_pure, Result.andThen_ok, run_loadVar_row w g t ty cs fr d hg hu hd hi]

def Marked (v : Value) (w : World) (e : Ending) (w' : World) : Prop := e = .returned (.tuple #[v, .int .i64 0]) ∧ Below w.heap.size w w'

set_option maxHeartbeats 4000000 in
set_option maxRecDepth 100000 in
theorem markP_any (s : Scoring) (K A B : Option Addr) (kn kc n c d : Nat) (t a : List Int) (w : World) (hk : RdI w K kn s.keys) (hkc : kn ≤ kc) (h1 : RdI w A n t) (h2 : RdI w B n a) (ht : chk t = 0) (ha : ∀ v ∈ a, 0 ≤ v ∧ v ≤ 8) (hs : s.ok) :
    Calls Try.prog 73 #[.agg (scCells s K kn kc), .slice A n c, .slice B n d] w (Marked (markV s t a) w) := by
  have hn9 : n ≤ 9 := by have := (chk_ok ht).2.1; have := h1.len; omega
  have HTK := Lib.hid ht
  have HA8 := Lib.hid ha
  have HSO := Lib.hid hs
  have HX := Lib.hid ((Blk.new w 79 (scCells s K kn kc)).alloc (.cells (mkA ⟨0, 0, 0, 0, 0, true⟩) 82))
  have HO0 := Blk.new (w.alloc (.cells (scCells s K kn kc) 79)) 82 (mkA ⟨0, 0, 0, 0, 0, true⟩)
  rw [show (w.alloc (.cells (scCells s K kn kc) 79)).heap.size = w.heap.size + 1 by simp] at HO0
  have HO := Lib.hid HO0
  have HK := Lib.hid ((hk.alloc (.cells (scCells s K kn kc) 79)).alloc (.cells (mkA ⟨0, 0, 0, 0, 0, true⟩) 82))
  have HA := Lib.hid ((h1.alloc (.cells (scCells s K kn kc) 79)).alloc (.cells (mkA ⟨0, 0, 0, 0, 0, true⟩) 82))
  have HB := Lib.hid ((h2.alloc (.cells (scCells s K kn kc) 79)).alloc (.cells (mkA ⟨0, 0, 0, 0, 0, true⟩) 82))
  have HBE := Lib.hid (((Below.refl _ w).alloc (Nat.le_refl _) (.cells (scCells s K kn kc) 79)).alloc (by simp) (.cells (mkA ⟨0, 0, 0, 0, 0, true⟩) 82))
  have HCK : Hid (∀ W, RdI W K kn s.keys → Calls Try.prog 113 #[.agg #[.int .i64 s.p1, .int .i64 s.p2, .int .i64 s.p3, .int .i64 s.p4, .int .i64 s.p5, .slice K kn kc]] W (NumM 0 W)) := Lib.hid (fun W h => checkSc_any s K kn kc W h hs hkc)
  have HMK : Hid (∀ W, RdI W A n t → RdI W B n a → Calls Try.prog 115 #[.agg #[.int .i64 s.p1, .int .i64 s.p2, .int .i64 s.p3, .int .i64 s.p4, .int .i64 s.p5, .slice K kn kc], .agg #[.slice A n c, .slice B n d]] W fun e w' => e = .returned (markV s t a) ∧ Below W.heap.size W w') := Lib.hid (fun W h h' => markS_any s K A B kn kc n c d t a W h h' ht ha hs)
  obtain ⟨v0, v1, v2, v3, v4, v5, v6, v7, hv⟩ : ∃ v0 v1 v2 v3 v4 v5 v6 v7, markV s t a = .agg #[.int .i64 v0, .int .i64 v1, .int .i64 v2, .int .i64 v3, .int .i64 v4, .int .i64 v5, .int .i64 v6, .int .i64 v7] := ⟨_, _, _, _, _, _, _, _, rfl⟩
  rw [hv] at HMK ⊢
  simp only [scCells, mkA] at HX HO HK HA HB HBE
  unfold scCells
  clear hk h1 h2 ht ha hs HO0 hv
  go_enter Try.func73, Try.ntmps73
  go_upto_region 1 with fail
  obtain ⟨W, hW⟩ : ∃ W, (w.alloc (.cells #[.int .i64 s.p1, .int .i64 s.p2, .int .i64 s.p3, .int .i64 s.p4, .int .i64 s.p5, .slice K kn kc] 79)).alloc (.cells #[.int .i64 0, .int .i64 0, .int .i64 0, .int .i64 0, .int .i64 0, .int .i64 0, .int .i64 0, .int .i64 0] 82) = W := ⟨_, rfl⟩
  rw [hW] at HX HO HK HA HB HBE ⊢
  clear hW
  obtain ⟨q, hq⟩ : ∃ q, w.heap.size = q := ⟨_, rfl⟩
  rw [hq] at HX HO HBE ⊢
  have HQ := Lib.hid hq
  clear hq
  have c0 : W.cell? ⟨q, 0, none⟩ = some (.int .i64 s.p1) := by rw [HX.out.cell]; rfl
  have c1 : W.cell? ⟨q, 1, none⟩ = some (.int .i64 s.p2) := by rw [HX.out.cell]; rfl
  have c2 : W.cell? ⟨q, 2, none⟩ = some (.int .i64 s.p3) := by rw [HX.out.cell]; rfl
  have c3 : W.cell? ⟨q, 3, none⟩ = some (.int .i64 s.p4) := by rw [HX.out.cell]; rfl
  have c4 : W.cell? ⟨q, 4, none⟩ = some (.int .i64 s.p5) := by rw [HX.out.cell]; rfl
  have c5 : W.cell? ⟨q, 5, none⟩ = some (.slice K kn kc) := by rw [HX.out.cell]; rfl
  go_wp2_with fail
  refine (HCK.out W HK.out).mono ?_; rintro e w2 ⟨rfl, b2⟩
  have HX2 := Lib.hid (HX.out.below b2)
  have HO2 := Lib.hid (HO.out.below b2)
  have HA2 := Lib.hid (HA.out.below b2)
  have HB2 := Lib.hid (HB.out.below b2)
  have HE2 := Lib.hid (HBE.out.trans (b2.mono (by have := HO.out.lt; omega)))
  clear b2 HX HO HK HA HB HBE HCK c0 c1 c2 c3 c4 c5
  have HCH := Lib.hid (check_any A n c t w2 HA2.out)
  rw [HTK.out] at HCH
  go_wp2_with fail
  refine HCH.out.mono ?_; rintro e w' ⟨rfl, rfl⟩
  go_wp2_with fail
  refine (writtenS_any B n d a _ HB2.out (by omega) HA8.out).mono ?_; rintro e w' ⟨rfl, rfl⟩
  have c0 : w'.cell? ⟨q, 0, none⟩ = some (.int .i64 s.p1) := by rw [HX2.out.cell]; rfl
  have c1 : w'.cell? ⟨q, 1, none⟩ = some (.int .i64 s.p2) := by rw [HX2.out.cell]; rfl
  have c2 : w'.cell? ⟨q, 2, none⟩ = some (.int .i64 s.p3) := by rw [HX2.out.cell]; rfl
  have c3 : w'.cell? ⟨q, 3, none⟩ = some (.int .i64 s.p4) := by rw [HX2.out.cell]; rfl
  have c4 : w'.cell? ⟨q, 4, none⟩ = some (.int .i64 s.p5) := by rw [HX2.out.cell]; rfl
  have c5 : w'.cell? ⟨q, 5, none⟩ = some (.slice K kn kc) := by rw [HX2.out.cell]; rfl
  go_wp2_with fail
  refine (HMK.out w' HA2.out HB2.out).mono ?_; rintro e w3 ⟨rfl, b3⟩
  have HO3 := Lib.hid (HO2.out.below b3)
  have HE3 := Lib.hid (HE2.out.trans (b3.mono (by have := HO2.out.lt; omega)))
  clear b3 HX2 HO2 HA2 HB2 HE2 HMK c0 c1 c2 c3 c4 c5
  have z0 : w3.cell? ⟨q + 1, 0, none⟩ = some (.int .i64 0) := by rw [HO3.out.cell]; rfl
  have z1 : w3.cell? ⟨q + 1, 1, none⟩ = some (.int .i64 0) := by rw [HO3.out.cell]; rfl
  have z2 : w3.cell? ⟨q + 1, 2, none⟩ = some (.int .i64 0) := by rw [HO3.out.cell]; rfl
  have z3 : w3.cell? ⟨q + 1, 3, none⟩ = some (.int .i64 0) := by rw [HO3.out.cell]; rfl
  have z4 : w3.cell? ⟨q + 1, 4, none⟩ = some (.int .i64 0) := by rw [HO3.out.cell]; rfl
  have z5 : w3.cell? ⟨q + 1, 5, none⟩ = some (.int .i64 0) := by rw [HO3.out.cell]; rfl
  have z6 : w3.cell? ⟨q + 1, 6, none⟩ = some (.int .i64 0) := by rw [HO3.out.cell]; rfl
  have z7 : w3.cell? ⟨q + 1, 7, none⟩ = some (.int .i64 0) := by rw [HO3.out.cell]; rfl
  have g0 := HO3.out.frozen 0
  have g1 := HO3.out.frozen 1
  have g2 := HO3.out.frozen 2
  have g3 := HO3.out.frozen 3
  have g4 := HO3.out.frozen 4
  have g5 := HO3.out.frozen 5
  have g6 := HO3.out.frozen 6
  have g7 := HO3.out.frozen 7
  have HXF := Lib.hid ((((((((HO3.out.set_ 0 (.int .i64 v0)).set_ 1 (.int .i64 v1)).set_ 2 (.int .i64 v2)).set_ 3 (.int .i64 v3)).set_ 4 (.int .i64 v4)).set_ 5 (.int .i64 v5)).set_ 6 (.int .i64 v6)).set_ 7 (.int .i64 v7))
  have hbb : q ≤ q + 1 := by omega
  have HBF := Lib.hid ((((((((HE3.out.setCell (p := ⟨q + 1, 0, none⟩) hbb (.int .i64 v0)).setCell (p := ⟨q + 1, 1, none⟩) hbb (.int .i64 v1)).setCell (p := ⟨q + 1, 2, none⟩) hbb (.int .i64 v2)).setCell (p := ⟨q + 1, 3, none⟩) hbb (.int .i64 v3)).setCell (p := ⟨q + 1, 4, none⟩) hbb (.int .i64 v4)).setCell (p := ⟨q + 1, 5, none⟩) hbb (.int .i64 v5)).setCell (p := ⟨q + 1, 6, none⟩) hbb (.int .i64 v6)).setCell (p := ⟨q + 1, 7, none⟩) hbb (.int .i64 v7))
  clear HO3 HE3
  go_wp2
  exact bodyPost_ret (v := .tuple #[.agg #[.int .i64 v0, .int .i64 v1, .int .i64 v2, .int .i64 v3, .int .i64 v4, .int .i64 v5, .int .i64 v6, .int .i64 v7], .int .i64 0]) (results_row_tmp (p := 6) (u := 7) rfl _ _ (q + 1) 82 _ (0, 0) _ rfl HXF.out Try.underlying82 rfl (by kernel_rfl)) rfl ⟨rfl, by rw [HQ.out]; exact HBF.out⟩

end Go.Proofs.Ytcmacejpoihhlaa

namespace Go.Proofs.Ytcmacejpoihhlaa
open Go.RowKit

/-! ### The example -/
theorem mv_ex : movesP [0, 0, 1, 1] [0, 1, 0, 1] = (2, 0) := by decide +kernel
def exS : Scoring := ⟨1, 2, 10, 5, 1, []⟩
theorem exS_ok : exS.ok := by unfold Scoring.ok exS; simp
theorem ex_mark : markV exS [0, 1, 0, 2] [5, 3, 5, 0] = .agg #[.int .i64 36, .int .i64 4, .int .i64 0, .int .i64 6, .int .i64 2, .int .i64 1, .int .i64 4, .int .i64 3] := by
  have h : ptL exS (mkTo [0, 1, 0, 2] [5, 3, 5, 0] 4) = 36 ∧ (mkTo [0, 1, 0, 2] [5, 3, 5, 0] 4).pk = 4 ∧ (mkTo [0, 1, 0, 2] [5, 3, 5, 0] 4).wr = 0 ∧ (mkTo [0, 1, 0, 2] [5, 3, 5, 0] 4).pr = 6 ∧ (mkTo [0, 1, 0, 2] [5, 3, 5, 0] 4).nw = 2 ∧ whI (mkTo [0, 1, 0, 2] [5, 3, 5, 0] 4) = 1 ∧ (mkTo [0, 1, 0, 2] [5, 3, 5, 0] 4).st = 4 ∧ honL [0, 1, 0, 2] [5, 3, 5, 0] = 3 := by decide +kernel
  obtain ⟨h0, h1, h2, h3, h4, h5, h6, h7⟩ := h
  unfold markV
  show Value.agg #[.int .i64 (ptL exS (mkTo [0, 1, 0, 2] [5, 3, 5, 0] 4)), .int .i64 (mkTo [0, 1, 0, 2] [5, 3, 5, 0] 4).pk, .int .i64 (mkTo [0, 1, 0, 2] [5, 3, 5, 0] 4).wr, .int .i64 (mkTo [0, 1, 0, 2] [5, 3, 5, 0] 4).pr, .int .i64 (mkTo [0, 1, 0, 2] [5, 3, 5, 0] 4).nw, .int .i64 (whI (mkTo [0, 1, 0, 2] [5, 3, 5, 0] 4)), .int .i64 (mkTo [0, 1, 0, 2] [5, 3, 5, 0] 4).st, .int .i64 (honL [0, 1, 0, 2] [5, 3, 5, 0])] = _
  rw [h0, h1, h2, h3, h4, h5, h6, h7]

end Go.Proofs.Ytcmacejpoihhlaa

namespace Go.Proofs.Ytcmacejpoihhlaa
open Go.RowKit

theorem lit4s (w : World) (a b c d : Int) (t : TypeId) (h : ∀ v ∈ [a, b, c, d], I64 v) : RdI (w.alloc (.cells #[.int .i64 a, .int .i64 b, .int .i64 c, .int .i64 d] t)) (some ⟨w.heap.size, 0, none⟩) 4 [a, b, c, d] :=
  (OwnI.lit w t [a, b, c, d] 4 (by omega) rfl 0 (by omega) h).rd

set_option maxHeartbeats 4000000 in
set_option maxRecDepth 100000 in
theorem scored_any (w : World) : Calls Try.prog 76 #[] w fun e w' => e = .returned (.bool true) ∧ Below w.heap.size w w' := by
  go_enter Try.func76, Try.ntmps76
  go_wp2_with fail
  have HL0 := Lib.hid ((lit4s w 0 0 1 1 3 (by simp [I64])).alloc (.cells #[.int .i64 0, .int .i64 1, .int .i64 0, .int .i64 1] 3))
  have hl1 := lit4s (w.alloc (.cells #[.int .i64 0, .int .i64 0, .int .i64 1, .int .i64 1] 3)) 0 1 0 1 3 (by simp [I64])
  rw [show (w.alloc (.cells #[.int .i64 0, .int .i64 0, .int .i64 1, .int .i64 1] 3)).heap.size = w.heap.size + 1 by simp] at hl1
  have HL1 := Lib.hid hl1
  clear hl1
  have HB := Lib.hid (((Below.refl _ w).alloc (Nat.le_refl _) (.cells #[.int .i64 0, .int .i64 0, .int .i64 1, .int .i64 1] 3)).alloc (by simp) (.cells #[.int .i64 0, .int .i64 1, .int .i64 0, .int .i64 1] 3))
  have HMV := Lib.hid (moves_any (some ⟨w.heap.size, 0, none⟩) (some ⟨w.heap.size + 1, 0, none⟩) 4 4 4 4 [0, 0, 1, 1] [0, 1, 0, 1] _ HL0.out HL1.out)
  rw [mv_ex] at HMV
  refine HMV.out.mono ?_; rintro e w2 ⟨rfl, b2⟩
  have HB2 := Lib.hid (HB.out.trans (b2.mono HB.out.size))
  clear b2 HL0 HL1 HB HMV
  go_wp2_with fail
  have HL0 := Lib.hid ((lit4s w2 0 1 0 2 3 (by simp [I64])).alloc (.cells #[.int .i64 5, .int .i64 3, .int .i64 5, .int .i64 0] 3))
  have hl1 := lit4s (w2.alloc (.cells #[.int .i64 0, .int .i64 1, .int .i64 0, .int .i64 2] 3)) 5 3 5 0 3 (by simp [I64])
  rw [show (w2.alloc (.cells #[.int .i64 0, .int .i64 1, .int .i64 0, .int .i64 2] 3)).heap.size = w2.heap.size + 1 by simp] at hl1
  have HL1 := Lib.hid hl1
  clear hl1
  have HB := Lib.hid ((HB2.out.alloc HB2.out.size (.cells #[.int .i64 0, .int .i64 1, .int .i64 0, .int .i64 2] 3)).alloc (Nat.le_trans HB2.out.size (by simp)) (.cells #[.int .i64 5, .int .i64 3, .int .i64 5, .int .i64 0] 3))
  have HMK := Lib.hid (markP_any exS none (some ⟨w2.heap.size, 0, none⟩) (some ⟨w2.heap.size + 1, 0, none⟩) 0 0 4 4 4 [0, 1, 0, 2] [5, 3, 5, 0] _ RdI.nil_ (Nat.le_refl _) HL0.out HL1.out (by decide) (by simp) exS_ok)
  rw [ex_mark] at HMK
  refine HMK.out.mono ?_; rintro e w3 ⟨rfl, b3⟩
  have HB3 := Lib.hid (HB.out.trans (b3.mono HB.out.size))
  clear b3 HL0 HL1 HB HB2 HMK
  have HB4 := Lib.hid (HB3.out.alloc HB3.out.size (.cells #[.int .i64 36, .int .i64 4, .int .i64 0, .int .i64 6, .int .i64 2, .int .i64 1, .int .i64 4, .int .i64 3] 82))
  go_wp2
  go_ret
  exact ⟨rfl, HB4.out⟩
end Go.Proofs.Ytcmacejpoihhlaa
