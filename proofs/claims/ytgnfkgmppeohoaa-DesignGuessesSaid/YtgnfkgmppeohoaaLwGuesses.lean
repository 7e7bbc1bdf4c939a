/- Walk: the statement DesignGuesses. -/
import Derived.Test.YtgnfkgmppeohoaaMgS
namespace Go.Proofs.Ytgnfkgmppeohoaa
open Go.RowKit

set_option maxHeartbeats 400000 in
theorem long5_any (A : Option Addr) (n c : Nat) (w : World) (h : n ≤ 17592186044416) : Calls Try.prog 18 #[.slice A n c] w fun e w' => e = .returned (.bool (decide (40 < n))) ∧ w = w' := by
  by_cases h1 : 40 < n
  · have g : decide (40 < (n : Int)) = true := decide_eq_true (by omega)
    have hI : (40 : Int) < n := by omega
    go_enter Try.func18, Try.ntmps18
    go_wp2
    go_ret
    exact ⟨ret_bool (by simp [h1]), rfl⟩
  · have g : decide (40 < (n : Int)) = false := decide_eq_false (by omega)
    have hI : (n : Int) ≤ 40 := by omega
    go_enter Try.func18, Try.ntmps18
    go_wp2
    go_ret
    exact ⟨ret_bool (by simp; omega), rfl⟩

set_option maxHeartbeats 4000000 in
set_option maxRecDepth 100000 in
theorem designGuesses_any (A0 : Option Addr) (n0 c0 : Nat) (A1 : Option Addr) (n1 c1 : Nat) (l0 : List Int) (d0 : Int) (nums : List Int) (w : World) (h0 : RdI w A0 n0 l0) (hd0 : I64 d0) (h1 : RdI w A1 n1 nums) :
    Calls Try.prog 4 #[.agg #[.slice A0 n0 c0, .int .i64 d0], .slice A1 n1 c1] w fun e w' => e = .returned (.bool true) ∧ Below w.heap.size w w' := by
  have hbd := h0.bd
  go_enter Try.func4, Try.ntmps4
  go_upto_region 1 with fail
  have HA := Lib.hid (h0.alloc (.cells #[.slice A0 n0 c0, .int .i64 d0] 24))
  have HN := Lib.hid (h1.alloc (.cells #[.slice A0 n0 c0, .int .i64 d0] 24))
  have HB := Lib.hid ((Below.refl _ w).alloc (Nat.le_refl _) (.cells #[.slice A0 n0 c0, .int .i64 d0] 24))
  have HX := Lib.hid (Blk.new w 24 #[.slice A0 n0 c0, .int .i64 d0])
  clear h0 h1
  generalize w.alloc (.cells #[.slice A0 n0 c0, .int .i64 d0] 24) = W at HA HB HX HN ⊢
  have k0 : W.cell? ⟨w.heap.size, 0, none⟩ = some (.slice A0 n0 c0) := by rw [HX.out.cell]; rfl
  have k1 : W.cell? ⟨w.heap.size, 1, none⟩ = some (.int .i64 d0) := by rw [HX.out.cell]; rfl
  by_cases hlong : 40 < n0
  · have gl : decide (40 < n0) = true := decide_eq_true hlong
    go_wp2_with fail
    refine (long5_any A0 n0 c0 W hbd).mono ?_; rintro e w' ⟨rfl, rfl⟩
    rw [gl]
    go_wp2_with fail
    refine (awake5_any W).mono ?_; rintro e w8 ⟨rfl, hb8⟩
    have HBF := Lib.hid (HB.out.trans (hb8.mono HB.out.size))
    clear hb8
    go_wp2
    go_ret
    exact ⟨rfl, HBF.out⟩
  · have gl : decide (40 < n0) = false := decide_eq_false hlong
    go_wp2_with fail
    refine (long5_any A0 n0 c0 W hbd).mono ?_; rintro e w' ⟨rfl, rfl⟩
    rw [gl]
    have hxl := HX.out.lt
    go_upto_region 3 with fail
    go_region_held3 (fun w' => w'.cell? ⟨w.heap.size, 0, none⟩ = some (.slice A0 n0 c0) ∧ w'.cell? ⟨w.heap.size, 1, none⟩ = some (.int .i64 d0)) (first | exact ⟨k0, k1⟩ | exact ⟨j0, j1⟩ | exact ⟨i0, i1⟩ | exact ⟨q0, q1⟩) (first
      | (go_at_call 20; refine (boxOf_any A1 n1 c1 nums W.drew HN.out.drew).mono ?_; rintro e w2 ⟨g, rfl, hg, hbox, hb2⟩; have j0 := (hb2.cell (p := ⟨w.heap.size, 0, none⟩) hxl).trans k0; have j1 := (hb2.cell (p := ⟨w.heap.size, 1, none⟩) hxl).trans k1)
      | (go_at_call 21; refine (stockOf_any g 5 5 7 w2 hbox (by omega) (by omega) (by omega) (by omega) (by omega) (by omega)).mono ?_; rintro e w3 ⟨A, n, c, l, d, rfl, hbd, h4, hown, hsp⟩; have hb3 := hsp.below hg hb2.size; have i0 := (hb3.cell (p := ⟨w.heap.size, 0, none⟩) hxl).trans j0; have i1 := (hb3.cell (p := ⟨w.heap.size, 1, none⟩) hxl).trans j1; have hxl3 : w.heap.size < w3.heap.size := (by have h9 : W.heap.size ≤ w2.heap.size := hb2.size; have := hsp.grown.size; omega); have q0 := (World.cell?_alloc_lt w3 (.cells #[.slice A0 n0 c0, .int .i64 d0, .slice A n c, .int .i64 d] 24) ⟨w.heap.size, 0, none⟩ hxl3).trans i0; have q1 := (World.cell?_alloc_lt w3 (.cells #[.slice A0 n0 c0, .int .i64 d0, .slice A n c, .int .i64 d] 24) ⟨w.heap.size, 1, none⟩ hxl3).trans i1))
    have HB3 := Lib.hid (HB.out.trans (((Below.refl _ W).drew.trans (hb2.trans hb3)).mono HB.out.size))
    have H1 := Lib.hid ((HA.out.drew.below (hb2.trans hb3)).alloc (.cells #[.slice A0 n0 c0, .int .i64 d0, .slice A n c, .int .i64 d] 24))
    have H2 := Lib.hid (hown.rd.alloc (.cells #[.slice A0 n0 c0, .int .i64 d0, .slice A n c, .int .i64 d] 24))
    have hsz : W.heap.size ≤ w3.heap.size := by have h9 : W.heap.size ≤ w2.heap.size := hb2.size; have := hsp.grown.size; omega
    have HB4 := Lib.hid (HB3.out.alloc HB3.out.size (.cells #[.slice A0 n0 c0, .int .i64 d0, .slice A n c, .int .i64 d] 24))
    have HY := Lib.hid (Blk.new w3 24 #[.slice A0 n0 c0, .int .i64 d0, .slice A n c, .int .i64 d])
    have hd7 : d ≤ 7 := hbd.2.2.2.1
    have HFT : Hid (∀ t : Nat, t < 2 → ∀ Wx, Below (w3.alloc (.cells #[.slice A0 n0 c0, .int .i64 d0, .slice A n c, .int .i64 d] 24)).heap.size (w3.alloc (.cells #[.slice A0 n0 c0, .int .i64 d0, .slice A n c, .int .i64 d] 24)) Wx →
        ∃ (A' : Option Addr) (n' c' : Nat) (l' : List Int) (d' : Int), Wx.cell? ⟨w3.heap.size, t * 2, none⟩ = some (.slice A' n' c') ∧ Wx.cell? ⟨w3.heap.size, t * 2 + 1, none⟩ = some (.int .i64 d') ∧ RdI Wx A' n' l' ∧ I64 d') := Lib.hid (by
      intro t ht Wx hW
      have e1 := HY.out.below hW
      match t, ht with
      | 0, _ => exact ⟨A0, n0, c0, l0, d0, by rw [e1.cell]; rfl, by rw [e1.cell]; rfl, H1.out.below hW, hd0⟩
      | 1, _ => exact ⟨A, n, c, l, d, by rw [e1.cell]; rfl, by rw [e1.cell]; rfl, H2.out.below hW, I64.small (by omega)⟩)
    obtain ⟨q, hq⟩ : ∃ q, w3.heap.size = q := ⟨_, rfl⟩
    have hsq : (w3.alloc (.cells #[.slice A0 n0 c0, .int .i64 d0, .slice A n c, .int .i64 d] 24)).heap.size = q + 1 := by simp [hq]
    rw [hq] at HFT ⊢
    clear q0 q1 i0 i1 j0 j1 hown hsp hb3 hb2 hbox hq HB3 H1 H2 HY h4 hbd
    generalize w3.alloc (.cells #[.slice A0 n0 c0, .int .i64 d0, .slice A n c, .int .i64 d] 24) = W4 at HFT HB4 hsq ⊢
    have HSQ := Lib.hid hsq
    clear hsq
    go_wp2_with fail
    go_loopw [6] (fun i wr => ∃ t : Nat, t ≤ 2 ∧ i = .int .i64 t ∧ Below W4.heap.size W4 wr) (fun i _ => 2 - (intOf i).toNat)
    case atStart => exact ⟨0, by omega, rfl, Below.refl _ _⟩
    case round =>
      obtain ⟨t, ht, rfl, hbel⟩ := hrel
      have HBE := Lib.hid hbel
      have hszr := hbel.size
      clear hbel
      by_cases hlt : t < 2
      · obtain ⟨A', n', c', l', d', ca, cb, ra, rd⟩ := HFT.out t hlt wr HBE.out
        have hqr : q < wr.heap.size := by have := HSQ.out; omega
        have HRA := Lib.hid ra
        have HD := Lib.hid rd
        clear ra rd
        go_wp2_with fail
        refine (shapesP_any A' n' c' l' d' wr HRA.out HD.out).mono ?_; rintro e w6 ⟨A6, c6, rfl, h6, b6⟩
        obtain ⟨x, hx⟩ : ∃ x, shapesE l' d' = x := ⟨_, rfl⟩
        rw [hx] at h6 ⊢
        have HXE := Lib.hid hx
        have ca := (b6.cell (p := ⟨q, t * 2, none⟩) hqr).trans ca
        have cb := (b6.cell (p := ⟨q, t * 2 + 1, none⟩) hqr).trans cb
        have H6 := Lib.hid h6.rd
        have HR6 := Lib.hid (HRA.out.below b6)
        have HB6 := Lib.hid (HBE.out.trans (b6.mono hszr))
        have hq6 : q < w6.heap.size := by have := b6.size; omega
        clear h6 b6 hx HRA
        go_wp2_with fail
        refine (rshapes_any A' n' c' l' d' w6 HR6.out HD.out).mono ?_; rintro e w7 ⟨A7, c7, rfl, h7, b7⟩
        rw [HXE.out] at h7 ⊢
        have ca := (b7.cell (p := ⟨q, t * 2, none⟩) hq6).trans ca
        have cb := (b7.cell (p := ⟨q, t * 2 + 1, none⟩) hq6).trans cb
        have H7 := Lib.hid h7.rd
        have H67 := Lib.hid (H6.out.below b7)
        have HR7 := Lib.hid (HR6.out.below b7)
        have HB7 := Lib.hid (HB6.out.trans (b7.mono HB6.out.size))
        have hq7 : q < w7.heap.size := by have := b7.size; omega
        clear h7 b7 H6 HR6 HXE
        go_wp2_with fail
        refine (guessP_any A' n' c' l' d' w7 HR7.out HD.out).mono ?_; rintro e w8 ⟨A8, c8, rfl, h8, b8⟩
        obtain ⟨y, hy⟩ : ∃ y, guessE l' d' = y := ⟨_, rfl⟩
        rw [hy] at h8 ⊢
        have HYE := Lib.hid hy
        have ca := (b8.cell (p := ⟨q, t * 2, none⟩) hq7).trans ca
        have cb := (b8.cell (p := ⟨q, t * 2 + 1, none⟩) hq7).trans cb
        have H8 := Lib.hid h8.rd
        have H68 := Lib.hid (H67.out.below b8)
        have H78 := Lib.hid (H7.out.below b8)
        have HR8 := Lib.hid (HR7.out.below b8)
        have HB8 := Lib.hid (HB7.out.trans (b8.mono HB7.out.size))
        clear h8 b8 H67 H7 HR7 hy
        go_wp2_with fail
        refine (rguessE_any A' n' c' l' d' w8 HR8.out HD.out).mono ?_; rintro e w9 ⟨A9, c9, rfl, h9, b9⟩
        rw [HYE.out] at h9 ⊢
        have H9 := Lib.hid h9
        have H69 := Lib.hid (H68.out.below b9)
        have H79 := Lib.hid (H78.out.below b9)
        have H89 := Lib.hid (H8.out.below b9)
        have HB9 := Lib.hid (HB8.out.trans (b9.mono HB8.out.size))
        clear h9 b9 H68 H78 H8 HR8 HYE ca cb
        go_wp2_with fail
        refine (eq_any A6 A7 x.1.length x.1.length c6 c7 x.1 x.1 w9 H69.out H79.out).mono ?_; rintro e w' ⟨rfl, d1, rfl⟩
        rw [beq_self_eq_true]
        have H8n := Lib.hid (H89.out.drewN d1)
        have H9n := Lib.hid (H9.out.drewN d1)
        have HBn := Lib.hid (below_drewN HB9.out d1)
        generalize w9.drewN d1 = w12 at H8n H9n HBn ⊢
        go_wp2_with fail
        refine (eq_any A8 A9 y.1.length y.1.length c8 c9 y.1 y.1 w12 H8n.out H9n.out).mono ?_; rintro e w' ⟨rfl, d2, rfl⟩
        rw [beq_self_eq_true]
        have HBm := Lib.hid (below_drewN HBn.out d2)
        generalize w12.drewN d2 = w13 at HBm ⊢
        go_wp2
        go_roundw
        case rel => exact ⟨t + 1, by omega, by go_num, HBm.out⟩
        case measure => simp [intOf]; omega
      · have HBX := Lib.hid (HB4.out.trans (HBE.out.mono HB4.out.size))
        have ht2 : (2 : Int) ≤ t := by omega
        go_wp2_with fail
        refine (awake5_any wr).mono ?_; rintro e w8 ⟨rfl, hb8⟩
        have HBF := Lib.hid (HBX.out.trans (hb8.mono HBX.out.size))
        clear hb8
        go_wp2
        go_ret
        exact ⟨rfl, HBF.out⟩
end Go.Proofs.Ytgnfkgmppeohoaa
