/- Walk: the statement DesignAll. -/
import Derived.Test.YtcmacejpoihhlaaMgS
import Derived.Test.YtcmacejpoihhlaaMgC
namespace Go.Proofs.Ytcmacejpoihhlaa
open Go.RowKit

theorem unrank_pr {d r : Nat} (h1 : 1 ≤ d) (h9 : d ≤ 9) (hr : (r : Int) < countR d) : unrankE (d : Int) (r : Int) = (pr d r, 0) := by
  unfold unrankE
  rw [if_neg (by omega), Int.toNat_natCast, if_neg (by omega)]; rfl
theorem chanceE_pr {l : List Int} {d r : Nat} (h1 : 1 ≤ d) (h7 : d ≤ 7) (hz : chkS l d = 0) : chanceE l d (pr d r) = (waysOf l (pr d r), 0) := by
  unfold chanceE
  rw [if_neg (by omega), if_neg (by rw [pr_chk h1 h7 r]; simp), if_neg (by rw [pr_len]; simp)]

set_option maxHeartbeats 4000000 in
set_option maxRecDepth 100000 in
theorem designAll_any (A0 : Option Addr) (n0 c0 : Nat) (nums : List Int) (w : World) (h : RdI w A0 n0 nums) : Calls Try.prog 8 #[.slice A0 n0 c0] w fun e w' => e = .returned (.bool true) ∧ Below w.heap.size w w' := by
  obtain ⟨i0, hi0, hz0, hz1, hz2⟩ := info_parts intInfo
  go_enter Try.func8, Try.ntmps8
  go_wp2_with fail
  refine (boxOf_any A0 n0 c0 nums w h).mono ?_; rintro e w1 ⟨g, rfl, hg, hbox, hb1⟩
  have HBX := Lib.hid hbox
  have HB1 := Lib.hid hb1
  have hgl := hbox.lt
  clear hbox hb1 h
  go_wp2_with fail
  refine (stockOf_any g 4 4 5 w1 HBX.out (by omega) (by omega) (by omega) (by omega) (by omega) (by omega)).mono ?_; rintro e w2 ⟨A, n, c, l, d, rfl, hbd, h4, hown, hsp⟩
  have hd5 : d ≤ 5 := hbd.2.2.2.1
  have hd1 : 1 ≤ d := hbd.2.2.1
  have hn4 : n ≤ 4 := hbd.2.1
  have HZ := Lib.hid (stock_chk hown.len hbd.1 (by omega) h4 (by omega) hd1 (by omega) hbd.2.2.2.2)
  have HSC := Lib.hid (shaped_ok HZ.out (by omega))
  have HLN := Lib.hid hown.len
  have H4 : Hid (∀ x ∈ l, 0 ≤ x ∧ x ≤ 4) := Lib.hid (fun x hx => by have := h4 x hx; omega)
  have HS16 : Hid (sumI l ≤ 16) := Lib.hid (by
    have := (sumI_bd (B := 4) l H4.out).2
    rw [HLN.out] at this; omega)
  have HDS := Lib.hid hbd.2.2.2.2
  have HR := Lib.hid (hown.rd.alloc (.cells #[.slice A n c, .int .i64 d] 24))
  have HX := Lib.hid (Blk.new w2 24 #[.slice A n c, .int .i64 d])
  have HB := Lib.hid (HB1.out.trans (((hsp.below hg HB1.out.size)).alloc (Nat.le_trans HB1.out.size hsp.grown.size) (.cells #[.slice A n c, .int .i64 d] 24)))
  have hn1 := hbd.1
  clear hown hsp h4 hbd
  go_upto_region 2 with fail
  obtain ⟨q, hq⟩ : ∃ q, w2.heap.size = q := ⟨_, rfl⟩
  rw [hq] at HX ⊢
  generalize w2.alloc (.cells #[.slice A n c, .int .i64 d] 24) = W2 at HR HX HB ⊢
  clear hq HBX HB1
  have c0 : W2.cell? ⟨q, 0, none⟩ = some (.slice A n c) := by rw [HX.out.cell]; rfl
  have c1 : W2.cell? ⟨q, 1, none⟩ = some (.int .i64 d) := by rw [HX.out.cell]; rfl
  obtain ⟨S, hS⟩ : ∃ S, sumI l = S := ⟨_, rfl⟩
  have HWE : Hid (waysE l d = (fallN S d, 0)) := Lib.hid (by unfold waysE; rw [if_neg (by rw [HZ.out]; simp), hS, Int.toNat_natCast])
  have hft := fallN_54 (f := S) (by have := HS16.out; omega) d (by have := HDS.out; omega) (by omega)
  have hcp := count_pos hd1 (by omega : d ≤ 6)
  obtain ⟨m, hm⟩ : ∃ m : Nat, countR d = m := ⟨(countR d).toNat, by omega⟩
  have HSW : Hid (sS m (fun r => waysOf l (pr d r)) = fallN S d) := Lib.hid (by
    have := sum_ways hd1 hd5 (fun x hx => (H4.out x hx).1)
    rw [hm, Int.toNat_natCast, hS] at this; exact this)
  have HWB : Hid (∀ r, 0 ≤ waysOf l (pr d r)) := Lib.hid (fun r => (waysOf_bd (by rw [HLN.out]; omega) (chkS_ok HZ.out).2.2.1 (pr_chk hd1 (by omega) r)).1)
  have HSL : Hid (∀ r, r ≤ m → 0 ≤ sS r (fun r => waysOf l (pr d r)) ∧ sS r (fun r => waysOf l (pr d r)) ≤ fallN S d) := Lib.hid (fun r hr => by
    refine ⟨sS_nonneg (fun k _ => HWB.out k), ?_⟩
    have key : ∀ t, sS r (fun r => waysOf l (pr d r)) ≤ sS (r + t) (fun r => waysOf l (pr d r)) := by
      intro t
      induction t with
      | zero => exact Int.le_refl _
      | succ t ih => rw [← Nat.add_assoc, sS_succ]; have := HWB.out (r + t); omega
    have := key (m - r)
    rw [show r + (m - r) = m by omega, HSW.out] at this
    exact this)
  obtain ⟨T, hT⟩ : ∃ T, fallN S d = T := ⟨_, rfl⟩
  rw [hT] at HWE HSW HSL hft
  have HCM := Lib.hid hm
  rw [hm] at hcp
  have HUN : Hid (∀ r, r < m → unrankE (d : Int) (r : Int) = (pr d r, 0)) := Lib.hid (fun r hr => unrank_pr hd1 (by omega) (by rw [HCM.out]; omega))
  have HCE : Hid (∀ r, chanceE l d (pr d r) = (waysOf l (pr d r), 0)) := Lib.hid (fun r => chanceE_pr hd1 (by omega) HZ.out)
  have HPL : Hid (∀ r, (pr d r).length = d) := Lib.hid (pr_len d)
  have HCO : Hid (countE (d : Int) = ((m : Int), 0)) := Lib.hid (by unfold countE; rw [if_neg (by omega), Int.toNat_natCast, hm])
  clear hm hT hS
  go_wp2_with fail
  refine (ways_any A n c l d W2 HR.out (I64.small (by omega))).mono ?_; rintro e w3 ⟨rfl, b3⟩
  rw [HWE.out]
  have HR3 := Lib.hid (HR.out.below b3)
  have HX3 := Lib.hid (HX.out.below b3)
  have HB3 := Lib.hid (HB.out.trans (b3.mono HB.out.size))
  have c0 : w3.cell? ⟨q, 0, none⟩ = some (.slice A n c) := by rw [HX3.out.cell]; rfl
  have c1 : w3.cell? ⟨q, 1, none⟩ = some (.int .i64 d) := by rw [HX3.out.cell]; rfl
  clear b3 HR HX HB HWE
  go_wp2_with fail
  refine (shapesP_any A n c l d w3 HR3.out (I64.small (by omega))).mono ?_; rintro e w4 ⟨A4, c4, rfl, h4, b4⟩
  rw [shapesE_ok HSC.out] at h4 ⊢
  simp only at h4 ⊢
  rw [shapesTo_len] at h4 ⊢
  rw [HCM.out, Int.toNat_natCast] at h4 ⊢
  have HSH := Lib.hid h4.rd
  have HR4 := Lib.hid (HR3.out.below b4)
  have HX4 := Lib.hid (HX3.out.below b4)
  have HB4 := Lib.hid (HB3.out.trans (b4.mono HB3.out.size))
  have c1 : w4.cell? ⟨q, 1, none⟩ = some (.int .i64 d) := by rw [HX4.out.cell]; rfl
  clear h4 b4 HR3 HX3 HB3 c0
  go_wp2_with fail
  refine (count_any (d : Int) w4).mono ?_; rintro e w5 ⟨rfl, b5⟩
  rw [HCO.out]
  have HSH5 := Lib.hid (HSH.out.below b5)
  have HR5 := Lib.hid (HR4.out.below b5)
  have HX5 := Lib.hid (HX4.out.below b5)
  have HB5 := Lib.hid (HB4.out.trans (b5.mono HB4.out.size))
  clear b5 HSH HR4 HX4 HB4 c1
  have hT0 : 1 ≤ T := hft.1
  have hT1 : T ≤ 3904305912313344 := hft.2
  clear hft
  go_wp2_with fail
  go_loopw [10, 11] (fun s i wr => ∃ r : Nat, r ≤ m ∧ i = .int .i64 r ∧ s = .int .i64 (sS r (fun r => waysOf l (pr d r))) ∧ RdI wr A4 m (shapesTo l d m) ∧ RdI wr A n l ∧ Blk wr q 24 #[.slice A n c, .int .i64 d] ∧ Below w.heap.size w wr) (fun _ i _ => m - (intOf i).toNat)
  case atStart => exact ⟨0, by omega, rfl, rfl, HSH5.out, HR5.out, HX5.out, HB5.out⟩
  case round =>
    obtain ⟨r, hr, rfl, rfl, hsh, hrl, hxx, hbw⟩ := hrel
    have HSHr := Lib.hid hsh
    have HRr := Lib.hid hrl
    have HXr := Lib.hid hxx
    have HBr := Lib.hid hbw
    have hbs := HSL.out r hr
    clear hsh hrl hxx hbw HSH5 HR5 HX5 HB5
    by_cases hrm : r < m
    · have HNX : Hid (sS (r + 1) (fun r => waysOf l (pr d r)) = sS r (fun r => waysOf l (pr d r)) + waysOf l (pr d r)) := Lib.hid (sS_succ _ _)
      have hb2 := HSL.out (r + 1) hrm
      rw [HNX.out] at hb2
      have hnn := HWB.out r
      obtain ⟨x, hx⟩ : ∃ x, waysOf l (pr d r) = x := ⟨_, rfl⟩
      obtain ⟨y, hy⟩ : ∃ y, sS r (fun r => waysOf l (pr d r)) = y := ⟨_, rfl⟩
      rw [hx] at hb2 hnn
      rw [hx, hy] at HNX
      rw [hy] at hb2 hbs ⊢
      have HCEr : Hid (chanceE l d (pr d r) = (x, 0)) := Lib.hid (by rw [HCE.out r, hx])
      have HGX : Hid ((shapesTo l d m)[r]? = some x) := Lib.hid (by unfold shapesTo; rw [List.getElem?_map, List.getElem?_range hrm]; simp only [Option.map_some]; rw [hx])
      have c1 : wr.cell? ⟨q, 1, none⟩ = some (.int .i64 d) := by rw [HXr.out.cell]; rfl
      have hrmI : (r : Int) < m := by omega
      have HUr := Lib.hid (HUN.out r hrm)
      have HPr := Lib.hid (HPL.out r)
      clear hx hy
      go_wp2_with fail
      refine (unrank_any (d : Int) (r : Int) wr).mono ?_; rintro e w6 ⟨A6, c6, rfl, h6, b6⟩
      rw [HUr.out] at h6 ⊢
      simp only at h6 ⊢
      rw [HPr.out] at h6 ⊢
      have HP6 := Lib.hid h6.rd
      have HSH6 := Lib.hid (HSHr.out.below b6)
      have HR6 := Lib.hid (HRr.out.below b6)
      have HX6 := Lib.hid (HXr.out.below b6)
      have HB6 := Lib.hid (HBr.out.trans (b6.mono HBr.out.size))
      have c0 : w6.cell? ⟨q, 0, none⟩ = some (.slice A n c) := by rw [HX6.out.cell]; rfl
      have c1 : w6.cell? ⟨q, 1, none⟩ = some (.int .i64 d) := by rw [HX6.out.cell]; rfl
      clear h6 b6 HSHr HRr HXr HBr
      go_wp2_with fail
      refine (chancePE_any A A6 n c d c6 l (pr d r) d w6 HR6.out HP6.out (I64.small (by omega))).mono ?_; rintro e w7 ⟨rfl, b7⟩
      rw [HCEr.out]
      have HSH7 := Lib.hid (HSH6.out.below b7)
      have HR7 := Lib.hid (HR6.out.below b7)
      have HX7 := Lib.hid (HX6.out.below b7)
      have HB7 := Lib.hid (HB6.out.trans (b7.mono HB6.out.size))
      clear b7 HSH6 HR6 HX6 HB6 c0 c1 HP6
      obtain ⟨sd, x', rfl, _, hv, _, hcv⟩ := HSH7.out.at_ hrm
      obtain rfl : x = x' := by have := hv.out; rw [HGX.out] at this; injection this
      clear hv
      go_wp2
      go_roundw
      case rel => exact ⟨r + 1, by omega, by go_num, by rw [HNX.out], HSH7.out, HR7.out, HX7.out, HB7.out⟩
      case measure => simp [intOf]; omega
    · obtain rfl : r = m := by omega
      rw [HSW.out]
      clear hbs
      by_cases h3 : T ≤ 3000
      · have HRM : Hid (List.replicate r (0 : Int) = List.replicate (countR d).toNat 0) := Lib.hid (by rw [HCM.out, Int.toNat_natCast])
        have HCA : Hid (crsF d [] l (List.replicate r 0) = shapesTo l d r) := Lib.hid (by
          have := crs_all hd1 hd5 (fun x hx => (H4.out x hx).1)
          rwa [HCM.out, Int.toNat_natCast] at this)
        go_upto_region 20 with (at_make; go_must (refine wpList_make_full wr rfl (.tmp 94) (.tmp 94) 22 rfl wr.heap.size 3 i0 (.int .i64 0) 1 Try.underlying22 hi0 hz0 hz1 .i64 .i64 r r r rfl rfl rfl rfl (by rw [hz2]; omega) (by unfold maxLen; omega) (Nat.le_refl _) ?_); intro w3 hown hg3)
        have hb3 : Below wr.heap.size wr w3 := (Below.refl _ _).grown hg3 (Nat.le_refl _) (by simp)
        have hP0 : OwnI w3 wr.heap.size 3 (some ⟨wr.heap.size, 0, none⟩) r r (List.replicate r 0) := by
          refine ⟨⟨?_, by omega⟩, fun v hv => ?_⟩
          · rw [show (madeCells (Value.int .i64 0).cells (r * 1)).toList = ints (List.replicate r 0) from by rw [Nat.mul_one]; show (madeCells #[Value.int .i64 0] r).toList = _; rw [toList_madeCells_one]; simp [ints]] at hown
            exact hown
          · rw [(List.mem_replicate.1 hv).2]
            exact I64.small (by omega)
        have HQ3 := Lib.hid hP0
        have HSH3 := Lib.hid (HSHr.out.below hb3)
        have HR3 := Lib.hid (HRr.out.below hb3)
        have HX3 := Lib.hid (HXr.out.below hb3)
        have HB3 := Lib.hid (HBr.out.trans (hb3.mono HBr.out.size))
        have HAN : Hid (∀ b, A.map (·.block) = some b → b ≠ wr.heap.size) := Lib.hid fun b e => by have := HRr.out.block (by omega) e; omega
        have HSN : Hid (∀ b, A4.map (·.block) = some b → b ≠ wr.heap.size) := Lib.hid fun b e => by have := HSHr.out.block (by omega) e; omega
        have HGW : Hid (w.heap.size ≤ wr.heap.size) := HBr.out.size
        clear hown hg3 hb3 hP0 HSHr HRr HXr HBr hi0 hz0 hz1 hz2 i0
        generalize wr.heap.size = gp at HQ3 HAN HSN HGW ⊢
        have c0 : w3.cell? ⟨q, 0, none⟩ = some (.slice A n c) := by rw [HX3.out.cell]; rfl
        have c1 : w3.cell? ⟨q, 1, none⟩ = some (.int .i64 d) := by rw [HX3.out.cell]; rfl
        have HNO : Hid (r = (countR d).toNat) := Lib.hid (by rw [HCM.out]; rfl)
        have HBZ : Hid (BdO 0 (List.replicate r 0)) := Lib.hid (fun x hx => by rw [(List.mem_replicate.1 hx).2]; omega)
        have H16 : Hid ((0 : Int) + 16 ^ d ≤ 1000000000000) := Lib.hid (by
          have h : d = 1 ∨ d = 2 ∨ d = 3 ∨ d = 4 ∨ d = 5 := by omega
          rcases h with rfl | rfl | rfl | rfl | rfl <;> decide)
        have HCR := Lib.hid (courses_any d gp gp r r hd1 hd5 HNO.out d [] l (List.replicate r 0) none A 0 n 0 c 0 w3 (by omega) RdI.nil_ (fun b e => by cases e) HR3.out HAN.out hn4 H4.out HS16.out HQ3.out HBZ.out (Int.le_refl _) H16.out)
        go_wp2_with fail
        refine HCR.out.mono ?_; rintro e w4 ⟨rfl, ho4, hg4⟩
        rw [HCA.out] at ho4
        have HO4 := Lib.hid ho4.rd
        have HSH4 := Lib.hid (HSH3.out.grown hg4 (fun b e e2 => by injection e with e; exact HSN.out b e2 e.symm))
        have HB4 := Lib.hid (HB3.out.trans ((Below.refl _ _).grown hg4 HB3.out.size (fun k hk => by injection hk with hk; rw [← hk]; exact HGW.out)))
        clear ho4 hg4 HCR HQ3 HSH3 HR3 HX3 HB3 c0 c1 HCA HRM
        go_wp2_with fail
        refine (eq_any (some ⟨gp, 0, none⟩) A4 r r r c4 (shapesTo l d r) (shapesTo l d r) w4 HO4.out HSH4.out).mono ?_; rintro e w' ⟨rfl, d1, rfl⟩
        rw [beq_self_eq_true]
        have HB5 := Lib.hid (below_drewN HB4.out d1)
        clear HO4 HSH4 HB4
        generalize w4.drewN d1 = w5 at HB5 ⊢
        go_wp2_with fail
        refine (awake5_any w5).mono ?_; rintro e w8 ⟨rfl, hb8⟩
        have HBF := Lib.hid (HB5.out.trans (hb8.mono HB5.out.size))
        clear hb8
        go_wp2
        go_ret
        exact ⟨rfl, HBF.out⟩
      · have h3' : ¬T ≤ 3000 := h3
        go_wp2_with fail
        refine (awake5_any wr).mono ?_; rintro e w8 ⟨rfl, hb8⟩
        have HBF := Lib.hid (HBr.out.trans (hb8.mono HBr.out.size))
        clear hb8
        go_wp2
        go_ret
        exact ⟨rfl, HBF.out⟩
end Go.Proofs.Ytcmacejpoihhlaa
