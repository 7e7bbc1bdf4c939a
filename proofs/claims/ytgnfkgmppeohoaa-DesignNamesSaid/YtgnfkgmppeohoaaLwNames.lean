/- Walk: the statement DesignNames. -/
import Derived.Test.YtgnfkgmppeohoaaMgS
import Derived.Test.YtgnfkgmppeohoaaMgQ
namespace Go.Proofs.Ytgnfkgmppeohoaa
open Go.RowKit

theorem mxC_perm {c c' : List Int} (h : c.Perm c') : mxC c = mxC c' := by
  have key : ∀ (a : Int), c.foldl max a = c'.foldl max a := by
    induction h with
    | nil => intro a; rfl
    | cons x _ ih => intro a; exact ih _
    | swap x y l => intro a; simp only [List.foldl_cons]; rw [show max (max a y) x = max (max a x) y by omega]
    | trans _ _ ih1 ih2 => intro a; rw [ih1, ih2]
  exact key 0
theorem countedE_perm {c c' : List Int} (h : c.Perm c') (d : Int) : countedE c d = countedE c' d := by
  unfold countedE mostN; rw [chkS_perm h, sumI_perm h, mxC_perm h]
theorem guessE_perm {c c' : List Int} (h : c.Perm c') (d : Int) : guessE c d = guessE c' d := by
  unfold guessE shapedC
  rw [chkS_perm h]
  simp only [fun n k => bestTo_perm h n k]
theorem stk2 {w : World} {g : Nat} {A : Option Addr} {k c : Nat} {d : Int} (h : Blk w g 24 #[.slice A k c, .int .i64 d]) : w.cell? ⟨g, 0, none⟩ = some (.slice A k c) ∧ w.cell? ⟨g, 1, none⟩ = some (.int .i64 d) :=
  ⟨by rw [h.cell]; rfl, by rw [h.cell]; rfl⟩

set_option maxHeartbeats 4000000 in
set_option maxRecDepth 100000 in
theorem designNames_any (A0 : Option Addr) (n0 c0 : Nat) (nums : List Int) (w : World) (h : RdI w A0 n0 nums) : Calls Try.prog 5 #[.slice A0 n0 c0] w fun e w' => e = .returned (.bool true) ∧ Below w.heap.size w w' := by
  go_enter Try.func5, Try.ntmps5
  go_wp2_with fail
  refine (boxOf_any A0 n0 c0 nums w h).mono ?_; rintro e w1 ⟨g, rfl, hg, hbox, hb1⟩
  have HBX := Lib.hid hbox
  have HB1 := Lib.hid hb1
  have hgl := hbox.lt
  clear hbox hb1 h
  go_wp2_with fail
  refine (stockOf_any g 5 5 6 w1 HBX.out (by omega) (by omega) (by omega) (by omega) (by omega) (by omega)).mono ?_; rintro e w2 ⟨A, n, c, l, d, rfl, hbd, h4, hown, hsp⟩
  have hd6 : d ≤ 6 := hbd.2.2.2.1
  have hd1 : 1 ≤ d := hbd.2.2.1
  have hn5 : n ≤ 5 := hbd.2.1
  have hn1 : 1 ≤ n := hbd.1
  have HZ := Lib.hid (stock_chk (kinds := 5) hown.len hbd.1 (by omega) h4 (by omega) hd1 (by omega) hbd.2.2.2.2)
  have HSC := Lib.hid (shaped_ok HZ.out hd6)
  have HO := Lib.hid (hown.alloc (.cells #[.slice A n c, .int .i64 d] 24))
  have HX := Lib.hid (Blk.new w2 24 #[.slice A n c, .int .i64 d])
  have HB := Lib.hid (HB1.out.trans (((hsp.below hg HB1.out.size)).alloc (Nat.le_trans HB1.out.size hsp.grown.size) (.cells #[.slice A n c, .int .i64 d] 24)))
  have HBX2 := Lib.hid (hsp.box.alloc (.cells #[.slice A n c, .int .i64 d] 24))
  have HL := Lib.hid hown.len
  have H9 : Hid (∀ x ∈ l, I64 x) := Lib.hid hown.2
  have hq12 := hsp.grown.size
  clear hown hsp h4 hbd
  go_upto_region 3 with fail
  obtain ⟨q, hq⟩ : ∃ q, w2.heap.size = q := ⟨_, rfl⟩
  have hgq : g < q := by omega
  have hwq : w.heap.size ≤ q := by omega
  rw [hq] at HX ⊢
  generalize w2.alloc (.cells #[.slice A n c, .int .i64 d] 24) = W2 at HO HX HB HBX2 ⊢
  clear hq HBX HB1 hq12
  have c0 : W2.cell? ⟨q, 0, none⟩ = some (.slice A n c) := by rw [HX.out.cell]; rfl
  go_wp2_with fail
  refine (order_any g n W2 HBX2.out (by omega)).mono ?_; rintro e w3 ⟨Ao, co, O, rfl, hperm, hownO, hsp⟩
  have HP := Lib.hid hperm
  have HOO := Lib.hid hownO.rd
  have hAoq : ∀ b, Ao.map (·.block) = some b → W2.heap.size ≤ b := fun b e => (hownO.1.block e).1
  have HR3 := Lib.hid (HO.out.spun_ hsp (by omega)).rd
  have HX3 : Hid (Blk w3 q 24 #[.slice A n c, .int .i64 d]) := Lib.hid (HX.out.grown hsp.grown (fun e => by injection e with e; omega))
  have HB3 := Lib.hid (HB.out.trans (hsp.below hg HB.out.size))
  have c0 : w3.cell? ⟨q, 0, none⟩ = some (.slice A n c) := by rw [HX3.out.cell]; rfl
  have c1 : w3.cell? ⟨q, 1, none⟩ = some (.int .i64 d) := by rw [HX3.out.cell]; rfl
  have hq3 := HX3.out.lt
  clear hperm hownO hsp HO HX HB HBX2 hAoq
  go_upto_region 5 with fail
  have HR4 := Lib.hid (HR3.out.alloc (.cells #[.slice none 0 0, .int .i64 d] 24))
  have HOO4 := Lib.hid (HOO.out.alloc (.cells #[.slice none 0 0, .int .i64 d] 24))
  have HX4 := Lib.hid (HX3.out.alloc (.cells #[.slice none 0 0, .int .i64 d] 24))
  have HY4 := Lib.hid (Blk.new w3 24 #[.slice none 0 0, .int .i64 d])
  have HB4 := Lib.hid (HB3.out.alloc HB3.out.size (.cells #[.slice none 0 0, .int .i64 d] 24))
  obtain ⟨r, hr⟩ : ∃ r, w3.heap.size = r := ⟨_, rfl⟩
  have hs4 : (w3.alloc (.cells #[.slice none 0 0, .int .i64 d] 24)).heap.size = r + 1 := by simp [hr]
  have HAB : Hid (∀ b, A.map (·.block) = some b → b < r) := Lib.hid (fun b e => by
    rw [← hr]; exact HR3.out.block (by omega) e)
  have HOB : Hid (∀ b, Ao.map (·.block) = some b → b < r) := Lib.hid (fun b e => by rw [← hr]; exact HOO.out.block (by omega) e)
  have hwr : w.heap.size ≤ r := by have := HB3.out.size; omega
  rw [hr] at HY4 hq3 ⊢
  generalize w3.alloc (.cells #[.slice none 0 0, .int .i64 d] 24) = w4 at HR4 HOO4 HX4 HY4 HB4 hs4 ⊢
  clear hr HR3 HOO HX3 HB3 c0 c1
  have HS4 := Lib.hid hs4
  clear hs4
  go_wp2_with fail
  go_loopw [7] (fun i wr => ∃ (j : Nat) (A' : Option Addr) (c' : Nat), j ≤ n ∧ i = .int .i64 j ∧ Blk wr r 24 #[.slice A' j c', .int .i64 d] ∧ OwnI wr (r + 1) 3 A' j c' ((O.map fun i => l.getD i.toNat 0).take j) ∧ Blk wr q 24 #[.slice A n c, .int .i64 d] ∧ RdI wr A n l ∧ RdI wr Ao n O ∧ Below w.heap.size w wr ∧ r + 1 ≤ wr.heap.size) (fun i _ => n - (intOf i).toNat)
  case atStart => exact ⟨0, none, 0, by omega, rfl, HY4.out, OwnI.nil_ _ _ _, HX4.out, HR4.out, HOO4.out, HB4.out, by have := HS4.out; omega⟩
  case round =>
    obtain ⟨j, A', c', hj, rfl, hy, hown, hx, hra, hro, hbw, hsz⟩ := hrel
    have HY := Lib.hid hy
    have HO := Lib.hid hown
    have HX := Lib.hid hx
    have HRA := Lib.hid hra
    have HRO := Lib.hid hro
    have HBW := Lib.hid hbw
    have k0 : wr.cell? ⟨r, 0, none⟩ = some (.slice A' j c') := by rw [hy.cell]; rfl
    have k1 : wr.cell? ⟨q, 0, none⟩ = some (.slice A n c) := by rw [hx.cell]; rfl
    have kf := hy.frozen 0
    clear hy hown hx hra hro hbw HY4 HX4 HR4 HOO4 HB4
    by_cases hlt : j < n
    · obtain ⟨bo, o, rfl, _, ho, _, hco⟩ := HRO.out.at_ hlt
      have hom := rangeI_mem.1 (HP.out.mem_iff.1 (List.mem_of_getElem? ho.out))
      obtain ⟨o, rfl⟩ : ∃ o' : Nat, o = o' := ⟨o.toNat, by omega⟩
      have hon : (o : Int) < n := hom.2
      obtain ⟨ba, v, rfl, _, hv, hv64, hcv⟩ := HRA.out.at_ (show o < n by omega)
      have HT : Hid ((O.map fun i => l.getD i.toNat 0).take (j + 1) = (O.map fun i => l.getD i.toNat 0).take j ++ [v]) := Lib.hid (take_of_get (by rw [List.getElem?_map, ho.out]; simp only [Option.map_some, Int.toNat_natCast]; rw [getD_of_get hv.out]))
      clear hom
      have hon2 : o < n := by omega
      have hj2 : j + 1 ≤ 1000000 := by omega
      go_upto_region 8 with fail
      have k2 : (wr.alloc (.cells #[.int .i64 v] 3)).cell? ⟨r, 0, none⟩ = some (.slice A' j c') := (World.cell?_alloc_lt wr _ ⟨r, 0, none⟩ (by show r < wr.heap.size; omega)).trans k0
      have hszd : r + 1 ≤ wr.drew.heap.size := hsz
      have HOD := Lib.hid (OwnI.drew HO.out)
      have HYD : Hid (Blk wr.drew r 24 #[.slice A' j c', .int .i64 d]) := Lib.hid HY.out.drew
      go_region_law (refine step_appI1 wr.drew (by rfl) (.tmp 43) (.tmp 52) (by rfl) (v := v) _ (by rfl) (by rfl) HOD.out hv64 hj2 hszd ?_; intro A2 c2 w5 hown2 hgrow hbel; have HY5 := Lib.hid (HYD.out.below2 hbel (Nat.lt_succ_self _)); have hc4 := (stk_of HY5.out).1; have hf4 := (stk_of HY5.out).2)
      all_goals
        have HO5 := Lib.hid hown2
        have HBE := Lib.hid hbel
        have HBR : Hid (Below (r + 1) wr w5) := Lib.hid ((Below.refl (r + 1) wr).drew.trans hbel)
        clear hown2 hgrow hbel HYD HOD hc4 hf4 k2 hszd
        have HFI : Hid (Blk (w5.setCell ⟨r, 0, none⟩ (.slice A2 (j + 1) c2)) r 24 #[.slice A2 (j + 1) c2, .int .i64 d] ∧ OwnI (w5.setCell ⟨r, 0, none⟩ (.slice A2 (j + 1) c2)) (r + 1) 3 A2 (j + 1) c2 ((O.map fun i => l.getD i.toNat 0).take (j + 1)) ∧ Blk (w5.setCell ⟨r, 0, none⟩ (.slice A2 (j + 1) c2)) q 24 #[.slice (some ba) n c, .int .i64 d] ∧ RdI (w5.setCell ⟨r, 0, none⟩ (.slice A2 (j + 1) c2)) (some ba) n l ∧ RdI (w5.setCell ⟨r, 0, none⟩ (.slice A2 (j + 1) c2)) (some bo) n O ∧ Below w.heap.size w (w5.setCell ⟨r, 0, none⟩ (.slice A2 (j + 1) c2)) ∧ r + 1 ≤ (w5.setCell ⟨r, 0, none⟩ (.slice A2 (j + 1) c2)).heap.size) := Lib.hid (by
          have hba : ba.block < r := HAB.out _ rfl
          have hbo : bo.block < r := HOB.out _ rfl
          have e1 : ∀ p : Addr, p.block < r → w5.cell? p = wr.cell? p := fun p hp => HBR.out.cell (show p.block < r + 1 by omega)
          have hsz5 : wr.heap.size ≤ w5.heap.size := HBR.out.size
          refine ⟨HY5.out.set_ 0 _, by rw [HT.out]; exact HO5.out.far (p := ⟨r, 0, none⟩) (fun e => by have h9 : r + 1 ≤ r := (HO5.out.1.block e).1; omega) _, (HX.out.below2 HBR.out (by omega)).far (p := ⟨r, 0, none⟩) (by show q ≠ r; omega) _, ?_, ?_, (HBW.out.trans (HBR.out.mono (by omega))).setCell (p := ⟨r, 0, none⟩) hwr _, by simp [World.setCell]; omega⟩
          · exact RdI.setCell ⟨HRA.out.1.keep hsz5 (fun p _ hA => e1 p (by have h9 : ba.block = p.block := (by injection hA); omega)), HRA.out.2⟩ (fun e => by have h9 : ba.block = r := (by injection e); omega) _
          · exact RdI.setCell ⟨HRO.out.1.keep hsz5 (fun p _ hA => e1 p (by have h9 : bo.block = p.block := (by injection hA); omega)), HRO.out.2⟩ (fun e => by have h9 : bo.block = r := (by injection e); omega) _)
        generalize w5.setCell ⟨r, 0, none⟩ (.slice A2 (j + 1) c2) = w6 at HFI ⊢
        clear HY5 HO5 HBE HBR HX HRA HRO HBW k0 k1 kf HO HY
        go_wp2
        go_roundw
        case rel => exact ⟨j + 1, A2, c2, by omega, by go_num, HFI.out⟩
        case measure => simp [intOf]; omega
    · obtain rfl : j = n := by omega
      have hmp : List.Perm (O.map fun i => l.getD i.toNat 0) l := perm_pick (by rw [HL.out]; exact HP.out)
      have hml : (O.map fun i => l.getD i.toNat 0).length = j := by rw [List.length_map, HP.out.length_eq, rangeI_len]
      obtain ⟨L2, hL2⟩ : ∃ L2, (O.map fun i => l.getD i.toNat 0) = L2 := ⟨_, rfl⟩
      rw [hL2, List.take_of_length_le (by rw [← hL2]; omega)] at HO
      rw [hL2] at hmp
      have HE1 : Hid (shapesE L2 d = shapesE l d) := Lib.hid (shapesE_perm hmp d)
      have HE2 : Hid (guessE L2 d = guessE l d) := Lib.hid (guessE_perm hmp d)
      have HE3 : Hid (countedE L2 d = countedE l d) := Lib.hid (countedE_perm hmp d)
      have HV1 : Hid ((shapesE l d).2 = 0) := Lib.hid (by rw [shapesE_ok HSC.out])
      have HV2 : Hid ((guessE l d).2.2 = 0) := Lib.hid (by rw [guessE_ok HSC.out])
      have HV3 : Hid ((countedE l d).2.2 = 0) := Lib.hid (by rw [countedE_ok HZ.out])
      have HD64 : Hid (I64 (d : Int)) := Lib.hid (I64.small (by omega))
      have HR2 := Lib.hid HO.out.rd
      clear hmp hml hL2 HO kf k0 k1
      obtain ⟨k0, k1⟩ := stk2 HX.out
      go_wp2_with fail
      refine (shapesP_any A j c l d wr HRA.out HD64.out).mono ?_; rintro e w6 ⟨A6, c6, rfl, h6, b6⟩
      generalize shapesE l d = x at h6 HE1 HV1 ⊢
      obtain ⟨x1, x2⟩ := x
      simp only at HV1
      have hv1 := HV1.out
      subst hv1
      simp only at h6 ⊢
      have H6 := Lib.hid h6.rd
      have HX6 := Lib.hid (HX.out.below b6)
      have HY6 := Lib.hid (HY.out.below b6)
      have HR6 := Lib.hid (HRA.out.below b6)
      have HT6 := Lib.hid (HR2.out.below b6)
      have HB6 := Lib.hid (HBW.out.trans (b6.mono HBW.out.size))
      clear h6 b6 HX HY HRA HR2 HBW k0 k1 HV1
      obtain ⟨k0, k1⟩ := stk2 HY6.out
      go_wp2_with fail
      refine (shapesP_any A' j c' L2 d w6 HT6.out HD64.out).mono ?_; rintro e w7 ⟨A7, c7, rfl, h7, b7⟩
      rw [HE1.out] at h7 ⊢
      simp only at h7 ⊢
      have H7 := Lib.hid h7.rd
      have H67 := Lib.hid (H6.out.below b7)
      have HX7 := Lib.hid (HX6.out.below b7)
      have HY7 := Lib.hid (HY6.out.below b7)
      have HR7 := Lib.hid (HR6.out.below b7)
      have HT7 := Lib.hid (HT6.out.below b7)
      have HB7 := Lib.hid (HB6.out.trans (b7.mono HB6.out.size))
      clear h7 b7 H6 HX6 HY6 HR6 HT6 HB6 k0 k1 HE1
      obtain ⟨k0, k1⟩ := stk2 HX7.out
      go_wp2_with fail
      refine (guessP_any A j c l d w7 HR7.out HD64.out).mono ?_; rintro e w8 ⟨A8, c8, rfl, h8, b8⟩
      generalize guessE l d = y at h8 HE2 HV2 ⊢
      obtain ⟨y1, y2, y3⟩ := y
      simp only at HV2
      have hv2 := HV2.out
      subst hv2
      simp only at h8 ⊢
      have H8 := Lib.hid h8.rd
      have H68 := Lib.hid (H67.out.below b8)
      have H78 := Lib.hid (H7.out.below b8)
      have HX8 := Lib.hid (HX7.out.below b8)
      have HY8 := Lib.hid (HY7.out.below b8)
      have HR8 := Lib.hid (HR7.out.below b8)
      have HT8 := Lib.hid (HT7.out.below b8)
      have HB8 := Lib.hid (HB7.out.trans (b8.mono HB7.out.size))
      clear h8 b8 H67 H7 HX7 HY7 HR7 HT7 HB7 k0 k1 HV2
      obtain ⟨k0, k1⟩ := stk2 HY8.out
      go_wp2_with fail
      refine (guessP_any A' j c' L2 d w8 HT8.out HD64.out).mono ?_; rintro e w9 ⟨A9, c9, rfl, h9, b9⟩
      rw [HE2.out] at h9 ⊢
      simp only at h9 ⊢
      have H9' := Lib.hid h9.rd
      have H69 := Lib.hid (H68.out.below b9)
      have H79 := Lib.hid (H78.out.below b9)
      have H89 := Lib.hid (H8.out.below b9)
      have HX9 := Lib.hid (HX8.out.below b9)
      have HY9 := Lib.hid (HY8.out.below b9)
      have HR9 := Lib.hid (HR8.out.below b9)
      have HT9 := Lib.hid (HT8.out.below b9)
      have HB9 := Lib.hid (HB8.out.trans (b9.mono HB8.out.size))
      clear h9 b9 H68 H78 H8 HX8 HY8 HR8 HT8 HB8 k0 k1 HE2
      obtain ⟨k0, k1⟩ := stk2 HX9.out
      go_wp2_with fail
      refine (counted_any A j c l d w9 HR9.out HD64.out).mono ?_; rintro e w10 ⟨rfl, b10⟩
      generalize countedE l d = z at HE3 HV3 ⊢
      obtain ⟨z1, z2, z3⟩ := z
      simp only at HV3
      have hv3 := HV3.out
      subst hv3
      simp only
      have H610 := Lib.hid (H69.out.below b10)
      have H710 := Lib.hid (H79.out.below b10)
      have H810 := Lib.hid (H89.out.below b10)
      have H910 := Lib.hid (H9'.out.below b10)
      have HY10 := Lib.hid (HY9.out.below b10)
      have HT10 := Lib.hid (HT9.out.below b10)
      have HB10 := Lib.hid (HB9.out.trans (b10.mono HB9.out.size))
      clear b10 H69 H79 H89 H9' HX9 HY9 HR9 HT9 HB9 k0 k1 HV3
      obtain ⟨k0, k1⟩ := stk2 HY10.out
      go_wp2_with fail
      refine (counted_any A' j c' L2 d w10 HT10.out HD64.out).mono ?_; rintro e w11 ⟨rfl, b11⟩
      rw [HE3.out]
      simp only
      have H611 := Lib.hid (H610.out.below b11)
      have H711 := Lib.hid (H710.out.below b11)
      have H811 := Lib.hid (H810.out.below b11)
      have H911 := Lib.hid (H910.out.below b11)
      have HB11 := Lib.hid (HB10.out.trans (b11.mono HB10.out.size))
      clear b11 H610 H710 H810 H910 HY10 HT10 HB10 k0 k1 HE3
      go_wp2_with fail
      refine (eq_any A6 A7 x1.length x1.length c6 c7 x1 x1 w11 H611.out H711.out).mono ?_; rintro e w' ⟨rfl, d1, rfl⟩
      rw [beq_self_eq_true]
      have H8n := Lib.hid (H811.out.drewN d1)
      have H9n := Lib.hid (H911.out.drewN d1)
      have HBn := Lib.hid (below_drewN HB11.out d1)
      generalize w11.drewN d1 = w12 at H8n H9n HBn ⊢
      go_wp2_with fail
      refine (eq_any A8 A9 y1.length y1.length c8 c9 y1 y1 w12 H8n.out H9n.out).mono ?_; rintro e w' ⟨rfl, d2, rfl⟩
      rw [beq_self_eq_true]
      have HBm := Lib.hid (below_drewN HBn.out d2)
      generalize w12.drewN d2 = w13 at HBm ⊢
      go_wp2_with fail
      refine (awake5_any w13).mono ?_; rintro e w14 ⟨rfl, hb8⟩
      have HBF := Lib.hid (HBm.out.trans (hb8.mono HBm.out.size))
      clear hb8
      go_wp2
      go_ret
      exact ⟨rfl, HBF.out⟩
end Go.Proofs.Ytgnfkgmppeohoaa
