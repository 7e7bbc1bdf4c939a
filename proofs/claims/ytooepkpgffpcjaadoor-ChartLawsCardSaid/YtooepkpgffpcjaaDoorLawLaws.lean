/- Walk: the statement ChartLaws. -/
import Derived.Test.YtooepkpgffpcjaaDoorLawFiner
namespace Go.Proofs.YtooepkpgffpcjaaDoor
open Go.RowKit

set_option maxHeartbeats 400000 in
theorem lawFiner_any (A B : Option Addr) (n c d : Nat) (l r : List Int) (w : World) (h1 : RdI w A n l) (h2 : RdI w B n r) (hl : chk l = 0) (hr : chk r = 0) :
    Calls Tryd.prog 57 #[.slice A n c, .slice B n d] w fun e w' => e = .returned (.bool (finB l r)) ∧ Below w.heap.size w w' := by
  have HE := Lib.hid (finE_ok hl hr (by rw [h1.len, h2.len]))
  obtain ⟨x, hx⟩ : ∃ x, x = finB l r := ⟨_, rfl⟩
  rw [← hx] at HE ⊢
  clear hl hr hx
  go_enter Tryd.func57, Tryd.ntmps57
  go_wp2_with fail
  refine (finer_any A B n n c d l r w h1 h2).mono ?_; rintro e w3 ⟨rfl, hb⟩
  rw [HE.out]
  have HB := Lib.hid hb
  clear hb
  simp only
  cases x
  · go_wp2
    go_ret
    exact ⟨rfl, HB.out⟩
  · go_wp2
    go_ret
    exact ⟨rfl, HB.out⟩
theorem meetE_ok {a b : List Int} (ha : chk a = 0) (hb : chk b = 0) (h : a.length = b.length) : meetE a b = (meetL a b, 0) := by
  have : chk2 a b = 0 := by unfold chk2; rw [ha, hb]; simp [h]
  unfold meetE; rw [if_neg (by omega)]
theorem joinE_ok {a b : List Int} (ha : chk a = 0) (hb : chk b = 0) (h : a.length = b.length) : joinE a b = (joinL a b, 0) := by
  have : chk2 a b = 0 := by unfold chk2; rw [ha, hb]; simp [h]
  unfold joinE; rw [if_neg (by omega)]
theorem fin_true {a b : List Int} (h : Fin_ a b) : finB a b = true := finB_iff.2 h

set_option maxHeartbeats 4000000 in
set_option maxRecDepth 100000 in
theorem chartLaws_any (A0 : Option Addr) (n0 c0 : Nat) (nums : List Int) (w : World) (h : RdI w A0 n0 nums) (hs : Signs w) :
    Calls Tryd.prog 12 #[.slice A0 n0 c0] w (Held w) := by
  have HSG := Lib.hid hs
  clear hs
  go_enter Tryd.func12, Tryd.ntmps12
  go_wp2_with fail
  refine (boxOf_any A0 n0 c0 nums w h).mono ?_; rintro e w1 ⟨g, rfl, hg, hbox, hb1⟩
  have HB1 := Lib.hid hb1
  have HBX := Lib.hid hbox
  clear hb1 hbox h
  go_wp2_with fail
  refine (three_any g w1 HBX.out).mono ?_; rintro e w2 ⟨n, P, Q, R, cp, cq, cr, p, q, r, rfl, hn1, hn8, hcp, hcq, hcr, rp, rq, rr, hsp⟩
  have HB2 := Lib.hid (HB1.out.trans (hsp.below hg HB1.out.size))
  have HP2 := Lib.hid rp
  have HQ2 := Lib.hid rq
  have HR2 := Lib.hid rr
  have hlp := rp.len
  have hlq := rq.len
  have hlr := rr.len
  have epq : p.length = q.length := by omega
  have epr : p.length = r.length := by omega
  have eqr : q.length = r.length := by omega
  have EM := Lib.hid (meetE_ok hcp hcq epq)
  have EJ := Lib.hid (joinE_ok hcp hcq epq)
  have hcm := chk_meet epq hcp
  have hcj := chk_join (b := q) hcp
  have elm := meetL_length epq
  have elj := joinL_length p q
  have em : (meetL p q).length = r.length := by omega
  have ej : (joinL p q).length = r.length := by omega
  have EL := Lib.hid (meetE_ok hcm hcr em)
  have EH := Lib.hid (joinE_ok hcj hcr ej)
  have EA := Lib.hid (meetE_ok hcp hcj (by omega))
  have EBB := Lib.hid (joinE_ok hcp hcm (by omega))
  have hcl := chk_meet em hcm
  have hch := chk_join (b := r) hcj
  have ell := meetL_length em
  have elh := joinL_length (joinL p q) r
  have HLM : Hid ((meetL p q).length = n) := Lib.hid (by omega)
  have HLJ : Hid ((joinL p q).length = n) := Lib.hid (by omega)
  have HLL : Hid ((meetL (meetL p q) r).length = n) := Lib.hid (by omega)
  have HLH : Hid ((joinL (joinL p q) r).length = n) := Lib.hid (by omega)
  have HLA : Hid (meetL p (joinL p q) = p) := Lib.hid (meet_join hcp)
  have HLB : Hid (joinL p (meetL p q) = p) := Lib.hid (join_meet epq hcp hcq)
  have fmp := fin_meet_left epq hcq
  have fmq := fin_meet_right epq hcq
  have fpj := fin_join_left p q
  have fqj := fin_join_right epq
  have flm := fin_meet_left em hcr
  have fjh := fin_join_left (joinL p q) r
  have F_mp := Lib.hid (fin_true fmp)
  have F_mq := Lib.hid (fin_true fmq)
  have F_pj := Lib.hid (fin_true fpj)
  have F_qj := Lib.hid (fin_true fqj)
  have F_lp := Lib.hid (fin_true (fin_trans ell flm fmp))
  have F_lq := Lib.hid (fin_true (fin_trans ell flm fmq))
  have F_ph := Lib.hid (fin_true (fin_trans elj.symm fpj fjh))
  have F_qh := Lib.hid (fin_true (fin_trans (show q.length = (joinL p q).length by omega) fqj fjh))
  have F_lm := Lib.hid (fin_true flm)
  have F_jh := Lib.hid (fin_true fjh)
  have F_rm : Hid (finB r p = true → finB r q = true → finB r (meetL p q) = true) := Lib.hid fun h1 h2 => fin_true (fin_meet epq hcq epr.symm (finB_iff.1 h1) (finB_iff.1 h2))
  have F_jr : Hid (finB p r = true → finB q r = true → finB (joinL p q) r = true) := Lib.hid fun h1 h2 => fin_true (fin_join epq (finB_iff.1 h1) (finB_iff.1 h2))
  have CP := Lib.hid hcp
  have CQ := Lib.hid hcq
  have CR := Lib.hid hcr
  have CM := Lib.hid hcm
  have CJ := Lib.hid hcj
  have CL := Lib.hid hcl
  have CH := Lib.hid hch
  clear hsp rp rq rr hcp hcq hcr hlp hlq hlr HB1 HBX hg epq epr eqr hcm hcj elm elj em ej hcl hch ell elh fmp fmq fpj fqj flm fjh
  have hn9 : n ≤ 9 := by omega
  go_wp2_with fail
  refine (meetP_any P Q n n cp cq (p) (q) w2 HP2.out HQ2.out).mono ?_; rintro e w3 ⟨M, cm, rfl, ho, hb⟩
  rw [EM.out] at ho
  rw [EM.out]
  simp only at ho ⊢
  rw [HLM.out] at ho
  rw [HLM.out]
  have HM3 := Lib.hid ho.rd
  clear ho
  have HB3 := Lib.hid (HB2.out.trans (hb.mono HB2.out.size))
  have HP3 := Lib.hid (HP2.out.below hb)
  have HQ3 := Lib.hid (HQ2.out.below hb)
  have HR3 := Lib.hid (HR2.out.below hb)
  clear hb HB2 HP2 HQ2 HR2
  go_wp2_with fail
  refine (joinP_any P Q n n cp cq (p) (q) w3 HP3.out HQ3.out).mono ?_; rintro e w4 ⟨J, cj, rfl, ho, hb⟩
  rw [EJ.out] at ho
  rw [EJ.out]
  simp only at ho ⊢
  rw [HLJ.out] at ho
  rw [HLJ.out]
  have HJ4 := Lib.hid ho.rd
  clear ho
  have HB4 := Lib.hid (HB3.out.trans (hb.mono HB3.out.size))
  have HP4 := Lib.hid (HP3.out.below hb)
  have HQ4 := Lib.hid (HQ3.out.below hb)
  have HR4 := Lib.hid (HR3.out.below hb)
  have HM4 := Lib.hid (HM3.out.below hb)
  clear hb HB3 HP3 HQ3 HR3 HM3
  go_wp2_with fail
  refine (lawFiner_any M P n cm cp (meetL p q) (p) w4 HM4.out HP4.out CM.out CP.out).mono ?_; rintro e w5 ⟨rfl, hb⟩
  rw [F_mp.out]
  have HB5 := Lib.hid (HB4.out.trans (hb.mono HB4.out.size))
  have HP5 := Lib.hid (HP4.out.below hb)
  have HQ5 := Lib.hid (HQ4.out.below hb)
  have HR5 := Lib.hid (HR4.out.below hb)
  have HM5 := Lib.hid (HM4.out.below hb)
  have HJ5 := Lib.hid (HJ4.out.below hb)
  clear hb HB4 HP4 HQ4 HR4 HM4 HJ4
  go_wp2_with fail
  refine (lawFiner_any M Q n cm cq (meetL p q) (q) w5 HM5.out HQ5.out CM.out CQ.out).mono ?_; rintro e w6 ⟨rfl, hb⟩
  rw [F_mq.out]
  have HB6 := Lib.hid (HB5.out.trans (hb.mono HB5.out.size))
  have HP6 := Lib.hid (HP5.out.below hb)
  have HQ6 := Lib.hid (HQ5.out.below hb)
  have HR6 := Lib.hid (HR5.out.below hb)
  have HM6 := Lib.hid (HM5.out.below hb)
  have HJ6 := Lib.hid (HJ5.out.below hb)
  clear hb HB5 HP5 HQ5 HR5 HM5 HJ5
  go_wp2_with fail
  refine (lawFiner_any P J n cp cj (p) (joinL p q) w6 HP6.out HJ6.out CP.out CJ.out).mono ?_; rintro e w7 ⟨rfl, hb⟩
  rw [F_pj.out]
  have HB7 := Lib.hid (HB6.out.trans (hb.mono HB6.out.size))
  have HP7 := Lib.hid (HP6.out.below hb)
  have HQ7 := Lib.hid (HQ6.out.below hb)
  have HR7 := Lib.hid (HR6.out.below hb)
  have HM7 := Lib.hid (HM6.out.below hb)
  have HJ7 := Lib.hid (HJ6.out.below hb)
  clear hb HB6 HP6 HQ6 HR6 HM6 HJ6
  go_wp2_with fail
  refine (lawFiner_any Q J n cq cj (q) (joinL p q) w7 HQ7.out HJ7.out CQ.out CJ.out).mono ?_; rintro e w8 ⟨rfl, hb⟩
  rw [F_qj.out]
  have HB8 := Lib.hid (HB7.out.trans (hb.mono HB7.out.size))
  have HP8 := Lib.hid (HP7.out.below hb)
  have HQ8 := Lib.hid (HQ7.out.below hb)
  have HR8 := Lib.hid (HR7.out.below hb)
  have HM8 := Lib.hid (HM7.out.below hb)
  have HJ8 := Lib.hid (HJ7.out.below hb)
  clear hb HB7 HP7 HQ7 HR7 HM7 HJ7
  go_wp2_with fail
  refine (meetP_any M R n n cm cr (meetL p q) (r) w8 HM8.out HR8.out).mono ?_; rintro e w9 ⟨L, cl, rfl, ho, hb⟩
  rw [EL.out] at ho
  rw [EL.out]
  simp only at ho ⊢
  rw [HLL.out] at ho
  rw [HLL.out]
  have HL9 := Lib.hid ho.rd
  clear ho
  have HB9 := Lib.hid (HB8.out.trans (hb.mono HB8.out.size))
  have HP9 := Lib.hid (HP8.out.below hb)
  have HQ9 := Lib.hid (HQ8.out.below hb)
  have HR9 := Lib.hid (HR8.out.below hb)
  have HM9 := Lib.hid (HM8.out.below hb)
  have HJ9 := Lib.hid (HJ8.out.below hb)
  clear hb HB8 HP8 HQ8 HR8 HM8 HJ8
  go_wp2_with fail
  refine (joinP_any J R n n cj cr (joinL p q) (r) w9 HJ9.out HR9.out).mono ?_; rintro e w10 ⟨H, ch, rfl, ho, hb⟩
  rw [EH.out] at ho
  rw [EH.out]
  simp only at ho ⊢
  rw [HLH.out] at ho
  rw [HLH.out]
  have HH10 := Lib.hid ho.rd
  clear ho
  have HB10 := Lib.hid (HB9.out.trans (hb.mono HB9.out.size))
  have HP10 := Lib.hid (HP9.out.below hb)
  have HQ10 := Lib.hid (HQ9.out.below hb)
  have HR10 := Lib.hid (HR9.out.below hb)
  have HM10 := Lib.hid (HM9.out.below hb)
  have HJ10 := Lib.hid (HJ9.out.below hb)
  have HL10 := Lib.hid (HL9.out.below hb)
  clear hb HB9 HP9 HQ9 HR9 HM9 HJ9 HL9
  have HPL : Hid (p.length = n) := Lib.hid HP10.out.len
  go_wp2_with fail
  refine (meetP_any P J n n cp cj (p) (joinL p q) w10 HP10.out HJ10.out).mono ?_; rintro e w11 ⟨X, cx, rfl, ho, hb⟩
  rw [EA.out, HLA.out] at ho
  rw [EA.out, HLA.out]
  simp only at ho ⊢
  rw [HPL.out] at ho
  rw [HPL.out]
  have HX11 := Lib.hid ho.rd
  clear ho
  have HB11 := Lib.hid (HB10.out.trans (hb.mono HB10.out.size))
  have HP11 := Lib.hid (HP10.out.below hb)
  have HQ11 := Lib.hid (HQ10.out.below hb)
  have HR11 := Lib.hid (HR10.out.below hb)
  have HM11 := Lib.hid (HM10.out.below hb)
  have HJ11 := Lib.hid (HJ10.out.below hb)
  have HL11 := Lib.hid (HL10.out.below hb)
  have HH11 := Lib.hid (HH10.out.below hb)
  clear hb HB10 HP10 HQ10 HR10 HM10 HJ10 HL10 HH10
  go_wp2_with fail
  refine (joinP_any P M n n cp cm (p) (meetL p q) w11 HP11.out HM11.out).mono ?_; rintro e w12 ⟨Y, cy, rfl, ho, hb⟩
  rw [EBB.out, HLB.out] at ho
  rw [EBB.out, HLB.out]
  simp only at ho ⊢
  rw [HPL.out] at ho
  rw [HPL.out]
  have HY12 := Lib.hid ho.rd
  clear ho
  have HB12 := Lib.hid (HB11.out.trans (hb.mono HB11.out.size))
  have HP12 := Lib.hid (HP11.out.below hb)
  have HQ12 := Lib.hid (HQ11.out.below hb)
  have HR12 := Lib.hid (HR11.out.below hb)
  have HM12 := Lib.hid (HM11.out.below hb)
  have HJ12 := Lib.hid (HJ11.out.below hb)
  have HL12 := Lib.hid (HL11.out.below hb)
  have HH12 := Lib.hid (HH11.out.below hb)
  have HX12 := Lib.hid (HX11.out.below hb)
  clear hb HB11 HP11 HQ11 HR11 HM11 HJ11 HL11 HH11 HX11
  go_wp2_with fail
  refine (lawFiner_any L P n cl cp (meetL (meetL p q) r) (p) w12 HL12.out HP12.out CL.out CP.out).mono ?_; rintro e w13 ⟨rfl, hb⟩
  rw [F_lp.out]
  have HB13 := Lib.hid (HB12.out.trans (hb.mono HB12.out.size))
  have HP13 := Lib.hid (HP12.out.below hb)
  have HQ13 := Lib.hid (HQ12.out.below hb)
  have HR13 := Lib.hid (HR12.out.below hb)
  have HM13 := Lib.hid (HM12.out.below hb)
  have HJ13 := Lib.hid (HJ12.out.below hb)
  have HL13 := Lib.hid (HL12.out.below hb)
  have HH13 := Lib.hid (HH12.out.below hb)
  have HX13 := Lib.hid (HX12.out.below hb)
  have HY13 := Lib.hid (HY12.out.below hb)
  clear hb HB12 HP12 HQ12 HR12 HM12 HJ12 HL12 HH12 HX12 HY12
  go_wp2_with fail
  refine (lawFiner_any L Q n cl cq (meetL (meetL p q) r) (q) w13 HL13.out HQ13.out CL.out CQ.out).mono ?_; rintro e w14 ⟨rfl, hb⟩
  rw [F_lq.out]
  have HB14 := Lib.hid (HB13.out.trans (hb.mono HB13.out.size))
  have HP14 := Lib.hid (HP13.out.below hb)
  have HQ14 := Lib.hid (HQ13.out.below hb)
  have HR14 := Lib.hid (HR13.out.below hb)
  have HM14 := Lib.hid (HM13.out.below hb)
  have HJ14 := Lib.hid (HJ13.out.below hb)
  have HL14 := Lib.hid (HL13.out.below hb)
  have HH14 := Lib.hid (HH13.out.below hb)
  have HX14 := Lib.hid (HX13.out.below hb)
  have HY14 := Lib.hid (HY13.out.below hb)
  clear hb HB13 HP13 HQ13 HR13 HM13 HJ13 HL13 HH13 HX13 HY13
  go_wp2_with fail
  refine (lawFiner_any P H n cp ch (p) (joinL (joinL p q) r) w14 HP14.out HH14.out CP.out CH.out).mono ?_; rintro e w15 ⟨rfl, hb⟩
  rw [F_ph.out]
  have HB15 := Lib.hid (HB14.out.trans (hb.mono HB14.out.size))
  have HP15 := Lib.hid (HP14.out.below hb)
  have HQ15 := Lib.hid (HQ14.out.below hb)
  have HR15 := Lib.hid (HR14.out.below hb)
  have HM15 := Lib.hid (HM14.out.below hb)
  have HJ15 := Lib.hid (HJ14.out.below hb)
  have HL15 := Lib.hid (HL14.out.below hb)
  have HH15 := Lib.hid (HH14.out.below hb)
  have HX15 := Lib.hid (HX14.out.below hb)
  have HY15 := Lib.hid (HY14.out.below hb)
  clear hb HB14 HP14 HQ14 HR14 HM14 HJ14 HL14 HH14 HX14 HY14
  go_wp2_with fail
  refine (lawFiner_any Q H n cq ch (q) (joinL (joinL p q) r) w15 HQ15.out HH15.out CQ.out CH.out).mono ?_; rintro e w16 ⟨rfl, hb⟩
  rw [F_qh.out]
  have HB16 := Lib.hid (HB15.out.trans (hb.mono HB15.out.size))
  have HP16 := Lib.hid (HP15.out.below hb)
  have HQ16 := Lib.hid (HQ15.out.below hb)
  have HR16 := Lib.hid (HR15.out.below hb)
  have HM16 := Lib.hid (HM15.out.below hb)
  have HJ16 := Lib.hid (HJ15.out.below hb)
  have HL16 := Lib.hid (HL15.out.below hb)
  have HH16 := Lib.hid (HH15.out.below hb)
  have HX16 := Lib.hid (HX15.out.below hb)
  have HY16 := Lib.hid (HY15.out.below hb)
  clear hb HB15 HP15 HQ15 HR15 HM15 HJ15 HL15 HH15 HX15 HY15
  obtain ⟨v0, rfl⟩ : ∃ v0 : World, v0 = w16 := ⟨_, rfl⟩
  obtain ⟨x1, hx1⟩ : ∃ x, x = finB r p := ⟨_, rfl⟩
  have E1 : Hid (finB r p = x1) := Lib.hid hx1.symm
  obtain ⟨x2, hx2⟩ : ∃ x, x = finB r q := ⟨_, rfl⟩
  have E2 : Hid (finB r q = x2) := Lib.hid hx2.symm
  obtain ⟨x3, hx3⟩ : ∃ x, x = finB p r := ⟨_, rfl⟩
  have E3 : Hid (finB p r = x3) := Lib.hid hx3.symm
  obtain ⟨x4, hx4⟩ : ∃ x, x = finB q r := ⟨_, rfl⟩
  have E4 : Hid (finB q r = x4) := Lib.hid hx4.symm
  clear hx1 hx2 hx3 hx4
  go_upto_region 12 with fail
  go_cut [18, 19] (fun x y W => x = .bool (x1 && x2) ∧ y = .bool (x3 && x4) ∧ Below v0.heap.size v0 W)
  case first =>
    go_wp2_with fail
    refine (lawFiner_any R P n cr cp (r) (p) v0 HR16.out HP16.out CR.out CP.out).mono ?_; rintro e u1 ⟨rfl, hb⟩
    have K1 := Lib.hid hb
    clear hb
    rw [E1.out]
    cases x1
    · skip
      go_wp2_with fail
      refine (lawFiner_any P R n cp cr (p) (r) u1 (HP16.out.below K1.out) (HR16.out.below K1.out) CP.out CR.out).mono ?_; rintro e u2 ⟨rfl, hb⟩
      have K2 := Lib.hid (K1.out.trans (hb.mono K1.out.size))
      clear hb
      rw [E3.out]
      cases x3
      · go_wp2
        go_meet
        exact ⟨by simp, by simp, K2.out⟩
      · skip
        go_wp2_with fail
        refine (lawFiner_any Q R n cq cr (q) (r) u2 (HQ16.out.below K2.out) (HR16.out.below K2.out) CQ.out CR.out).mono ?_; rintro e u3 ⟨rfl, hb⟩
        have K3 := Lib.hid (K2.out.trans (hb.mono K2.out.size))
        clear hb
        rw [E4.out]
        go_wp2
        go_meet
        exact ⟨by simp, by simp, K3.out⟩
    · skip
      go_wp2_with fail
      refine (lawFiner_any R Q n cr cq (r) (q) u1 (HR16.out.below K1.out) (HQ16.out.below K1.out) CR.out CQ.out).mono ?_; rintro e u2 ⟨rfl, hb⟩
      have K2 := Lib.hid (K1.out.trans (hb.mono K1.out.size))
      clear hb
      rw [E2.out]
      go_wp2_with fail
      refine (lawFiner_any P R n cp cr (p) (r) u2 (HP16.out.below K2.out) (HR16.out.below K2.out) CP.out CR.out).mono ?_; rintro e u3 ⟨rfl, hb⟩
      have K3 := Lib.hid (K2.out.trans (hb.mono K2.out.size))
      clear hb
      rw [E3.out]
      cases x3
      · go_wp2
        go_meet
        exact ⟨by simp, by simp, K3.out⟩
      · skip
        go_wp2_with fail
        refine (lawFiner_any Q R n cq cr (q) (r) u3 (HQ16.out.below K3.out) (HR16.out.below K3.out) CQ.out CR.out).mono ?_; rintro e u4 ⟨rfl, hb⟩
        have K4 := Lib.hid (K3.out.trans (hb.mono K3.out.size))
        clear hb
        rw [E4.out]
        go_wp2
        go_meet
        exact ⟨by simp, by simp, K4.out⟩
  case rest =>
    obtain ⟨rfl, rfl, hb⟩ := hcut
    obtain ⟨w17, rfl⟩ : ∃ w : World, w = wc := ⟨_, rfl⟩
    have HB17 := Lib.hid (HB16.out.trans (hb.mono HB16.out.size))
    have HP17 := Lib.hid (HP16.out.below hb)
    have HQ17 := Lib.hid (HQ16.out.below hb)
    have HR17 := Lib.hid (HR16.out.below hb)
    have HM17 := Lib.hid (HM16.out.below hb)
    have HJ17 := Lib.hid (HJ16.out.below hb)
    have HL17 := Lib.hid (HL16.out.below hb)
    have HH17 := Lib.hid (HH16.out.below hb)
    have HX17 := Lib.hid (HX16.out.below hb)
    have HY17 := Lib.hid (HY16.out.below hb)
    clear hb HB16 HP16 HQ16 HR16 HM16 HJ16 HL16 HH16 HX16 HY16
    have hrm : x1 = true → x2 = true → finB r (meetL p q) = true := by rw [← E1.out, ← E2.out]; exact F_rm.out
    have hjr : x3 = true → x4 = true → finB (joinL p q) r = true := by rw [← E3.out, ← E4.out]; exact F_jr.out
    clear E1 E2 E3 E4
    have is_ : ∀ a b : Bool, ∃ i : Bool, i = (a && b) := fun _ _ => ⟨_, rfl⟩
    obtain ⟨i1, hi1⟩ := is_ x1 x2
    obtain ⟨i2, hi2⟩ := is_ x3 x4
    have HR1 : Hid (i1 = true → finB r (meetL p q) = true) := Lib.hid (fun e => by rw [hi1, Bool.and_eq_true] at e; exact hrm e.1 e.2)
    have HR2 : Hid (i2 = true → finB (joinL p q) r = true) := Lib.hid (fun e => by rw [hi2, Bool.and_eq_true] at e; exact hjr e.1 e.2)
    rw [← hi1, ← hi2]
    clear hi1 hi2 hrm hjr is_ x1 x2 x3 x4
    cases i1
    · cases i2
      · skip
        go_wp2_with fail
        refine (lawFiner_any L M n cl cm (meetL (meetL p q) r) (meetL p q) w17 HL17.out HM17.out CL.out CM.out).mono ?_; rintro e w18 ⟨rfl, hb⟩
        rw [F_lm.out]
        have HB18 := Lib.hid (HB17.out.trans (hb.mono HB17.out.size))
        have HP18 := Lib.hid (HP17.out.below hb)
        have HQ18 := Lib.hid (HQ17.out.below hb)
        have HR18 := Lib.hid (HR17.out.below hb)
        have HM18 := Lib.hid (HM17.out.below hb)
        have HJ18 := Lib.hid (HJ17.out.below hb)
        have HL18 := Lib.hid (HL17.out.below hb)
        have HH18 := Lib.hid (HH17.out.below hb)
        have HX18 := Lib.hid (HX17.out.below hb)
        have HY18 := Lib.hid (HY17.out.below hb)
        clear hb HB17 HP17 HQ17 HR17 HM17 HJ17 HL17 HH17 HX17 HY17
        go_wp2_with fail
        refine (lawFiner_any J H n cj ch (joinL p q) (joinL (joinL p q) r) w18 HJ18.out HH18.out CJ.out CH.out).mono ?_; rintro e w19 ⟨rfl, hb⟩
        rw [F_jh.out]
        have HB19 := Lib.hid (HB18.out.trans (hb.mono HB18.out.size))
        have HP19 := Lib.hid (HP18.out.below hb)
        have HQ19 := Lib.hid (HQ18.out.below hb)
        have HR19 := Lib.hid (HR18.out.below hb)
        have HM19 := Lib.hid (HM18.out.below hb)
        have HJ19 := Lib.hid (HJ18.out.below hb)
        have HL19 := Lib.hid (HL18.out.below hb)
        have HH19 := Lib.hid (HH18.out.below hb)
        have HX19 := Lib.hid (HX18.out.below hb)
        have HY19 := Lib.hid (HY18.out.below hb)
        clear hb HB18 HP18 HQ18 HR18 HM18 HJ18 HL18 HH18 HX18 HY18
        go_wp2_with fail
        refine (eq_any X P n n cx cp p p w19 HX19.out HP19.out).mono ?_; rintro e w' ⟨rfl, d1, rfl⟩
        rw [beq_self_eq_true]
        go_wp2_with fail
        refine (eq_any Y P n n cy cp p p _ (HY19.out.drewN d1) (HP19.out.drewN d1)).mono ?_; rintro e w' ⟨rfl, d2, rfl⟩
        rw [beq_self_eq_true]
        have HBZ := Lib.hid (below_drewN HB19.out (d1 + d2))
        go_wp2_with fail
        refine (awake_any (w19.drewN (d1 + d2)) (HSG.out.below HBZ.out)).mono ?_; rintro e wz ⟨rfl, hbz⟩
        have HBQ := Lib.hid (HBZ.out.trans (hbz.mono HBZ.out.size))
        clear hbz
        go_wp2
        go_ret
        exact ⟨rfl, HBQ.out⟩
      · skip
        have F_jrt := Lib.hid (HR2.out (by first | rfl | trivial))
        go_wp2_with fail
        refine (lawFiner_any J R n cj cr (joinL p q) (r) w17 HJ17.out HR17.out CJ.out CR.out).mono ?_; rintro e w18 ⟨rfl, hb⟩
        rw [F_jrt.out]
        have HB18 := Lib.hid (HB17.out.trans (hb.mono HB17.out.size))
        have HP18 := Lib.hid (HP17.out.below hb)
        have HQ18 := Lib.hid (HQ17.out.below hb)
        have HR18 := Lib.hid (HR17.out.below hb)
        have HM18 := Lib.hid (HM17.out.below hb)
        have HJ18 := Lib.hid (HJ17.out.below hb)
        have HL18 := Lib.hid (HL17.out.below hb)
        have HH18 := Lib.hid (HH17.out.below hb)
        have HX18 := Lib.hid (HX17.out.below hb)
        have HY18 := Lib.hid (HY17.out.below hb)
        clear hb HB17 HP17 HQ17 HR17 HM17 HJ17 HL17 HH17 HX17 HY17
        go_wp2_with fail
        refine (lawFiner_any L M n cl cm (meetL (meetL p q) r) (meetL p q) w18 HL18.out HM18.out CL.out CM.out).mono ?_; rintro e w19 ⟨rfl, hb⟩
        rw [F_lm.out]
        have HB19 := Lib.hid (HB18.out.trans (hb.mono HB18.out.size))
        have HP19 := Lib.hid (HP18.out.below hb)
        have HQ19 := Lib.hid (HQ18.out.below hb)
        have HR19 := Lib.hid (HR18.out.below hb)
        have HM19 := Lib.hid (HM18.out.below hb)
        have HJ19 := Lib.hid (HJ18.out.below hb)
        have HL19 := Lib.hid (HL18.out.below hb)
        have HH19 := Lib.hid (HH18.out.below hb)
        have HX19 := Lib.hid (HX18.out.below hb)
        have HY19 := Lib.hid (HY18.out.below hb)
        clear hb HB18 HP18 HQ18 HR18 HM18 HJ18 HL18 HH18 HX18 HY18
        go_wp2_with fail
        refine (lawFiner_any J H n cj ch (joinL p q) (joinL (joinL p q) r) w19 HJ19.out HH19.out CJ.out CH.out).mono ?_; rintro e w20 ⟨rfl, hb⟩
        rw [F_jh.out]
        have HB20 := Lib.hid (HB19.out.trans (hb.mono HB19.out.size))
        have HP20 := Lib.hid (HP19.out.below hb)
        have HQ20 := Lib.hid (HQ19.out.below hb)
        have HR20 := Lib.hid (HR19.out.below hb)
        have HM20 := Lib.hid (HM19.out.below hb)
        have HJ20 := Lib.hid (HJ19.out.below hb)
        have HL20 := Lib.hid (HL19.out.below hb)
        have HH20 := Lib.hid (HH19.out.below hb)
        have HX20 := Lib.hid (HX19.out.below hb)
        have HY20 := Lib.hid (HY19.out.below hb)
        clear hb HB19 HP19 HQ19 HR19 HM19 HJ19 HL19 HH19 HX19 HY19
        go_wp2_with fail
        refine (eq_any X P n n cx cp p p w20 HX20.out HP20.out).mono ?_; rintro e w' ⟨rfl, d1, rfl⟩
        rw [beq_self_eq_true]
        go_wp2_with fail
        refine (eq_any Y P n n cy cp p p _ (HY20.out.drewN d1) (HP20.out.drewN d1)).mono ?_; rintro e w' ⟨rfl, d2, rfl⟩
        rw [beq_self_eq_true]
        have HBZ := Lib.hid (below_drewN HB20.out (d1 + d2))
        go_wp2_with fail
        refine (awake_any (w20.drewN (d1 + d2)) (HSG.out.below HBZ.out)).mono ?_; rintro e wz ⟨rfl, hbz⟩
        have HBQ := Lib.hid (HBZ.out.trans (hbz.mono HBZ.out.size))
        clear hbz
        go_wp2
        go_ret
        exact ⟨rfl, HBQ.out⟩
    · cases i2
      · skip
        have F_rmt := Lib.hid (HR1.out (by first | rfl | trivial))
        go_wp2_with fail
        refine (lawFiner_any R M n cr cm (r) (meetL p q) w17 HR17.out HM17.out CR.out CM.out).mono ?_; rintro e w18 ⟨rfl, hb⟩
        rw [F_rmt.out]
        have HB18 := Lib.hid (HB17.out.trans (hb.mono HB17.out.size))
        have HP18 := Lib.hid (HP17.out.below hb)
        have HQ18 := Lib.hid (HQ17.out.below hb)
        have HR18 := Lib.hid (HR17.out.below hb)
        have HM18 := Lib.hid (HM17.out.below hb)
        have HJ18 := Lib.hid (HJ17.out.below hb)
        have HL18 := Lib.hid (HL17.out.below hb)
        have HH18 := Lib.hid (HH17.out.below hb)
        have HX18 := Lib.hid (HX17.out.below hb)
        have HY18 := Lib.hid (HY17.out.below hb)
        clear hb HB17 HP17 HQ17 HR17 HM17 HJ17 HL17 HH17 HX17 HY17
        go_wp2_with fail
        refine (lawFiner_any L M n cl cm (meetL (meetL p q) r) (meetL p q) w18 HL18.out HM18.out CL.out CM.out).mono ?_; rintro e w19 ⟨rfl, hb⟩
        rw [F_lm.out]
        have HB19 := Lib.hid (HB18.out.trans (hb.mono HB18.out.size))
        have HP19 := Lib.hid (HP18.out.below hb)
        have HQ19 := Lib.hid (HQ18.out.below hb)
        have HR19 := Lib.hid (HR18.out.below hb)
        have HM19 := Lib.hid (HM18.out.below hb)
        have HJ19 := Lib.hid (HJ18.out.below hb)
        have HL19 := Lib.hid (HL18.out.below hb)
        have HH19 := Lib.hid (HH18.out.below hb)
        have HX19 := Lib.hid (HX18.out.below hb)
        have HY19 := Lib.hid (HY18.out.below hb)
        clear hb HB18 HP18 HQ18 HR18 HM18 HJ18 HL18 HH18 HX18 HY18
        go_wp2_with fail
        refine (lawFiner_any J H n cj ch (joinL p q) (joinL (joinL p q) r) w19 HJ19.out HH19.out CJ.out CH.out).mono ?_; rintro e w20 ⟨rfl, hb⟩
        rw [F_jh.out]
        have HB20 := Lib.hid (HB19.out.trans (hb.mono HB19.out.size))
        have HP20 := Lib.hid (HP19.out.below hb)
        have HQ20 := Lib.hid (HQ19.out.below hb)
        have HR20 := Lib.hid (HR19.out.below hb)
        have HM20 := Lib.hid (HM19.out.below hb)
        have HJ20 := Lib.hid (HJ19.out.below hb)
        have HL20 := Lib.hid (HL19.out.below hb)
        have HH20 := Lib.hid (HH19.out.below hb)
        have HX20 := Lib.hid (HX19.out.below hb)
        have HY20 := Lib.hid (HY19.out.below hb)
        clear hb HB19 HP19 HQ19 HR19 HM19 HJ19 HL19 HH19 HX19 HY19
        go_wp2_with fail
        refine (eq_any X P n n cx cp p p w20 HX20.out HP20.out).mono ?_; rintro e w' ⟨rfl, d1, rfl⟩
        rw [beq_self_eq_true]
        go_wp2_with fail
        refine (eq_any Y P n n cy cp p p _ (HY20.out.drewN d1) (HP20.out.drewN d1)).mono ?_; rintro e w' ⟨rfl, d2, rfl⟩
        rw [beq_self_eq_true]
        have HBZ := Lib.hid (below_drewN HB20.out (d1 + d2))
        go_wp2_with fail
        refine (awake_any (w20.drewN (d1 + d2)) (HSG.out.below HBZ.out)).mono ?_; rintro e wz ⟨rfl, hbz⟩
        have HBQ := Lib.hid (HBZ.out.trans (hbz.mono HBZ.out.size))
        clear hbz
        go_wp2
        go_ret
        exact ⟨rfl, HBQ.out⟩
      · skip
        have F_rmt := Lib.hid (HR1.out (by first | rfl | trivial))
        go_wp2_with fail
        refine (lawFiner_any R M n cr cm (r) (meetL p q) w17 HR17.out HM17.out CR.out CM.out).mono ?_; rintro e w18 ⟨rfl, hb⟩
        rw [F_rmt.out]
        have HB18 := Lib.hid (HB17.out.trans (hb.mono HB17.out.size))
        have HP18 := Lib.hid (HP17.out.below hb)
        have HQ18 := Lib.hid (HQ17.out.below hb)
        have HR18 := Lib.hid (HR17.out.below hb)
        have HM18 := Lib.hid (HM17.out.below hb)
        have HJ18 := Lib.hid (HJ17.out.below hb)
        have HL18 := Lib.hid (HL17.out.below hb)
        have HH18 := Lib.hid (HH17.out.below hb)
        have HX18 := Lib.hid (HX17.out.below hb)
        have HY18 := Lib.hid (HY17.out.below hb)
        clear hb HB17 HP17 HQ17 HR17 HM17 HJ17 HL17 HH17 HX17 HY17
        have F_jrt := Lib.hid (HR2.out (by first | rfl | trivial))
        go_wp2_with fail
        refine (lawFiner_any J R n cj cr (joinL p q) (r) w18 HJ18.out HR18.out CJ.out CR.out).mono ?_; rintro e w19 ⟨rfl, hb⟩
        rw [F_jrt.out]
        have HB19 := Lib.hid (HB18.out.trans (hb.mono HB18.out.size))
        have HP19 := Lib.hid (HP18.out.below hb)
        have HQ19 := Lib.hid (HQ18.out.below hb)
        have HR19 := Lib.hid (HR18.out.below hb)
        have HM19 := Lib.hid (HM18.out.below hb)
        have HJ19 := Lib.hid (HJ18.out.below hb)
        have HL19 := Lib.hid (HL18.out.below hb)
        have HH19 := Lib.hid (HH18.out.below hb)
        have HX19 := Lib.hid (HX18.out.below hb)
        have HY19 := Lib.hid (HY18.out.below hb)
        clear hb HB18 HP18 HQ18 HR18 HM18 HJ18 HL18 HH18 HX18 HY18
        go_wp2_with fail
        refine (lawFiner_any L M n cl cm (meetL (meetL p q) r) (meetL p q) w19 HL19.out HM19.out CL.out CM.out).mono ?_; rintro e w20 ⟨rfl, hb⟩
        rw [F_lm.out]
        have HB20 := Lib.hid (HB19.out.trans (hb.mono HB19.out.size))
        have HP20 := Lib.hid (HP19.out.below hb)
        have HQ20 := Lib.hid (HQ19.out.below hb)
        have HR20 := Lib.hid (HR19.out.below hb)
        have HM20 := Lib.hid (HM19.out.below hb)
        have HJ20 := Lib.hid (HJ19.out.below hb)
        have HL20 := Lib.hid (HL19.out.below hb)
        have HH20 := Lib.hid (HH19.out.below hb)
        have HX20 := Lib.hid (HX19.out.below hb)
        have HY20 := Lib.hid (HY19.out.below hb)
        clear hb HB19 HP19 HQ19 HR19 HM19 HJ19 HL19 HH19 HX19 HY19
        go_wp2_with fail
        refine (lawFiner_any J H n cj ch (joinL p q) (joinL (joinL p q) r) w20 HJ20.out HH20.out CJ.out CH.out).mono ?_; rintro e w21 ⟨rfl, hb⟩
        rw [F_jh.out]
        have HB21 := Lib.hid (HB20.out.trans (hb.mono HB20.out.size))
        have HP21 := Lib.hid (HP20.out.below hb)
        have HQ21 := Lib.hid (HQ20.out.below hb)
        have HR21 := Lib.hid (HR20.out.below hb)
        have HM21 := Lib.hid (HM20.out.below hb)
        have HJ21 := Lib.hid (HJ20.out.below hb)
        have HL21 := Lib.hid (HL20.out.below hb)
        have HH21 := Lib.hid (HH20.out.below hb)
        have HX21 := Lib.hid (HX20.out.below hb)
        have HY21 := Lib.hid (HY20.out.below hb)
        clear hb HB20 HP20 HQ20 HR20 HM20 HJ20 HL20 HH20 HX20 HY20
        go_wp2_with fail
        refine (eq_any X P n n cx cp p p w21 HX21.out HP21.out).mono ?_; rintro e w' ⟨rfl, d1, rfl⟩
        rw [beq_self_eq_true]
        go_wp2_with fail
        refine (eq_any Y P n n cy cp p p _ (HY21.out.drewN d1) (HP21.out.drewN d1)).mono ?_; rintro e w' ⟨rfl, d2, rfl⟩
        rw [beq_self_eq_true]
        have HBZ := Lib.hid (below_drewN HB21.out (d1 + d2))
        go_wp2_with fail
        refine (awake_any (w21.drewN (d1 + d2)) (HSG.out.below HBZ.out)).mono ?_; rintro e wz ⟨rfl, hbz⟩
        have HBQ := Lib.hid (HBZ.out.trans (hbz.mono HBZ.out.size))
        clear hbz
        go_wp2
        go_ret
        exact ⟨rfl, HBQ.out⟩
end Go.Proofs.YtooepkpgffpcjaaDoor
