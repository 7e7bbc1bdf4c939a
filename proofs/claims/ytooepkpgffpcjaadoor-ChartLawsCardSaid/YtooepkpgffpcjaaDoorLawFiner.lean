/- Walk: the statement ChartFiner. -/
import Derived.Test.YtooepkpgffpcjaaDoorThree
import Derived.Test.YtooepkpgffpcjaaDoorOrd
import Derived.Test.YtooepkpgffpcjaaDoorHeld
namespace Go.Proofs.YtooepkpgffpcjaaDoor
open Go.RowKit

theorem finE_ok {a b : List Int} (ha : chk a = 0) (hb : chk b = 0) (h : a.length = b.length) : finE a b = (finB a b, 0) := by
  have : chk2 a b = 0 := by unfold chk2; rw [ha, hb]; simp [h]
  unfold finE; rw [if_neg (by omega)]
theorem finB_refl (a : List Int) : finB a a = true := finB_iff.2 (fin_refl a)

set_option maxHeartbeats 2000000 in
set_option maxRecDepth 100000 in
theorem chartFiner_any (A0 : Option Addr) (n0 c0 : Nat) (nums : List Int) (w : World) (h : RdI w A0 n0 nums) (hs : Signs w) :
    Calls Tryd.prog 10 #[.slice A0 n0 c0] w (Held w) := by
  have HSG := Lib.hid hs
  clear hs
  go_enter Tryd.func10, Tryd.ntmps10
  go_wp2_with fail
  refine (boxOf_any A0 n0 c0 nums w h).mono ?_; rintro e w1 ⟨g, rfl, hg, hbox, hb1⟩
  have HB1 := Lib.hid hb1
  have HBX := Lib.hid hbox
  clear hb1 hbox h
  go_wp2_with fail
  refine (three_any g w1 HBX.out).mono ?_; rintro e w2 ⟨n, A, B, C, c, d, f, p, q, r, rfl, hn1, hn8, hcp, hcq, hcr, rp, rq, rr, hsp⟩
  have HB2 := Lib.hid (HB1.out.trans (hsp.below hg HB1.out.size))
  have HP2 := Lib.hid rp
  have HQ2 := Lib.hid rq
  have HR2 := Lib.hid rr
  have hlp := rp.len
  have hlq := rq.len
  have hlr := rr.len
  have HE1 := Lib.hid (finE_ok hcp hcq (by omega))
  have HE2 := Lib.hid (finE_ok hcq hcp (by omega))
  have HE3 := Lib.hid (finE_ok hcq hcr (by omega))
  have HE4 := Lib.hid (finE_ok hcp hcr (by omega))
  have HE5 := Lib.hid (finE_ok hcp hcp rfl)
  have HLAW1 := Lib.hid (fin_both (a := p) (b := q) (by omega) hcp hcq)
  have HLAW2 : Hid (finB p q = true → finB q r = true → finB p r = true) := Lib.hid fun h1 h2 => finB_iff.2 (fin_trans (by omega) (finB_iff.1 h1) (finB_iff.1 h2))
  have HLAW3 : Hid (finB p q = true → blk q ≤ blk p) := Lib.hid fun h1 => fin_blk (by omega) hcp hcq (finB_iff.1 h1)
  have HREF := Lib.hid (finB_refl p)
  have HSP := Lib.hid (chk_small hcp)
  have HSQ := Lib.hid (chk_small hcq)
  clear hsp rp rq rr hcp hcq hcr hlp hlq hlr HB1 HBX hg
  go_wp2_with fail
  refine (finer_any A B n n c d p q w2 HP2.out HQ2.out).mono ?_; rintro e w3 ⟨rfl, hb⟩
  rw [HE1.out]
  have HB3 := Lib.hid (HB2.out.trans (hb.mono HB2.out.size))
  have HP3 := Lib.hid (HP2.out.below hb)
  have HQ3 := Lib.hid (HQ2.out.below hb)
  have HR3 := Lib.hid (HR2.out.below hb)
  clear hb HB2 HP2 HQ2 HR2
  go_wp2_with fail
  refine (finer_any B A n n d c q p w3 HQ3.out HP3.out).mono ?_; rintro e w4 ⟨rfl, hb⟩
  rw [HE2.out]
  have HB4 := Lib.hid (HB3.out.trans (hb.mono HB3.out.size))
  have HP4 := Lib.hid (HP3.out.below hb)
  have HQ4 := Lib.hid (HQ3.out.below hb)
  have HR4 := Lib.hid (HR3.out.below hb)
  clear hb HB3 HP3 HQ3 HR3
  go_wp2_with fail
  refine (finer_any B C n n d f q r w4 HQ4.out HR4.out).mono ?_; rintro e w5 ⟨rfl, hb⟩
  rw [HE3.out]
  have HB5 := Lib.hid (HB4.out.trans (hb.mono HB4.out.size))
  have HP5 := Lib.hid (HP4.out.below hb)
  have HQ5 := Lib.hid (HQ4.out.below hb)
  have HR5 := Lib.hid (HR4.out.below hb)
  clear hb HB4 HP4 HQ4 HR4
  go_wp2_with fail
  refine (finer_any A C n n c f p r w5 HP5.out HR5.out).mono ?_; rintro e w6 ⟨rfl, hb⟩
  rw [HE4.out]
  have HB6 := Lib.hid (HB5.out.trans (hb.mono HB5.out.size))
  have HP6 := Lib.hid (HP5.out.below hb)
  have HQ6 := Lib.hid (HQ5.out.below hb)
  clear hb HB5 HP5 HQ5 HR5
  go_wp2_with fail
  refine (finer_any A A n n c c p p w6 HP6.out HP6.out).mono ?_; rintro e w7 ⟨rfl, hb⟩
  rw [HE5.out, HREF.out]
  have HB7 := Lib.hid (HB6.out.trans (hb.mono HB6.out.size))
  have HP7 := Lib.hid (HP6.out.below hb)
  have HQ7 := Lib.hid (HQ6.out.below hb)
  clear hb HB6 HP6 HQ6 HE1 HE2 HE3 HE4 HE5 HREF
  generalize finB p q = x1 at HLAW1 HLAW2 HLAW3 ⊢
  generalize finB q p = x2 at HLAW1 ⊢
  generalize finB q r = x3 at HLAW2 ⊢
  generalize finB p r = x4 at HLAW2 ⊢
  have heq := Lib.hid (eq_any A B n n c d p q w7 HP7.out HQ7.out)
  rw [← HLAW1.out] at heq
  have hbp := blk_bd HSP.out
  have hbq := blk_bd HSQ.out
  have HK1 := Lib.hid (fun d : Nat => lawBlocks_any A n c p (w7.drewN d) (HP7.out.drewN d) HSP.out)
  have HK2 := Lib.hid (fun e : Nat => lawBlocks_any B n d q (w7.drewN e) (HQ7.out.drewN e) HSQ.out)
  generalize blk p = kp at HLAW3 HK1 hbp ⊢
  generalize blk q = kq at HLAW3 HK2 hbq ⊢
  have hge := HLAW3.out
  have htr := HLAW2.out
  have HAW := Lib.hid (fun d : Nat => awake_any (w7.drewN d) (HSG.out.below (below_drewN HB7.out d)))
  clear HLAW1 HLAW2 HLAW3
  cases x1
  · simp only [Bool.false_and] at heq
    go_wp2_with fail
    refine heq.out.mono ?_; rintro e w' ⟨rfl, d1, rfl⟩
    go_wp2_with fail
    refine (HAW.out d1).mono ?_; rintro e w8 ⟨rfl, hb8⟩
    have HB8 := Lib.hid ((below_drewN HB7.out d1).trans (hb8.mono (below_drewN HB7.out d1).size))
    clear hb8
    go_wp2
    go_ret
    exact ⟨rfl, HB8.out⟩
  · have hge' := hge rfl
    simp only [Bool.true_and] at heq
    have hxx : (x2 == x2) = true := by simp
    cases x3
    · clear htr hge
      go_wp2_with fail
      refine heq.out.mono ?_; rintro e w' ⟨rfl, d1, rfl⟩
      go_wp2_with fail
      refine (HK1.out d1).mono ?_; rintro e w' ⟨rfl, rfl⟩
      go_wp2_with fail
      refine (HK2.out d1).mono ?_; rintro e w' ⟨rfl, rfl⟩
      go_wp2_with fail
      refine (HAW.out d1).mono ?_; rintro e w8 ⟨rfl, hb8⟩
      have HB8 := Lib.hid ((below_drewN HB7.out d1).trans (hb8.mono (below_drewN HB7.out d1).size))
      clear hb8
      go_wp2
      go_ret
      exact ⟨rfl, HB8.out⟩
    · obtain rfl := htr rfl rfl
      clear htr hge
      go_wp2_with fail
      refine heq.out.mono ?_; rintro e w' ⟨rfl, d1, rfl⟩
      go_wp2_with fail
      refine (HK1.out d1).mono ?_; rintro e w' ⟨rfl, rfl⟩
      go_wp2_with fail
      refine (HK2.out d1).mono ?_; rintro e w' ⟨rfl, rfl⟩
      go_wp2_with fail
      refine (HAW.out d1).mono ?_; rintro e w8 ⟨rfl, hb8⟩
      have HB8 := Lib.hid ((below_drewN HB7.out d1).trans (hb8.mono (below_drewN HB7.out d1).size))
      clear hb8
      go_wp2
      go_ret
      exact ⟨rfl, HB8.out⟩
end Go.Proofs.YtooepkpgffpcjaaDoor
