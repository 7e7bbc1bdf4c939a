/- Walk: the statement ChartOne. -/
import Derived.Test.YtooepkpgffpcjaaDoorMgO
import Derived.Test.YtooepkpgffpcjaaDoorMgI
import Derived.Test.YtooepkpgffpcjaaDoorMgG
namespace Go.Proofs.YtooepkpgffpcjaaDoor
open Go.RowKit

theorem str_ne' {s t : ByteArray} (h : s ≠ t) : (s.toList == t.toList) = false := by
  rw [beq_eq_false_iff_ne]
  intro e
  rw [Lib.toList_data, Lib.toList_data] at e
  exact h (ByteArray.ext (Array.toList_inj.1 e))
theorem arr_ne {a b : List UInt8} (h : a ≠ b) : (⟨a.toArray⟩ : ByteArray) ≠ ⟨b.toArray⟩ := fun e => h (by have := congrArg (fun x : ByteArray => x.data.toList) e; simpa using this)

set_option maxHeartbeats 4000000 in
set_option maxRecDepth 100000 in
theorem chartOne_any (A0 : Option Addr) (n0 c0 : Nat) (at_ how by_ : Int) (nums : List Int) (w : World) (h : RdI w A0 n0 nums) (ha : I64 at_) (hh : I64 how) (_hb : (Lit.int IntKind.u8 by_).wf = true) (hs : Signs w) :
    Calls Tryd.prog 14 #[.slice A0 n0 c0, .int .i64 at_, .int .i64 how, .int .u8 by_] w (Held w) := by
  have HSG := Lib.hid hs
  have HAT := Lib.hid ha
  have HHW := Lib.hid hh
  clear hs ha hh
  go_enter Tryd.func14, Tryd.ntmps14
  go_wp2_with fail
  refine (boxOf_any A0 n0 c0 nums w h).mono ?_; rintro e w1 ⟨g, rfl, hg, hbox, hb1⟩
  have HBX := Lib.hid hbox
  have HB1 := Lib.hid hb1
  have hgl := hbox.lt
  clear hbox hb1 h
  go_wp2_with fail
  refine (three2_any g w1 HBX.out).mono ?_; rintro e w2 ⟨n, P, Q, R, cp, cq, cr, p, q, r, rfl, hn1, hn8, hcp, hcq, hcr, rp, rq, rr, hsp⟩
  have hcp1 := rp.cap
  have hcq1 := rq.cap
  have HP := Lib.hid rp.rd
  have HQ := Lib.hid rq.rd
  have HB2 := Lib.hid (HB1.out.trans (hsp.below hg HB1.out.size))
  have HCP := Lib.hid hcp
  have HCQ := Lib.hid hcq
  have HDP : Hid (drawE p = (drawT p, 0)) := Lib.hid (by unfold drawE; rw [if_neg (by omega)])
  have HDQ : Hid (drawE q = (drawT q, 0)) := Lib.hid (by unfold drawE; rw [if_neg (by omega)])
  have HLP : Hid ((drawT p).length ≤ 190) := Lib.hid (draw_190 hcp)
  have HRP : Hid (readP (drawT p) = (p, 0)) := Lib.hid (readP_chart hcp)
  have HPL := Lib.hid rp.rd.len
  have HIJ : Hid (drawT p = drawT q ↔ p = q) := Lib.hid ⟨fun e => drawT_inj hcp hcq e, fun e => by rw [e]⟩
  clear rp rq rr hsp hcp hcq hcr HBX HB1
  go_wp2_with fail
  refine (Draw_any P n cp p w2 HP.out hcp1 (HSG.out.below HB2.out)).mono ?_; rintro e w3 ⟨rfl, b3⟩
  rw [HDP.out]
  have HP3 := Lib.hid (HP.out.below b3)
  have HQ3 := Lib.hid (HQ.out.below b3)
  have HB3 := Lib.hid (HB2.out.trans (b3.mono HB2.out.size))
  clear b3 HP HQ HB2
  go_wp2_with fail
  refine (Draw_any Q n cq q w3 HQ3.out hcq1 (HSG.out.below HB3.out)).mono ?_; rintro e w4 ⟨rfl, b4⟩
  rw [HDQ.out]
  have HP4 := Lib.hid (HP3.out.below b4)
  have HQ4 := Lib.hid (HQ3.out.below b4)
  have HB4 := Lib.hid (HB3.out.trans (b4.mono HB3.out.size))
  clear b4 HP3 HQ3 HB3 HDP HDQ
  generalize drawT p = S at HLP HRP HIJ ⊢
  generalize drawT q = T at HIJ ⊢
  go_wp2_with fail
  refine (read_any ⟨S.toArray⟩ w4 (by rw [size_arr]; have := HLP.out; omega) (HSG.out.below HB4.out)).mono ?_; rintro e w5 ⟨A5, c5, rfl, h5, b5⟩
  simp only [HRP.out, HPL.out] at h5 ⊢
  have H5 := Lib.hid h5.rd
  have HP5 := Lib.hid (HP4.out.below b5)
  have HQ5 := Lib.hid (HQ4.out.below b5)
  have HB5 := Lib.hid (HB4.out.trans (b5.mono HB4.out.size))
  clear b5 h5 HP4 HQ4 HB4
  go_wp2_with fail
  refine (eq_any A5 P n n c5 cp p p w5 H5.out HP5.out).mono ?_; rintro e w6 ⟨rfl, d6, hw6⟩
  rw [beq_self_eq_true]
  have HP6 : Hid (RdI w6 P n p) := Lib.hid (by rw [hw6]; exact HP5.out.drewN d6)
  have HQ6 : Hid (RdI w6 Q n q) := Lib.hid (by rw [hw6]; exact HQ5.out.drewN d6)
  have HB56 : Hid (Below w.heap.size w w6) := Lib.hid (by rw [hw6]; exact below_drewN HB5.out d6)
  clear hw6 H5 HP5 HQ5 HB5
  obtain ⟨s1, hs1⟩ : ∃ s1 : ByteArray, (⟨S.toArray⟩ : ByteArray) = s1 := ⟨_, rfl⟩
  have HS1 : Hid (s1.data.toList = S ∧ s1.size ≤ 190) := Lib.hid ⟨by rw [← hs1], by rw [← hs1, size_arr]; exact HLP.out⟩
  have HRP1 : Hid (readP S = (p, 0)) := HRP
  by_cases hpq : p = q
  · have hST : S = T := HIJ.out.2 hpq
    subst hST
    rw [hs1]
    clear hs1
    go_wp2_with fail
    refine (eq_any P Q n n cp cq p q w6 HP6.out HQ6.out).mono ?_; rintro e w5 ⟨rfl, d5, hw5⟩
    rw [beq_iff_eq.2 hpq]
    have HB6 : Hid (Below w.heap.size w w5) := Lib.hid (by rw [hw5]; exact below_drewN HB56.out d5)
    clear hw5 HP6 HQ6 HB56 hpq
    obtain ⟨w6, rfl⟩ : ∃ w6 : World, w6 = w5 := ⟨_, rfl⟩
    go_wp2_with fail
    refine (blot_any s1 at_ how by_ w6 (by have := HS1.out.2; omega) HAT.out HHW.out).mono ?_; rintro e w7 ⟨t, rfl, hts, b7⟩
    have HB7 := Lib.hid (HB6.out.trans (b7.mono HB6.out.size))
    have ht400 : t.data.toList.length ≤ 400 := by have := HS1.out.2; have : t.data.toList.length = t.size := by simp
                                                  omega
    clear b7 HB6
    go_wp2_with fail
    refine (read_any t w7 (by have := HS1.out.2; omega) (HSG.out.below HB7.out)).mono ?_; rintro e w8 ⟨A8, c8, rfl, h8, b8⟩
    have HB8 := Lib.hid (HB7.out.trans (b8.mono HB7.out.size))
    rcases readP_says t.data.toList with ⟨q', hcq', hdq', hrq'⟩ | ⟨hr3, _⟩ | ⟨_, hbig⟩
    · rw [hrq'] at h8 ⊢
      simp only at h8 ⊢
      have H8 := Lib.hid h8
      have hcap8 := h8.cap
      have HDE : Hid (drawE q' = (t.data.toList, 0)) := Lib.hid (by unfold drawE; rw [if_neg (by omega), hdq'])
      clear h8 b8 HB7 hcq' hdq' hrq'
      go_wp2_with fail
      refine (Draw_any A8 q'.length c8 q' w8 H8.out.rd hcap8 (HSG.out.below HB8.out)).mono ?_; rintro e w9 ⟨rfl, b9⟩
      rw [HDE.out]
      simp only
      have HB9 := Lib.hid (HB8.out.trans (b9.mono HB8.out.size))
      clear b9 HB8 H8
      go_wp2_with fail
      refine (awake_any w9 (HSG.out.below HB9.out)).mono ?_; rintro e w10 ⟨rfl, b10⟩
      have HBF := Lib.hid (HB9.out.trans (b10.mono HB9.out.size))
      clear b10
      go_wp2
      go_ret
      exact ⟨rfl, HBF.out⟩
    · have hne : t ≠ s1 := fun e => by rw [e, HS1.out.1, HRP.out] at hr3; injection hr3 with _ h9; exact absurd h9 (by omega)
      have hb := str_ne' hne
      rw [hr3] at h8 ⊢
      simp only [List.length_nil] at h8 ⊢
      clear h8 b8 HB7 hr3 hne
      go_wp2_with fail
      refine (awake_any w8 (HSG.out.below HB8.out)).mono ?_; rintro e w10 ⟨rfl, b10⟩
      have HBF := Lib.hid (HB8.out.trans (b10.mono HB8.out.size))
      clear b10
      go_wp2
      go_ret
      exact ⟨rfl, HBF.out⟩
    · omega
  · have hST : S ≠ T := fun e => hpq (HIJ.out.1 e)
    have hbe := str_ne' (arr_ne hST)
    rw [hs1] at hbe ⊢
    generalize (⟨T.toArray⟩ : ByteArray) = t1 at hbe ⊢
    clear hs1 hST
    go_wp2_with fail
    refine (eq_any P Q n n cp cq p q w6 HP6.out HQ6.out).mono ?_; rintro e w5 ⟨rfl, d5, hw5⟩
    rw [beq_eq_false_iff_ne.2 hpq]
    have HB6 : Hid (Below w.heap.size w w5) := Lib.hid (by rw [hw5]; exact below_drewN HB56.out d5)
    clear hw5 HP6 HQ6 HB56 hpq
    obtain ⟨w6, rfl⟩ : ∃ w6 : World, w6 = w5 := ⟨_, rfl⟩
    go_wp2_with fail
    refine (blot_any s1 at_ how by_ w6 (by have := HS1.out.2; omega) HAT.out HHW.out).mono ?_; rintro e w7 ⟨t, rfl, hts, b7⟩
    have HB7 := Lib.hid (HB6.out.trans (b7.mono HB6.out.size))
    have ht400 : t.data.toList.length ≤ 400 := by have := HS1.out.2; have : t.data.toList.length = t.size := by simp
                                                  omega
    clear b7 HB6
    go_wp2_with fail
    refine (read_any t w7 (by have := HS1.out.2; omega) (HSG.out.below HB7.out)).mono ?_; rintro e w8 ⟨A8, c8, rfl, h8, b8⟩
    have HB8 := Lib.hid (HB7.out.trans (b8.mono HB7.out.size))
    rcases readP_says t.data.toList with ⟨q', hcq', hdq', hrq'⟩ | ⟨hr3, _⟩ | ⟨_, hbig⟩
    · rw [hrq'] at h8 ⊢
      simp only at h8 ⊢
      have H8 := Lib.hid h8
      have hcap8 := h8.cap
      have HDE : Hid (drawE q' = (t.data.toList, 0)) := Lib.hid (by unfold drawE; rw [if_neg (by omega), hdq'])
      clear h8 b8 HB7 hcq' hdq' hrq'
      go_wp2_with fail
      refine (Draw_any A8 q'.length c8 q' w8 H8.out.rd hcap8 (HSG.out.below HB8.out)).mono ?_; rintro e w9 ⟨rfl, b9⟩
      rw [HDE.out]
      simp only
      have HB9 := Lib.hid (HB8.out.trans (b9.mono HB8.out.size))
      clear b9 HB8 H8
      go_wp2_with fail
      refine (awake_any w9 (HSG.out.below HB9.out)).mono ?_; rintro e w10 ⟨rfl, b10⟩
      have HBF := Lib.hid (HB9.out.trans (b10.mono HB9.out.size))
      clear b10
      go_wp2
      go_ret
      exact ⟨rfl, HBF.out⟩
    · have hne : t ≠ s1 := fun e => by rw [e, HS1.out.1, HRP.out] at hr3; injection hr3 with _ h9; exact absurd h9 (by omega)
      have hb := str_ne' hne
      rw [hr3] at h8 ⊢
      simp only [List.length_nil] at h8 ⊢
      clear h8 b8 HB7 hr3 hne
      go_wp2_with fail
      refine (awake_any w8 (HSG.out.below HB8.out)).mono ?_; rintro e w10 ⟨rfl, b10⟩
      have HBF := Lib.hid (HB8.out.trans (b10.mono HB8.out.size))
      clear b10
      go_wp2
      go_ret
      exact ⟨rfl, HBF.out⟩
    · omega
end Go.Proofs.YtooepkpgffpcjaaDoor
