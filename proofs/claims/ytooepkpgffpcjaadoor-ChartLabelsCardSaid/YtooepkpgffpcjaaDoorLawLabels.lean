/- Walk: the statement ChartLabels. -/
import Derived.Test.YtooepkpgffpcjaaDoorHeld
import Derived.Test.YtooepkpgffpcjaaDoorLabels
namespace Go.Proofs.YtooepkpgffpcjaaDoor
open Go.RowKit

set_option maxHeartbeats 2000000 in
set_option maxRecDepth 100000 in
theorem chartLabels_any (A : Option Addr) (n c : Nat) (by_ : Int) (l : List Int) (w : World) (h : RdI w A n l) (_ : I64 by_) (hs : Signs w) :
    Calls Tryd.prog 5 #[.slice A n c, .int .i64 by_] w (Held w) := by
  have hbd := h.bd
  have hlen := h.len
  have HSG := Lib.hid hs
  clear hs
  by_cases h0 : n = 0
  · subst h0
    have HE := Lib.hid (show ofE l = ([], 6) by unfold ofE; rw [if_pos (by omega)])
    clear hlen
    go_enter Tryd.func5, Tryd.ntmps5
    go_wp2_with fail
    refine (progOf_any A 0 c l w h).mono ?_; rintro e w1 ⟨A1, c1, rfl, ho1, hb1⟩
    rw [HE.out] at ho1
    rw [HE.out]
    have HB1 := Lib.hid hb1
    clear ho1 hb1
    go_wp2_with fail
    refine (refused_any 6 w1).mono ?_; rintro e w' ⟨rfl, rfl⟩
    go_wp2_with fail
    refine (awake_any w1 (HSG.out.below HB1.out)).mono ?_; rintro e w2 ⟨rfl, hb2⟩
    have HB2 := Lib.hid (HB1.out.trans (hb2.mono HB1.out.size))
    clear hb2
    go_wp2
    go_ret
    exact ⟨rfl, HB2.out⟩
  by_cases h9 : 9 < n
  · have HE := Lib.hid (show ofE l = ([], 8) by unfold ofE; rw [if_neg (by omega), if_pos (by omega)])
    clear hlen
    have g0 : ((n : Int) == 0) = false := by simp; omega
    go_enter Tryd.func5, Tryd.ntmps5
    go_wp2_with fail
    refine (progOf_any A n c l w h).mono ?_; rintro e w1 ⟨A1, c1, rfl, ho1, hb1⟩
    rw [HE.out] at ho1
    rw [HE.out]
    have HB1 := Lib.hid hb1
    clear ho1 hb1
    go_wp2_with fail
    refine (refused_any 8 w1).mono ?_; rintro e w' ⟨rfl, rfl⟩
    go_wp2_with fail
    refine (awake_any w1 (HSG.out.below HB1.out)).mono ?_; rintro e w2 ⟨rfl, hb2⟩
    have HB2 := Lib.hid (HB1.out.trans (hb2.mono HB1.out.size))
    clear hb2
    go_wp2
    go_ret
    exact ⟨rfl, HB2.out⟩
  have HE := Lib.hid (show ofE l = (ofL l, 0) by unfold ofE; rw [if_neg (by omega), if_neg (by omega)])
  have HK := Lib.hid (chk_ofL (l := l) (by omega) (by omega))
  have HOL := Lib.hid (show (ofL l).length = n by rw [ofL_length, hlen])
  have HLEN := Lib.hid hlen
  clear hlen
  have g0 : ((n : Int) == 0) = false := by simp; omega
  have g9 : (n : Int) ≤ 9 := by omega
  go_enter Tryd.func5, Tryd.ntmps5
  go_wp2_with fail
  refine (progOf_any A n c l w h).mono ?_; rintro e w1 ⟨A1, c1, rfl, ho1, hb1⟩
  rw [HE.out] at ho1
  rw [HE.out]
  rw [HOL.out] at ho1
  rw [HOL.out]
  have HO1 := Lib.hid ho1
  have HB1 := Lib.hid hb1
  have HR1 := Lib.hid (h.below hb1)
  have HP1 := Lib.hid ho1.rd
  clear ho1 hb1 h
  go_wp2_with fail
  refine (check_any A1 n c1 (ofL l) w1 HP1.out).mono ?_; rintro e w' ⟨rfl, rfl⟩
  rw [HK.out]
  go_wp2_with fail
  go_loopw [9, 10] (fun o i wr => ∃ k : Nat, k ≤ n ∧ i = .int .i64 k ∧ ∃ Ao co, o = .slice Ao k co ∧ OwnI wr w1.heap.size 3 Ao k co ((l.take k).map (xr by_)) ∧ Below w1.heap.size w1 wr) (fun _ i _ => n - (intOf i).toNat)
  case atStart => exact ⟨0, by omega, rfl, none, 0, rfl, OwnI.nil_ _ _ _, Below.refl _ _⟩
  case round =>
    obtain ⟨k, hk, rfl, Ao, co, rfl, hoo, hbel⟩ := hrel
    have HO := Lib.hid hoo
    have HB := Lib.hid hbel
    clear hoo hbel
    by_cases hlt : k < n
    · obtain ⟨ad, v, rfl, had, hv, hv64, hcell0⟩ := HR1.out.at_ hlt
      obtain ⟨pd, q, rfl, hpd, hq, hq64, pcell0⟩ := HP1.out.at_ hlt
      have HV := Lib.hid hv64
      clear hv64 hq64
      have hcell := (HB.out.cell (p := ad.add k) (by rw [block_of_add]; exact had)).trans hcell0
      have pcell := (HB.out.cell (p := pd.add k) (by rw [block_of_add]; exact hpd)).trans pcell0
      clear hcell0 pcell0
      have HT := Lib.hid (take_of_get hv.out)
      have hsz := HB.out.size
      obtain ⟨wo, rfl⟩ : ∃ wo : World, wo = wr := ⟨_, rfl⟩
      go_wp2_with fail
      go_loopw [11] (fun i wq => ∃ j : Nat, j ≤ k ∧ i = .int .i64 j ∧ ∃ d, wq = wo.drewN d) (fun i _ => k - (intOf i).toNat)
      case atStart => exact ⟨0, by omega, rfl, 0, rfl⟩
      case round =>
        obtain ⟨j, hj, rfl, d, rfl⟩ := hrel
        by_cases hjk : j < k
        · obtain ⟨ad', u, e1, had', hu, _, ucell0⟩ := HR1.out.at_ (k := j) (by omega)
          obtain rfl := Option.some.inj e1
          obtain ⟨pd', r, e2, hpd', hr, _, rcell0⟩ := HP1.out.at_ (k := j) (by omega)
          obtain rfl := Option.some.inj e2
          have ucell := (HB.out.cell (p := ad.add j) (by rw [block_of_add]; exact had)).trans ucell0
          have rcell := (HB.out.cell (p := pd.add j) (by rw [block_of_add]; exact hpd)).trans rcell0
          clear ucell0 rcell0 e1 e2
          have HSM := Lib.hid (ofL_same hv.out hu.out hq.out hr.out)
          have hsm : (!((v == u) == (q == r))) = false := by rw [HSM.out]; simp
          go_wp2_with fail
          go_quiet (fail)
          go_wp2
          go_roundw
          case rel => exact ⟨j + 1, by omega, by go_num, _, rfl⟩
          case measure => simp [intOf]; omega
        · obtain rfl : j = k := by omega
          go_wp2_with (at_builtin; go_must (refine wpList_appI1 _ rfl (.tmp 83) (.tmp 90) rfl _ rfl rfl (HO.out.drewN _) (v := xr by_ v) (xr_I64 _ _) (by omega) hsz ?_); intro A' c' w' kk; have KK := Lib.hid kk; clear kk)
          go_roundw
          case rel => exact ⟨j + 1, by omega, by go_num, A', c', rfl, by rw [HT.out, List.map_append]; exact KK.out.own, (below_drewN HB.out _).trans KK.out.below⟩
          case measure => simp [intOf]; omega
    · have HF : Hid (l.take k = l) := by rw [List.take_of_length_le (by have := HLEN.out; omega)]; rfl
      rw [HF.out] at HO
      obtain rfl : k = n := by omega
      have HX : Hid (ofL (l.map (xr by_)) = ofL l) := Lib.hid (ofL_map l fun x hx y hy => xr_inj (HR1.out.2 x hx) (HR1.out.2 y hy))
      have HE2 : Hid (ofE (ofL l) = (ofL l, 0)) := Lib.hid (by unfold ofE; rw [HOL.out, if_neg (by omega), if_neg (by omega), ofL_ofL])
      have HE3 : Hid (ofE (l.map (xr by_)) = (ofL l, 0)) := Lib.hid (by unfold ofE; rw [List.length_map, HLEN.out, if_neg (by omega), if_neg (by omega), HX.out])
      have HPW := Lib.hid (HP1.out.below HB.out)
      have HOR := Lib.hid HO.out.rd
      have HBW := Lib.hid (HB1.out.trans (HB.out.mono HB1.out.size))
      clear HR1 HP1 HO1 HB
      go_wp2_with fail
      refine (progOf_any _ k c1 (ofL l) wr HPW.out).mono ?_; rintro e w2 ⟨A2, c2, rfl, ho2, hb2⟩
      rw [HE2.out] at ho2
      rw [HE2.out]
      rw [HOL.out] at ho2
      rw [HOL.out]
      have HB2 := Lib.hid (HBW.out.trans (hb2.mono HBW.out.size))
      have HPW2 := Lib.hid (HPW.out.below hb2)
      have HOR2 := Lib.hid (HOR.out.below hb2)
      have HQ2 := Lib.hid ho2.rd
      clear ho2 hb2 HPW HOR HBW HO
      go_wp2_with fail
      refine (progOf_any Ao k co (l.map (xr by_)) w2 HOR2.out).mono ?_; rintro e w3 ⟨A3, c3, rfl, ho3, hb3⟩
      rw [HE3.out] at ho3
      rw [HE3.out]
      rw [HOL.out] at ho3
      rw [HOL.out]
      have HB3 := Lib.hid (HB2.out.trans (hb3.mono HB2.out.size))
      have HPW3 := Lib.hid (HPW2.out.below hb3)
      have HQ3 := Lib.hid (HQ2.out.below hb3)
      have HR3 := Lib.hid ho3.rd
      clear ho3 hb3 HPW2 HQ2 HOR2 HB2
      go_wp2_with fail
      refine (eq_any _ A2 k k c1 c2 (ofL l) (ofL l) w3 HPW3.out HQ3.out).mono ?_; rintro e w' ⟨rfl, d1, rfl⟩
      rw [beq_self_eq_true]
      go_wp2_with fail
      refine (eq_any _ A3 k k c1 c3 (ofL l) (ofL l) _ (HPW3.out.drewN d1) (HR3.out.drewN d1)).mono ?_; rintro e w' ⟨rfl, d2, rfl⟩
      rw [beq_self_eq_true]
      have HB4 := Lib.hid (below_drewN HB3.out (d1 + d2))
      go_wp2_with fail
      refine (awake_any (w3.drewN (d1 + d2)) (HSG.out.below HB4.out)).mono ?_; rintro e w5 ⟨rfl, hb5⟩
      have HB5 := Lib.hid (HB4.out.trans (hb5.mono HB4.out.size))
      clear hb5
      go_wp2
      go_ret
      exact ⟨rfl, HB5.out⟩
end Go.Proofs.YtooepkpgffpcjaaDoor
