/- Walk: the statement ChartMetric. -/
import Derived.Test.YtooepkpgffpcjaaDoorLawMoves
import Derived.Test.YtooepkpgffpcjaaDoorThree2
import Derived.Test.YtooepkpgffpcjaaDoorKeep
import Derived.Test.YtooepkpgffpcjaaDoorHeld
namespace Go.Proofs.YtooepkpgffpcjaaDoor
open Go.RowKit

theorem movesP_ok {a b : List Int} (ha : chk a = 0) (hb : chk b = 0) (h : a.length = b.length) : movesP a b = (mvN a b, 0) := by rw [moves_eq]; exact movesR_ok ha hb h

set_option maxHeartbeats 2000000 in
set_option maxRecDepth 100000 in
theorem chartMetric_any (A0 : Option Addr) (n0 c0 : Nat) (nums : List Int) (w : World) (h : RdI w A0 n0 nums) (hs : Signs w) :
    Calls Tryd.prog 6 #[.slice A0 n0 c0] w (Held w) := by
  have HSG := Lib.hid hs
  clear hs
  go_enter Tryd.func6, Tryd.ntmps6
  go_wp2_with fail
  refine (boxOf_any A0 n0 c0 nums w h).mono ?_; rintro e w1 ⟨g, rfl, hg, hbox, hb1⟩
  have HB1 := Lib.hid hb1
  have HBX := Lib.hid hbox
  have HG := Lib.hid hg
  clear hb1 hbox h hg
  go_wp2_with fail
  refine (three2_any g w1 HBX.out).mono ?_; rintro e w2 ⟨n, P, Q, R, cp, cq, cr, p, q, r, rfl, hn1, hn8, hcp, hcq, hcr, rp, rq, rr, hsp⟩
  have HB2 := Lib.hid (HB1.out.trans (hsp.below HG.out HB1.out.size))
  have HX2 := Lib.hid hsp.box
  have HP2 := Lib.hid rp
  have HQ2 := Lib.hid rq
  have HR2 := Lib.hid rr
  have HG1 : Hid (g < w1.heap.size) := HBX.out.lt
  have hlp := rp.len
  have hlq := rq.len
  have hlr := rr.len
  have epq : p.length = q.length := by omega
  have epr : p.length = r.length := by omega
  have eqr : q.length = r.length := by omega
  have M1 := Lib.hid (movesP_ok hcp hcq epq)
  have M2 := Lib.hid (movesP_ok hcq hcp epq.symm)
  have M3 := Lib.hid (movesP_ok hcp hcr epr)
  have M4 := Lib.hid (movesP_ok hcr hcq eqr.symm)
  have L1 := Lib.hid (mv_symm hcp hcq epq)
  have L2 := Lib.hid (mv_lt hcp hcq epq)
  have L3 := Lib.hid (mv_nonneg hcp hcq epq)
  have L4 := Lib.hid (mv_zero hcp hcq epq)
  have L5 := Lib.hid (mv_tri hcp hcr hcq epr eqr.symm)
  have L6 := Lib.hid (And.intro (mv_nonneg hcp hcr epr) (mv_nonneg hcr hcq eqr.symm))
  have L7 := Lib.hid (And.intro (mv_lt hcp hcr epr) (mv_lt hcr hcq eqr.symm))
  have HLP := Lib.hid hlp
  have HLR := Lib.hid hlr
  have CP := Lib.hid hcp
  clear hsp rp rq rr hcq hcr hlq hlr HB1 HBX epq epr eqr hcp hlp
  go_wp2_with fail
  refine (ints_any P n cp p w2 HP2.out.rd (by omega)).mono ?_; rintro e w3 ⟨X, cx, rfl, hox, hbx⟩
  rw [HLP.out] at hox
  rw [HLP.out]
  have HO3 := Lib.hid hox
  have HP3 := Lib.hid (HP2.out.below hbx)
  have HQ3 := Lib.hid (HQ2.out.below hbx)
  have HR3 := Lib.hid (HR2.out.below hbx)
  have HX3 := Lib.hid (HX2.out.below hbx)
  have HB3 := Lib.hid (HB2.out.trans (hbx.mono HB2.out.size))
  have HG2 : Hid (g < w2.heap.size) := Lib.hid HX2.out.lt
  have HPB : Hid (∀ b, P.map (·.block) = some b → b < w2.heap.size) := Lib.hid fun b hb => HP2.out.block b hb
  have HQB : Hid (∀ b, Q.map (·.block) = some b → b < w2.heap.size) := Lib.hid fun b hb => HQ2.out.block b hb
  have HRB : Hid (∀ b, R.map (·.block) = some b → b < w2.heap.size) := Lib.hid fun b hb => HR2.out.block b hb
  have HZ2 : Hid (w.heap.size ≤ w2.heap.size) := Lib.hid HB2.out.size
  clear hox hbx HP2 HQ2 HR2 HX2 HB2
  obtain ⟨gx, rfl, hgx, hgx2⟩ := HO3.out.form (by omega)
  have HGX := Lib.hid hgx
  clear hgx hgx2
  go_wp2_with fail
  refine (up_any g n w3 HX3.out (by omega) (by omega)).mono ?_; rintro e w4 ⟨i, rfl, hi0, hi1, hst⟩
  obtain ⟨i, rfl⟩ : ∃ i' : Nat, i = i' := ⟨i.toNat, by omega⟩
  have hin : i < n := by omega
  have HO4 := Lib.hid (HO3.out.spun hst.spun HG2.out)
  have HP4 := Lib.hid (HP3.out.spun hst.spun HG1.out)
  have HQ4 := Lib.hid (HQ3.out.spun hst.spun HG1.out)
  have HR4 := Lib.hid (HR3.out.spun hst.spun HG1.out)
  have HB4 := Lib.hid (HB3.out.trans (hst.below HG.out))
  have HX4 := Lib.hid hst.box
  clear hst hi0 hi1 HO3 HP3 HQ3 HR3 HB3 HX3
  go_wp2_with fail
  refine (up_any g ((n : Int) + 1) w4 HX4.out (by omega) (by omega)).mono ?_; rintro e w5 ⟨v, rfl, hv0, hv1, hst⟩
  have hv9 : v < 10 := by omega
  have HO5 := Lib.hid (HO4.out.spun hst.spun HG2.out)
  have HP5 := Lib.hid (HP4.out.spun hst.spun HG1.out)
  have HQ5 := Lib.hid (HQ4.out.spun hst.spun HG1.out)
  have HR5 := Lib.hid (HR4.out.spun hst.spun HG1.out)
  have HB5 := Lib.hid (HB4.out.trans (hst.below HG.out))
  clear hst hv1 HO4 HP4 HQ4 HR4 HB4 HX4
  obtain ⟨pv, hpv⟩ : ∃ pv, p[i]? = some pv := ⟨_, get_getD (by rw [HLP.out]; exact hin)⟩
  have hcell := HO5.out.cellAt hpv
  have hfz := HO5.out.frozenAt i
  have HV := Lib.hid (I64.small (v := v) (by omega))
  clear hpv
  have HO6 := Lib.hid (HO5.out.stored i HV.out)
  have HP6 := Lib.hid (HP5.out.far (p := ⟨gx, i, none⟩) (fun e => by have h9 : gx < w2.heap.size := HPB.out _ e; have := HGX.out; omega) (.int .i64 v))
  have HQ6 := Lib.hid (HQ5.out.far (p := ⟨gx, i, none⟩) (fun e => by have h9 : gx < w2.heap.size := HQB.out _ e; have := HGX.out; omega) (.int .i64 v))
  have HR6 := Lib.hid (HR5.out.far (p := ⟨gx, i, none⟩) (fun e => by have h9 : gx < w2.heap.size := HRB.out _ e; have := HGX.out; omega) (.int .i64 v))
  have HB6 := Lib.hid (HB5.out.setCell (p := ⟨gx, i, none⟩) (by show w.heap.size ≤ gx; have := HZ2.out; have := HGX.out; omega) (.int .i64 v))
  have HOL := Lib.hid HO6.out.len
  have HOE : Hid (ofE (p.set i v) = (ofL (p.set i v), 0)) := Lib.hid (by unfold ofE; rw [HOL.out, if_neg (by omega), if_neg (by omega)])
  have hcx : chk (ofL (p.set i v)) = 0 := chk_ofL (by rw [HOL.out]; omega) (by rw [HOL.out]; omega)
  have hol : (ofL (p.set i v)).length = n := by rw [ofL_length, HOL.out]
  have HOL2 := Lib.hid hol
  have hpo : p.length = (ofL (p.set i v)).length := by rw [hol, HLP.out]
  have M5 := Lib.hid (movesP_ok CP.out hcx hpo)
  have L8 := Lib.hid (mv_one (a := p) (l := p.set i v) CP.out (by rw [List.length_set]) (k := i) (fun t _ ht => by rw [getD_set_i (by rw [HLP.out]; exact hin), if_neg (Ne.symm ht)]))
  have L9 := Lib.hid (mv_zero CP.out hcx hpo)
  have L10 := Lib.hid (mv_nonneg CP.out hcx hpo)
  clear HO5 HP5 HQ5 HR5 HB5 hcx hol hpo
  go_wp2_with fail
  generalize w5.setCell ⟨gx, i, none⟩ (.int .i64 v) = w6 at HO6 HP6 HQ6 HR6 HB6 ⊢
  refine (progOf_any _ n cx (p.set i v) w6 HO6.out.rd).mono ?_; rintro e w7 ⟨Y, cy, rfl, hoy, hby⟩
  rw [HOE.out] at hoy
  rw [HOE.out]
  simp only at hoy ⊢
  rw [HOL2.out] at hoy
  rw [HOL2.out]
  generalize ofL (p.set i v) = y at *
  have HP7 := Lib.hid (HP6.out.rd.below hby)
  have HQ7 := Lib.hid (HQ6.out.rd.below hby)
  have HR7 := Lib.hid (HR6.out.rd.below hby)
  have HY7 := Lib.hid hoy.rd
  have HB7 := Lib.hid (HB6.out.trans (hby.mono HB6.out.size))
  clear hoy hby HO6 HP6 HQ6 HR6 HB6
  go_wp2_with fail
  refine (moves_any P Q n n cp cq p q w7 HP7.out HQ7.out).mono ?_; rintro e w8 ⟨rfl, hb⟩
  rw [M1.out]
  simp only
  have HB8 := Lib.hid (HB7.out.trans (hb.mono HB7.out.size))
  have HP8 := Lib.hid (HP7.out.below hb)
  have HQ8 := Lib.hid (HQ7.out.below hb)
  have HR8 := Lib.hid (HR7.out.below hb)
  have HY8 := Lib.hid (HY7.out.below hb)
  clear hb HB7 HP7 HQ7 HR7 HY7
  go_wp2_with fail
  refine (moves_any Q P n n cq cp q p w8 HQ8.out HP8.out).mono ?_; rintro e w9 ⟨rfl, hb⟩
  rw [M2.out]
  simp only
  have HB9 := Lib.hid (HB8.out.trans (hb.mono HB8.out.size))
  have HP9 := Lib.hid (HP8.out.below hb)
  have HQ9 := Lib.hid (HQ8.out.below hb)
  have HR9 := Lib.hid (HR8.out.below hb)
  have HY9 := Lib.hid (HY8.out.below hb)
  clear hb HB8 HP8 HQ8 HR8 HY8
  go_wp2_with fail
  refine (moves_any P R n n cp cr p r w9 HP9.out HR9.out).mono ?_; rintro e w10 ⟨rfl, hb⟩
  rw [M3.out]
  simp only
  have HB10 := Lib.hid (HB9.out.trans (hb.mono HB9.out.size))
  have HP10 := Lib.hid (HP9.out.below hb)
  have HQ10 := Lib.hid (HQ9.out.below hb)
  have HR10 := Lib.hid (HR9.out.below hb)
  have HY10 := Lib.hid (HY9.out.below hb)
  clear hb HB9 HP9 HQ9 HR9 HY9
  go_wp2_with fail
  refine (moves_any R Q n n cr cq r q w10 HR10.out HQ10.out).mono ?_; rintro e w11 ⟨rfl, hb⟩
  rw [M4.out]
  simp only
  have HB11 := Lib.hid (HB10.out.trans (hb.mono HB10.out.size))
  have HP11 := Lib.hid (HP10.out.below hb)
  have HQ11 := Lib.hid (HQ10.out.below hb)
  have HR11 := Lib.hid (HR10.out.below hb)
  have HY11 := Lib.hid (HY10.out.below hb)
  clear hb HB10 HP10 HQ10 HR10 HY10
  go_wp2_with fail
  refine (moves_any P Y n n cp cy p y w11 HP11.out HY11.out).mono ?_; rintro e w12 ⟨rfl, hb⟩
  rw [M5.out]
  simp only
  have HB12 := Lib.hid (HB11.out.trans (hb.mono HB11.out.size))
  have HP12 := Lib.hid (HP11.out.below hb)
  have HQ12 := Lib.hid (HQ11.out.below hb)
  have HR12 := Lib.hid (HR11.out.below hb)
  have HY12 := Lib.hid (HY11.out.below hb)
  clear hb HB11 HP11 HQ11 HR11 HY11
  have hx0 := L3.out
  have hx1 := L2.out
  rw [HLP.out] at hx1
  have hxy := L1.out
  have htri := L5.out
  have hz0 := L6.out.1
  have hw0 := L6.out.2
  have hz1 := L7.out.1
  have hw1 := L7.out.2
  rw [HLP.out] at hz1
  rw [HLR.out] at hw1
  have ho0 := L10.out
  have ho1 := L8.out
  have HZX : Hid ((mvN p q == 0) = (p == q)) := Lib.hid (bool_eq_of_iff (by rw [beq_iff_eq, beq_iff_eq]; exact L4.out))
  have HZO : Hid ((mvN p y == 0) = (p == y)) := Lib.hid (bool_eq_of_iff (by rw [beq_iff_eq, beq_iff_eq]; exact L9.out))
  clear L1 L2 L3 L4 L5 L6 L7 L8 L9 L10 M1 M2 M3 M4 M5
  have HEO := Lib.hid (eq_any P Y n n cp cy p y w12 HP12.out HY12.out)
  rw [← HZO.out] at HEO
  have HEX := Lib.hid (fun d : Nat => eq_any P Q n n cp cq p q (w12.drewN d) (HP12.out.drewN d) (HQ12.out.drewN d))
  rw [← HZX.out] at HEX
  rw [← hxy] at *
  generalize mvN p q = a1 at *
  generalize mvN p r = a3 at *
  generalize mvN r q = a4 at *
  generalize mvN p y = a5 at *
  have hsum : a1 ≤ a3 + a4 := by omega
  have g1 : ((a5 == 0) != (a5 == 0)) = false := by simp
  have g2 : (a1 == a1) = true := by simp
  go_wp2_with fail
  refine HEO.out.mono ?_; rintro e w' ⟨rfl, d1, rfl⟩
  go_wp2_with fail
  refine (HEX.out d1).mono ?_; rintro e w' ⟨rfl, d2, rfl⟩
  have HBZ := Lib.hid (below_drewN HB12.out (d1 + d2))
  go_wp2_with fail
  refine (awake_any (w12.drewN (d1 + d2)) (HSG.out.below HBZ.out)).mono ?_; rintro e wz ⟨rfl, hbz⟩
  have HBQ := Lib.hid (HBZ.out.trans (hbz.mono HBZ.out.size))
  clear hbz
  go_wp2
  go_ret
  exact ⟨rfl, HBQ.out⟩
end Go.Proofs.YtooepkpgffpcjaaDoor
