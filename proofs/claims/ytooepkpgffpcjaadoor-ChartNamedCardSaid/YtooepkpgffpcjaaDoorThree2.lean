/- Walk: three partitions made of numbers: slices of the callee's own. -/
import Derived.Test.YtooepkpgffpcjaaDoorThree
namespace Go.Proofs.YtooepkpgffpcjaaDoor
open Go.RowKit

/-- three partitions of n packets, the box g turned -/
def Tripled2 (g : Nat) (w : World) (e : Ending) (w' : World) : Prop :=
  ∃ (n : Nat) (A B C : Option Addr) (c d f : Nat) (p q r : List Int), e = .returned (.tuple #[.slice A n c, .slice B n d, .slice C n f]) ∧ 1 ≤ n ∧ n ≤ 8 ∧ chk p = 0 ∧ chk q = 0 ∧ chk r = 0 ∧
    OwnI w' w.heap.size 3 A n c p ∧ OwnI w' w.heap.size 3 B n d q ∧ OwnI w' w.heap.size 3 C n f r ∧ Spun g w w'
set_option maxHeartbeats 2000000 in
set_option maxRecDepth 100000 in
theorem three2_any (g : Nat) (w : World) (h : IsBox w g) : Calls Tryd.prog 33 #[.pointer (some ⟨g, 0, none⟩)] w (Tripled2 g w) := by
  have HL := Lib.hid h.lt
  have HX0 := Lib.hid h
  clear h
  go_enter Tryd.func33, Tryd.ntmps33
  go_wp2_with fail
  refine (any_any g 1 8 w HX0.out (by omega) (by omega) (by omega) (by omega)).mono ?_; rintro e w1 ⟨k, rfl, hk0, hk1, hst⟩
  have hk8 : k ≤ 8 := by omega
  obtain ⟨k, rfl⟩ : ∃ k' : Nat, k = k' := ⟨k.toNat, by omega⟩
  have HS1 := Lib.hid hst.spun
  have hsz1 : w.heap.size ≤ w1.heap.size := by have := hst.size; omega
  have HZ1 := Lib.hid hsz1
  clear hk1 hst hsz1
  go_wp2_with fail
  refine (partitionOf_any g k w1 HS1.out.box (by omega) (by omega)).mono ?_; rintro e w2 ⟨A, c, p, rfl, hckp, hop, hsp⟩
  have HP2 := Lib.hid (hop.mono HZ1.out)
  have HS2 := Lib.hid (HS1.out.trans hsp)
  have HCP := Lib.hid hckp
  have HZ2 : Hid (w.heap.size ≤ w2.heap.size) := Lib.hid (Nat.le_trans HZ1.out hsp.grown.size)
  clear hop hsp hckp HS1
  go_wp2_with fail
  refine (partitionOf_any g k w2 HS2.out.box (by omega) (by omega)).mono ?_; rintro e w3 ⟨B, d, q, rfl, hckq, hoq, hsp⟩
  have HP3 := Lib.hid (HP2.out.spun hsp HL.out)
  have HQ3 := Lib.hid (hoq.mono HZ2.out)
  have HS3 := Lib.hid (HS2.out.trans hsp)
  have HCQ := Lib.hid hckq
  have HZ3 : Hid (w.heap.size ≤ w3.heap.size) := Lib.hid (Nat.le_trans HZ2.out hsp.grown.size)
  clear hoq hsp hckq HS2 HP2
  go_wp2_with fail
  refine (partitionOf_any g k w3 HS3.out.box (by omega) (by omega)).mono ?_; rintro e w4 ⟨C, f, r, rfl, hckr, hor, hsp⟩
  have HP4 := Lib.hid (HP3.out.spun hsp HL.out)
  have HQ4 := Lib.hid (HQ3.out.spun hsp HL.out)
  have HR4 := Lib.hid (hor.mono HZ3.out)
  have HS4 := Lib.hid (HS3.out.trans hsp)
  have HCR := Lib.hid hckr
  clear hor hsp hckr HS3 HP3 HQ3
  go_wp2_with fail
  refine (up_any g 4 w4 HS4.out.box (by omega) (by omega)).mono ?_; rintro e w5 ⟨j, rfl, hj0, hj1, hst⟩
  have HP5 := Lib.hid (HP4.out.spun hst.spun HL.out)
  have HQ5 := Lib.hid (HQ4.out.spun hst.spun HL.out)
  have HR5 := Lib.hid (HR4.out.spun hst.spun HL.out)
  have HS5 := Lib.hid (HS4.out.trans hst.spun)
  have HZ5 : Hid (w.heap.size ≤ w5.heap.size) := Lib.hid HS5.out.grown.size
  clear hst HS4 HP4 HQ4 HR4
  by_cases hj : j = 0
  · subst hj
    have hpl := HP5.out.len
    go_wp2_with fail
    refine (ints_any A k c p w5 HP5.out.rd (by omega)).mono ?_; rintro e w6 ⟨X, cx, rfl, hox, hbx⟩
    rw [hpl] at hox
    rw [hpl]
    have HX6 := Lib.hid hox
    have HP6 := Lib.hid (HP5.out.below hbx)
    have HR6 := Lib.hid (HR5.out.below hbx)
    have HS6 := Lib.hid (HS5.out.then_ hbx)
    have HPB : Hid (∀ b, A.map (·.block) = some b → b < w5.heap.size) := Lib.hid fun b hb => HP5.out.block b hb
    have HRB : Hid (∀ b, C.map (·.block) = some b → b < w5.heap.size) := Lib.hid fun b hb => HR5.out.block b hb
    have HG5 : Hid (g < w5.heap.size) := Lib.hid (Nat.lt_of_lt_of_le HL.out HZ5.out)
    clear hox hbx HP5 HQ5 HR5 HS5 hj0 hj1
    go_wp2_with fail
    refine (up_any g k w6 HS6.out.box (by omega) (by omega)).mono ?_; rintro e w7 ⟨i, rfl, hi0, hi1, hst⟩
    obtain ⟨i, rfl⟩ : ∃ i' : Nat, i = i' := ⟨i.toNat, by omega⟩
    have hik : i < k := by omega
    have HX7 := Lib.hid (HX6.out.spun hst.spun HG5.out)
    have HP7 := Lib.hid (HP6.out.spun hst.spun HL.out)
    have HR7 := Lib.hid (HR6.out.spun hst.spun HL.out)
    have HS7 := Lib.hid (HS6.out.trans hst.spun)
    clear hst hi0 hi1 HX6 HP6 HR6 HS6
    go_wp2_with fail
    refine (up_any g k w7 HS7.out.box (by omega) (by omega)).mono ?_; rintro e w8 ⟨v, rfl, hv0, hv1, hst⟩
    have hv8 : v < 9 := by omega
    have HX8 := Lib.hid (HX7.out.spun hst.spun HG5.out)
    have HP8 := Lib.hid (HP7.out.spun hst.spun HL.out)
    have HR8 := Lib.hid (HR7.out.spun hst.spun HL.out)
    have HS8 := Lib.hid (HS7.out.trans hst.spun)
    clear hst hv1 HX7 HP7 HR7 HS7
    obtain ⟨gx, rfl, hgx, hgx2⟩ := HX8.out.form (by omega)
    obtain ⟨pv, hpv⟩ : ∃ pv, p[i]? = some pv := ⟨_, get_getD (by rw [hpl]; exact hik)⟩
    have hcell := HX8.out.cellAt hpv
    have hfz := HX8.out.frozenAt i
    have HV := Lib.hid (I64.small (v := v) (by omega))
    clear hpv hpl
    have HX9 := Lib.hid (HX8.out.stored i HV.out)
    have HP9 := Lib.hid (HP8.out.far (p := ⟨gx, i, none⟩) (fun e => by have := HPB.out _ e; simp at this; omega) (.int .i64 v))
    have HR9 := Lib.hid (HR8.out.far (p := ⟨gx, i, none⟩) (fun e => by have := HRB.out _ e; simp at this; omega) (.int .i64 v))
    have HS9 : Hid (Spun g w (w8.setCell ⟨gx, i, none⟩ (.int .i64 v))) := Lib.hid (HS8.out.below_ ((Below.refl _ _).setCell (p := ⟨gx, i, none⟩) (by show w.heap.size ≤ gx; have := HZ5.out; omega) _) HL.out)
    have HOL := Lib.hid HX9.out.len
    have HOE : Hid (ofE (p.set i v) = (ofL (p.set i v), 0)) := Lib.hid (by unfold ofE; rw [HOL.out, if_neg (by omega), if_neg (by omega)])
    have HCX : Hid (chk (ofL (p.set i v)) = 0) := Lib.hid (chk_ofL (by rw [HOL.out]; omega) (by rw [HOL.out]; omega))
    have HOL2 : Hid ((ofL (p.set i v)).length = k) := Lib.hid (by rw [ofL_length, HOL.out])
    clear HX8 HP8 HR8 HS8
    go_wp2_with fail
    generalize w8.setCell ⟨gx, i, none⟩ (.int .i64 v) = w9 at HX9 HP9 HR9 HS9 ⊢
    refine (progOf_any _ k cx (p.set i v) w9 HX9.out.rd).mono ?_; rintro e w10 ⟨Y, cy, rfl, hoy, hby⟩
    rw [HOE.out] at hoy
    rw [HOE.out]
    simp only at hoy ⊢
    rw [HOL2.out] at hoy
    rw [HOL2.out]
    have HP10 := Lib.hid (HP9.out.below hby)
    have HR10 := Lib.hid (HR9.out.below hby)
    have HS10 := Lib.hid (HS9.out.then_ hby)
    have HY := Lib.hid (hoy.mono HS9.out.grown.size)
    clear hoy hby HP9 HR9 HS9 HX9
    go_wp2
    go_ret3
    exact ⟨k, A, Y, C, c, cy, f, p, _, r, rfl, by omega, by omega, HCP.out, HCX.out, HCR.out, HP10.out, HY.out, HR10.out, HS10.out⟩
  · have g0 : (j == 0) = false := by simpa using hj
    by_cases hj1' : j = 1
    · subst hj1'
      have hpl := HP5.out.len
      have hrl := HR5.out.len
      have HJE : Hid (joinE p r = (joinL p r, 0)) := Lib.hid (by unfold joinE chk2; rw [HCP.out, HCR.out]; simp; omega)
      have HJL : Hid ((joinL p r).length = k) := Lib.hid (by rw [joinL_length, hpl])
      have HCJ := Lib.hid (chk_join (b := r) HCP.out)
      clear hpl hrl
      go_wp2_with fail
      refine (joinP_any A C k k c f p r w5 HP5.out.rd HR5.out.rd).mono ?_; rintro e w10 ⟨Y, cy, rfl, hoy, hby⟩
      rw [HJE.out] at hoy
      rw [HJE.out]
      simp only at hoy ⊢
      rw [HJL.out] at hoy
      rw [HJL.out]
      have HP10 := Lib.hid (HP5.out.below hby)
      have HR10 := Lib.hid (HR5.out.below hby)
      have HS10 := Lib.hid (HS5.out.then_ hby)
      have HY := Lib.hid (hoy.mono HZ5.out)
      clear hoy hby
      go_wp2
      go_ret3
      exact ⟨k, A, Y, C, c, cy, f, p, _, r, rfl, by omega, by omega, HCP.out, HCJ.out, HCR.out, HP10.out, HY.out, HR10.out, HS10.out⟩
    · have g1 : (j == 1) = false := by simpa using hj1'
      clear hj hj1'
      go_wp2
      go_ret3
      exact ⟨k, A, B, C, c, d, f, p, q, r, rfl, by omega, by omega, HCP.out, HCQ.out, HCR.out, HP5.out, HQ5.out, HR5.out, HS5.out⟩
end Go.Proofs.YtooepkpgffpcjaaDoor
