/- Walk: the statement ChartAll. -/
import Derived.Test.YtooepkpgffpcjaaDoorAllLaw
import Derived.Test.YtooepkpgffpcjaaDoorNextP
import Derived.Test.YtooepkpgffpcjaaDoorThree
import Derived.Test.YtooepkpgffpcjaaDoorHeld
namespace Go.Proofs.YtooepkpgffpcjaaDoor
open Go.RowKit

theorem fit7_any (x : Int) (w : World) (hx : I64 x) : Calls Tryd.prog 55 #[.int .i64 x, .int .i64 7] w fun e w' => (∃ r : Int, e = .returned (.int .i64 r) ∧ 0 ≤ r ∧ r < 7) ∧ w = w' := by
  unfold I64 at hx
  have h2 : Int.tmod x 7 < 7 := Int.tmod_lt_of_pos x (by omega)
  have h1 : -7 < Int.tmod x 7 := by
    have h := Int.tmod_lt_of_pos (-x) (show (0 : Int) < 7 by omega)
    rw [Int.neg_tmod] at h
    omega
  by_cases h : Int.tmod x 7 < 0
  · go_enter Tryd.func55, Tryd.ntmps55
    go_wp2
    go_ret
    exact ⟨⟨_, rfl, by show 0 ≤ Int.tmod x 7 + 7; omega, by show Int.tmod x 7 + 7 < 7; omega⟩, rfl⟩
  · go_enter Tryd.func55, Tryd.ntmps55
    go_wp2
    go_ret
    exact ⟨⟨_, rfl, by show 0 ≤ Int.tmod x 7; omega, by show Int.tmod x 7 < 7; omega⟩, rfl⟩

theorem less_yes {l r : List Int} (h : lessB l r = true) : ∃ (j : Nat) (u v : Int), l[j]? = some u ∧ r[j]? = some v ∧ u < v ∧ ∀ i, i < j → l[i]? = r[i]? := by
  induction l generalizing r with
  | nil => simp [lessB] at h
  | cons a l ih =>
    cases r with
    | nil => simp [lessB] at h
    | cons b r =>
      rw [lessB] at h
      split at h
      · rename_i e
        obtain ⟨j, u, v, h1, h2, h3, h4⟩ := ih h
        refine ⟨j + 1, u, v, by simpa using h1, by simpa using h2, h3, fun i hi => ?_⟩
        cases i with
        | zero => simp; exact beq_iff_eq.1 e
        | succ i => simpa using h4 i (by omega)
      · exact ⟨0, a, b, rfl, rfl, by simpa using h, fun i hi => by omega⟩
set_option maxHeartbeats 1000000 in
theorem less_any (A B : Option Addr) (n m c d : Nat) (l r : List Int) (w : World) (h1 : RdI w A n l) (h2 : RdI w B m r) (h : lessB l r = true) :
    Calls Tryd.prog 56 #[.slice A n c, .slice B m d] w fun e w' => e = .returned (.bool true) ∧ ∃ k, w' = w.drewN k := by
  obtain ⟨j, u, v, hu, hv, huv, hsame⟩ := less_yes h
  have hjn : j < n := by have := (List.getElem?_eq_some_iff.1 hu).1; rw [h1.len] at this; exact this
  have hjm : j < m := by have := (List.getElem?_eq_some_iff.1 hv).1; rw [h2.len] at this; exact this
  have HU := Lib.hid hu
  have HV := Lib.hid hv
  have HS := Lib.hid hsame
  have hbn := h1.bd
  have hbm := h2.bd
  clear hu hv hsame h
  go_enter Tryd.func56, Tryd.ntmps56
  go_wp2
  go_loopw [5] (fun i wr => ∃ k : Nat, k ≤ j ∧ i = .int .i64 k ∧ ∃ d, wr = w.drewN d) (fun i _ => j - (intOf i).toNat)
  case atStart => exact ⟨0, by omega, rfl, 0, rfl⟩
  case round =>
    obtain ⟨k, hk, rfl, dd, rfl⟩ := hrel
    have hkn : (k : Int) < n := by omega
    have hkm : (k : Int) < m := by omega
    obtain ⟨ad, a, rfl, _, ha, _, hcell⟩ := h1.at_ (k := k) (by omega)
    obtain ⟨bd, b, rfl, _, hb, _, hcell2⟩ := h2.at_ (k := k) (by omega)
    by_cases hkj : k < j
    · have hab : a = b := by
        have e := HS.out k hkj
        rw [ha.out, hb.out] at e
        exact Option.some.inj e
      subst hab
      have g : (a != a) = false := by simp
      go_wp2_with fail
      go_quiet (fail)
      go_wp2
      go_roundw
      case rel => exact ⟨k + 1, by omega, by go_num, _, rfl⟩
      case measure => simp [intOf]; omega
    · obtain rfl : k = j := by omega
      have e1 := ha.out.symm.trans HU.out
      have e2 := hb.out.symm.trans HV.out
      injection e1 with e1
      injection e2 with e2
      subst e1 e2
      have g : (a != b) = true := by simp; omega
      have g2 : (a == b) = false := by simp; omega
      go_wp2_with fail
      go_quiet (fail)
      go_wp2_with fail
      go_quiet (fail)
      go_wp2
      go_ret
      exact ⟨rfl, _, by rw [World.drewN_drewN, World.drewN_drewN]⟩

set_option maxHeartbeats 2000000 in
set_option maxRecDepth 100000 in
theorem chartAll_any (x : Int) (w : World) (hx : I64 x) (hs : Signs w) : Calls Tryd.prog 11 #[.int .i64 x] w (Held w) := by
  have HSG := Lib.hid hs
  clear hs
  go_enter Tryd.func11, Tryd.ntmps11
  go_wp2_with fail
  refine (fit7_any x w hx).mono ?_; rintro e w' ⟨⟨f, rfl, hf0, hf1⟩, rfl⟩
  obtain ⟨n, hn⟩ : ∃ n : Nat, 1 + f = n := ⟨(1 + f).toNat, by omega⟩
  have hn1 : 1 ≤ n := by omega
  have hn7 : n ≤ 7 := by omega
  have hf : f = (n : Int) - 1 := by omega
  subst hf
  have h1n : 1 + ((n : Int) - 1) = n := by omega
  have HCE : Hid (countE n = (countR n, 0)) := Lib.hid (by unfold countE; rw [if_neg (by omega), Int.toNat_natCast])
  have hcs := countR_small n hn1 hn7
  have HUE : Hid (∀ r : Nat, (r : Int) < countR n → unrankE n r = (pr n r, 0)) := Lib.hid (fun r hr => by unfold unrankE; rw [if_neg (by omega), if_neg (by rw [Int.toNat_natCast]; omega), Int.toNat_natCast]; rfl)
  have HUM : Hid (unrankE n (countR n) = ([], 7)) := Lib.hid (by unfold unrankE; rw [if_neg (by omega), if_pos (by rw [Int.toNat_natCast]; omega)])
  have HCK : Hid (∀ r : Nat, chk (pr n r) = 0) := Lib.hid (pr_chk hn1 hn7)
  have HRK : Hid (∀ r : Nat, (r : Int) < countR n → rankE (pr n r) = ((r : Int), 0)) := Lib.hid (fun r hr => by unfold rankE; rw [if_neg (by rw [pr_chk hn1 hn7]; omega), rank_pr hn1 hn7 hr])
  have HNX : Hid (∀ r : Nat, (r : Int) + 1 < countR n → nextE (pr n r) = (pr n (r + 1), 0) ∧ lessB (pr n r) (pr n (r + 1)) = true) := Lib.hid (fun r hr => by
    obtain ⟨h1, h2⟩ := next_pr hn1 hn7 hr
    refine ⟨?_, h2⟩
    unfold nextE; rw [if_neg (by rw [pr_chk hn1 hn7]; omega), h1])
  have HLX : Hid (∀ r : Nat, (r : Int) + 1 = countR n → nextE (pr n r) = ([], 7)) := Lib.hid (fun r hr => by unfold nextE; rw [if_neg (by rw [pr_chk hn1 hn7]; omega), last_pr hn1 hn7 hr])
  have HPL : Hid (∀ r : Nat, (pr n r).length = n) := Lib.hid (pr_len n)
  have HPB : Hid (∀ r : Nat, 1 ≤ blk (pr n r) ∧ blk (pr n r) ≤ n) := Lib.hid (pr_blk hn1 hn7)
  have HPP : Hid (∀ k : Nat, 1 ≤ k → k ≤ n → (partsSeen n (countR n).toNat).getD k 0 = partedR n k ∧ partedE n k = (partedR n k, 0)) := Lib.hid (fun k h1 h2 => by
    refine ⟨seen_parted hn1 hn7 h1 h2, ?_⟩
    unfold partedE; rw [if_neg (by omega), Int.toNat_natCast])
  obtain ⟨m, hm⟩ : ∃ m : Nat, countR n = m := ⟨(countR n).toNat, by omega⟩
  rw [hm] at HCE hcs HUE HUM HRK HNX HLX HPP
  simp only [Int.toNat_natCast] at HPP
  have hm1 : 1 ≤ m := by omega
  have hm1000 : m ≤ 1000 := by omega
  clear hm hcs
  go_wp2_with fail
  refine (count_any n w).mono ?_; rintro e w1 ⟨rfl, hb1⟩
  rw [HCE.out]
  have HB1 := Lib.hid hb1
  clear hb1
  go_wp2_with fail
  have hu0 := HUE.out 0 (by omega)
  refine (unrank_any n 0 w1).mono ?_; rintro e w2 ⟨A, c, rfl, ho, hb2⟩
  rw [show unrankE n 0 = (pr n 0, 0) from hu0] at ho
  rw [show unrankE n 0 = (pr n 0, 0) from hu0]
  simp only at ho ⊢
  rw [HPL.out] at ho
  rw [HPL.out]
  have HO2 := Lib.hid ho.rd
  have HB2 := Lib.hid (HB1.out.trans (hb2.mono HB1.out.size))
  clear ho hb2 hu0 HB1 HCE
  obtain ⟨i0, hi0, hz0, hz1, hz2⟩ := info_parts intInfo
  go_wp2_with (at_make; go_must (refine wpList_make_full w2 rfl (.tmp 41) (.tmp 41) 22 rfl w2.heap.size 3 i0 (.int .i64 0) 1 Tryd.underlying22 hi0 hz0 hz1 .i64 .i64 (n + 1) (n + 1) (n + 1) rfl rfl rfl rfl (by rw [hz2]; omega) (by unfold maxLen; omega) (Nat.le_refl _) ?_); intro w3 hown hg3)
  have hb3 : Below w2.heap.size w2 w3 := (Below.refl _ _).grown hg3 (Nat.le_refl _) (by simp)
  have hP0 : OwnI w3 w2.heap.size 3 (some ⟨w2.heap.size, 0, none⟩) (n + 1) (n + 1) (partsSeen n 0) := by
    refine ⟨⟨?_, by omega⟩, fun v hv => ?_⟩
    · rw [show (madeCells (Value.int .i64 0).cells ((n + 1) * 1)).toList = ints (partsSeen n 0) from by rw [Nat.mul_one]; show (madeCells #[Value.int .i64 0] (n + 1)).toList = _; rw [toList_madeCells_one]; simp [ints, partsSeen]] at hown
      exact hown
    · have := (partsSeen_ok n 0).2 v hv
      exact I64.small (by omega)
  have HPA : Hid (∀ b, A.map (·.block) = some b → b ≠ w2.heap.size) := Lib.hid fun b hb => by have := HO2.out.block (by omega) hb; omega
  have HP3 := Lib.hid (HO2.out.below hb3)
  have HQ3 := Lib.hid hP0
  have HB3 := Lib.hid (HB2.out.trans (hb3.mono HB2.out.size))
  have HGW : Hid (w.heap.size ≤ w2.heap.size) := HB2.out.size
  clear hown hg3 hb3 hP0 HO2 HB2 hi0 hz0 hz1 hz2 i0
  generalize w2.heap.size = gp at HPA HQ3 HGW ⊢
  go_loopw [6, 9] (fun p r wr => ∃ (k : Nat) (A : Option Addr) (c : Nat), k < m ∧ p = .slice A n c ∧ r = .int .i64 k ∧ RdI wr A n (pr n k) ∧ (∀ b, A.map (·.block) = some b → b ≠ gp) ∧ OwnI wr gp 3 (some ⟨gp, 0, none⟩) (n + 1) (n + 1) (partsSeen n k) ∧ Below w.heap.size w wr) (fun _ r _ => m - (intOf r).toNat)
  case atStart => exact ⟨0, A, c, by omega, rfl, rfl, HP3.out, HPA.out, HQ3.out, HB3.out⟩
  case round =>
    obtain ⟨k, A, c, hkm, rfl, rfl, hrd, hne, hown, hbel⟩ := hrel
    have HR := Lib.hid hrd
    have HNE := Lib.hid hne
    have HO := Lib.hid hown
    have HB := Lib.hid hbel
    clear hrd hne hown hbel HP3 HPA HQ3 HB3
    have hpb := HPB.out k
    have HSM := Lib.hid (chk_small (HCK.out k))
    obtain ⟨b, hb⟩ : ∃ b : Nat, blk (pr n k) = b := ⟨(blk (pr n k)).toNat, by omega⟩
    have hbn : b < n + 1 := by omega
    have HBB := Lib.hid hb
    have hso := partsSeen_ok n k
    obtain ⟨v, hv⟩ : ∃ v, (partsSeen n k)[b]? = some v := ⟨_, get_getD (by rw [hso.1]; omega)⟩
    have hvb := hso.2 v (List.mem_of_getElem? hv)
    have HSS : Hid (partsSeen n (k + 1) = (partsSeen n k).set b (v + 1)) := Lib.hid (by
      rw [partsSeen_succ]; unfold seenStepP
      rw [hb, Int.toNat_natCast, getD_of_get hv])
    have hcell := HO.out.cellAt hv
    have hfz := HO.out.frozenAt b
    have hkm' : (k : Int) < m := by omega
    have HCKK := Lib.hid (HCK.out k)
    have HRKK := Lib.hid (HRK.out k hkm')
    have HUEE := Lib.hid (HUE.out k hkm')
    have HLL := Lib.hid (HPL.out k)
    clear hv hso hb hpb
    go_wp2_with fail
    refine (check_any A n c (pr n k) wr HR.out).mono ?_; rintro e w' ⟨rfl, rfl⟩
    rw [HCKK.out]
    go_wp2_with fail
    refine (lawBlocks_any A n c (pr n k) wr HR.out HSM.out).mono ?_; rintro e w' ⟨rfl, rfl⟩
    rw [HBB.out]
    have HO1 : Hid (OwnI (wr.setCell ⟨gp, b, none⟩ (.int .i64 (v + 1))) gp 3 (some ⟨gp, 0, none⟩) (n + 1) (n + 1) (partsSeen n (k + 1))) := Lib.hid (by rw [HSS.out]; exact HO.out.stored b (I64.small (by omega)))
    have HR1 := Lib.hid (HR.out.setCell (p := ⟨gp, b, none⟩) (fun e => HNE.out gp e rfl) (.int .i64 (v + 1)))
    have HB1 := Lib.hid (HB.out.setCell (p := ⟨gp, b, none⟩) HGW.out (.int .i64 (v + 1)))
    clear HO HR HB
    go_wp2_with fail
    generalize wr.setCell ⟨gp, b, none⟩ (.int .i64 (v + 1)) = w4 at HO1 HR1 HB1 ⊢
    clear hcell hfz
    refine (Rank_any A n c (pr n k) w4 HR1.out).mono ?_; rintro e w5 ⟨rfl, hb5⟩
    rw [HRKK.out]
    simp only
    have HO2 := Lib.hid (HO1.out.below hb5)
    have HR2 := Lib.hid (HR1.out.below hb5)
    have HB2 := Lib.hid (HB1.out.trans (hb5.mono HB1.out.size))
    clear hb5 HO1 HR1 HB1
    go_wp2_with fail
    refine (unrank_any n k w5).mono ?_; rintro e w6 ⟨U, cu, rfl, ho, hb6⟩
    rw [HUEE.out] at ho
    rw [HUEE.out]
    simp only at ho ⊢
    rw [HLL.out] at ho
    rw [HLL.out]
    have HU3 := Lib.hid ho.rd
    have HO3 := Lib.hid (HO2.out.below hb6)
    have HR3 := Lib.hid (HR2.out.below hb6)
    have HB3 := Lib.hid (HB2.out.trans (hb6.mono HB2.out.size))
    clear ho hb6 HO2 HR2 HB2
    go_wp2_with fail
    refine (eq_any A U n n c cu (pr n k) (pr n k) w6 HR3.out HU3.out).mono ?_; rintro e w' ⟨rfl, d1, rfl⟩
    rw [beq_self_eq_true]
    go_wp2_with fail
    refine (next_any A n c (pr n k) (w6.drewN d1) (HR3.out.drewN d1)).mono ?_; rintro e w7 ⟨M, cm, rfl, ho, hb7⟩
    have HO4 := Lib.hid ((HO3.out.drewN d1).below hb7)
    have HR4 := Lib.hid ((HR3.out.drewN d1).below hb7)
    have HB4 := Lib.hid ((below_drewN HB3.out d1).trans (hb7.mono (below_drewN HB3.out d1).size))
    have hgl : gp < w6.heap.size := by obtain ⟨g', e, _, hlt⟩ := HO3.out.form (by omega); injection e with e; injection e with e; omega
    have HGL : Hid (gp < (w6.drewN d1).heap.size) := Lib.hid hgl
    have HOM := Lib.hid ho
    clear ho hb7 HO3 HR3 HU3 HB3 hgl
    by_cases hlast : (k : Int) + 1 = m
    · have g1 : ((k : Int) == (m : Int) - 1) = true := by simp; omega
      have hkk : k + 1 = m := by omega
      rw [HLX.out k hlast]
      rw [hkk] at HO4
      clear HOM
      go_wp2_with fail
      refine (unrank_any n m w7).mono ?_; rintro e w8 ⟨V, cv, rfl, ho, hb8⟩
      rw [HUM.out]
      simp only
      have HO5 := Lib.hid (HO4.out.below hb8)
      have HB5 := Lib.hid (HB4.out.trans (hb8.mono HB4.out.size))
      clear ho hb8 HO4 HB4 HR4
      go_wp2_with fail
      go_loopw [18] (fun i wr => ∃ j : Nat, 1 ≤ j ∧ j ≤ n + 1 ∧ i = .int .i64 j ∧ Below w8.heap.size w8 wr) (fun i _ => n + 1 - (intOf i).toNat)
      case atStart => exact ⟨1, by omega, by omega, rfl, Below.refl _ _⟩
      case round =>
        obtain ⟨j, hj1, hj, rfl, hbel⟩ := hrel
        have HBE := Lib.hid hbel
        clear hbel
        by_cases hjn : j ≤ n
        · obtain ⟨hp1, hp2⟩ := HPP.out j hj1 hjn
          have HPE := Lib.hid hp2
          have hjl : j < (partsSeen n m).length := by rw [(partsSeen_ok n m).1]; omega
          have hget := get_getD hjl
          rw [hp1] at hget
          have hjI : (j : Int) ≤ n := by omega
          generalize partedR n j = pv at HPE hget
          have HGET := Lib.hid hget
          clear hp1 hp2 hjl hget
          go_wp2_with fail
          refine (partedP_any n j wr).mono ?_; rintro e w9 ⟨rfl, hb9⟩
          rw [HPE.out]
          simp only
          have HBE9 := Lib.hid (HBE.out.trans (hb9.mono HBE.out.size))
          clear hb9
          have hc := (HO5.out.below HBE9.out).cellAt HGET.out
          go_wp2
          go_roundw
          case rel => exact ⟨j + 1, by omega, by omega, by go_num, HBE9.out⟩
          case measure => simp [intOf]; omega
        · obtain rfl : j = n + 1 := by omega
          have HBF := Lib.hid (HB5.out.trans (HBE.out.mono HB5.out.size))
          have hnn : ¬ ((n + 1 : Nat) : Int) ≤ n := by omega
          go_wp2_with fail
          refine (awake_any wr (HSG.out.below HBF.out)).mono ?_; rintro e w' ⟨rfl, hb⟩
          have HBZ := Lib.hid (HBF.out.trans (hb.mono HBF.out.size))
          clear hb
          go_wp2
          go_ret
          exact ⟨rfl, HBZ.out⟩
    · have g1 : ((k : Int) == (m : Int) - 1) = false := by simp; omega
      have hk1 : (k : Int) + 1 < m := by omega
      obtain ⟨hx1, hx2⟩ := HNX.out k hk1
      rw [hx1] at HOM
      rw [hx1]
      simp only at HOM ⊢
      have HLL1 := Lib.hid (HPL.out (k + 1))
      rw [HLL1.out] at HOM
      rw [HLL1.out]
      have HLS := Lib.hid hx2
      clear hx1 hx2
      go_wp2_with fail
      refine (less_any A M n n c cm (pr n k) (pr n (k + 1)) w7 HR4.out HOM.out.rd HLS.out).mono ?_; rintro e w' ⟨rfl, d2, rfl⟩
      go_wp2
      go_roundw
      case rel => exact ⟨k + 1, M, cm, by omega, rfl, by go_num, HOM.out.rd.drewN _, (fun b hb => by have := (HOM.out.1.block hb).1; have := HGL.out; omega), HO4.out.drewN _, below_drewN HB4.out _⟩
      case measure => simp [intOf]; omega
end Go.Proofs.YtooepkpgffpcjaaDoor
