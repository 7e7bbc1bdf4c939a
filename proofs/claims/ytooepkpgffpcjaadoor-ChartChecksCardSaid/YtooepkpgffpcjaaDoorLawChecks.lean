/- Walk: the statement ChartChecks. -/
import Derived.Test.YtooepkpgffpcjaaDoorLawMoves
import Derived.Test.YtooepkpgffpcjaaDoorHeld
import Derived.Test.YtooepkpgffpcjaaDoorNum
import Derived.Test.YtooepkpgffpcjaaDoorParted
namespace Go.Proofs.YtooepkpgffpcjaaDoor
open Go.RowKit

theorem three_I64 {x y z : Int} (hx : I64 x) (hy : I64 y) (hz : I64 z) : ∀ v ∈ [x, y, z], I64 v := by
  intro v hv; simp at hv; rcases hv with rfl | rfl | rfl <;> assumption
theorem three_at {x y z : Int} {t : Nat} (ht : t < 3) (hx : I64 x) (hy : I64 y) (hz : I64 z) : ∃ v, [x, y, z][t]? = some v ∧ I64 v := by
  match t, ht with
  | 0, _ => exact ⟨x, rfl, hx⟩
  | 1, _ => exact ⟨y, rfl, hy⟩
  | 2, _ => exact ⟨z, rfl, hz⟩

theorem cell_add0 (w : World) (g t : Nat) : w.cell? ((⟨g, 0, none⟩ : Addr).add t) = w.cell? ⟨g, t, none⟩ := by cases t <;> simp [Addr.add]

set_option maxHeartbeats 2000000 in
set_option maxRecDepth 100000 in
theorem chartChecks_any (A : Option Addr) (n c : Nat) (B : Option Addr) (m d : Nat) (x y : Int) (C : Option Addr) (q f : Nat) (l r nums : List Int) (w : World) (h1 : RdI w A n l) (h2 : RdI w B m r) (h3 : RdI w C q nums)
    (hx : I64 x) (hy : I64 y) (hs : Signs w) :
    Calls Tryd.prog 7 #[.slice A n c, .slice B m d, .int .i64 x, .int .i64 y, .slice C q f] w (Held w) := by
  have hbd1 := h1.bd
  have hbd2 := h2.bd
  by_cases hl1 : 40 < n
  · go_enter Tryd.func7, Tryd.ntmps7
    go_wp2_with fail
    refine (long_yes A n c w hl1 hbd1).mono ?_; rintro e w' ⟨rfl, rfl⟩
    go_wp2_with fail
    refine (awake_any w hs).mono ?_; rintro e w' ⟨rfl, hb⟩
    have HB := Lib.hid hb
    clear hb
    go_wp2
    go_ret
    exact ⟨rfl, HB.out⟩
  by_cases hl2 : 40 < m
  · go_enter Tryd.func7, Tryd.ntmps7
    go_wp2_with fail
    refine (long_no A n c w (by omega)).mono ?_; rintro e w' ⟨rfl, rfl⟩
    go_wp2_with fail
    refine (long_yes B m d w hl2 hbd2).mono ?_; rintro e w' ⟨rfl, rfl⟩
    go_wp2_with fail
    refine (awake_any w hs).mono ?_; rintro e w' ⟨rfl, hb⟩
    have HB := Lib.hid hb
    clear hb
    go_wp2
    go_ret
    exact ⟨rfl, HB.out⟩
  have HSG := Lib.hid hs
  have HX := Lib.hid hx
  have HY := Lib.hid hy
  clear hs hx hy
  go_enter Tryd.func7, Tryd.ntmps7
  go_wp2_with fail
  refine (long_no A n c w (by omega)).mono ?_; rintro e w' ⟨rfl, rfl⟩
  go_wp2_with fail
  refine (long_no B m d w (by omega)).mono ?_; rintro e w' ⟨rfl, rfl⟩
  go_wp2_with fail
  refine (boxOf_any C q f nums w h3).mono ?_; rintro e w1 ⟨g, rfl, hg, hbox, hb1⟩
  have HB1 := Lib.hid hb1
  have HBX := Lib.hid hbox
  clear hb1 hbox h3
  go_wp2_with fail
  refine (any_any g 1 9 w1 HBX.out (by omega) (by omega) (by omega) (by omega)).mono ?_; rintro e w2 ⟨k, rfl, hk0, hk1, hst⟩
  have hk9 : k ≤ 9 := by omega
  obtain ⟨k, rfl⟩ : ∃ k' : Nat, k = k' := ⟨k.toNat, by omega⟩
  have HB2 := Lib.hid (HB1.out.trans (hst.below hg))
  have HBXL := Lib.hid hst.box.lt
  have HBX2 := Lib.hid hst.box
  clear hk1 hst HB1 HBX
  go_wp2_with fail
  refine (partitionOf_any g k w2 HBX2.out (by omega) (by omega)).mono ?_; rintro e w3 ⟨A3, c3, p3, rfl, hck3, ho3, hsp3⟩
  have HB3 := Lib.hid (HB2.out.trans (hsp3.below hg HB2.out.size))
  have HBX3 := Lib.hid hsp3.box
  have HO3 := Lib.hid ho3
  clear ho3 hsp3 hck3 HBX2
  go_wp2_with fail
  refine (one_any g 2 w3 HBX3.out (by omega) (by omega)).mono ?_; rintro e w4 ⟨yes, rfl, hst⟩
  obtain ⟨g3, rfl, hg3, hg3l⟩ := HO3.out.form (by omega)
  have hgg : g ≠ g3 := fun e => by have := HBXL.out; omega
  have HO4 : Hid (OwnI w4 w2.heap.size 3 (some ⟨g3, 0, none⟩) k c3 p3) := HO3.out.grown hst.grown (.inr (fun e => by injection e with e; exact hgg e.symm))
  have HB4 := Lib.hid (HB3.out.trans (hst.below hg))
  have HBX4 := Lib.hid hst.box
  have HWL : Hid (w.heap.size ≤ g3) := Lib.hid (by have := HB2.out.size; omega)
  have HG := Lib.hid hgg
  have HGL := Lib.hid hg
  clear hst HBX3 HB3 HO3 HBXL HB2 hg3 hg3l hgg hg
  go_upto_if 43 with fail
  go_cut [] (fun W => ∃ p', RdI W (some ⟨g3, 0, none⟩) k p' ∧ IsBox W g ∧ Below w.heap.size w W)
  case first =>
    cases yes
    · go_wp2
      go_meet
      exact ⟨p3, HO4.out.rd, HBX4.out, HB4.out⟩
    · go_wp2_with fail
      refine (up_any g k w4 HBX4.out (by omega) (by omega)).mono ?_; rintro e w5 ⟨j, rfl, hj0, hj1, hst⟩
      obtain ⟨j, rfl⟩ : ∃ j' : Nat, j = j' := ⟨j.toNat, by omega⟩
      have hjk : j < k := by omega
      have HO5 : Hid (OwnI w5 w2.heap.size 3 (some ⟨g3, 0, none⟩) k c3 p3) := HO4.out.grown hst.grown (.inr (fun e => by injection e with e; exact HG.out e.symm))
      have HB5 := Lib.hid (HB4.out.trans (hst.below HGL.out))
      have HBX5 := Lib.hid hst.box
      clear hst hj1 hj0
      go_wp2_with fail
      refine (any_any g (-1) 9 w5 HBX5.out (by omega) (by omega) (by omega) (by omega)).mono ?_; rintro e w6 ⟨u, rfl, hu0, hu1, hst⟩
      have HO6 : Hid (OwnI w6 w2.heap.size 3 (some ⟨g3, 0, none⟩) k c3 p3) := HO5.out.grown hst.grown (.inr (fun e => by injection e with e; exact HG.out e.symm))
      have HB6 := Lib.hid (HB5.out.trans (hst.below HGL.out))
      have HBX6 := Lib.hid hst.box
      have hu9 : u ≤ 9 := by omega
      clear hst hu1
      obtain ⟨pv, hpv⟩ : ∃ pv, p3[j]? = some pv := ⟨p3[j]'(by rw [HO6.out.len]; exact hjk), List.getElem?_eq_getElem _⟩
      have hcell := HO6.out.cellAt hpv
      have hfz := HO6.out.frozenAt j
      have HU := Lib.hid (I64.small (v := u) (by omega))
      clear hpv
      go_wp2
      go_meet
      exact ⟨p3.set j u, (HO6.out.stored j HU.out).rd, HBX6.out.grown (grown_set w6 g3 j _) (fun e => by injection e with e; exact HG.out e), HB6.out.setCell (p := ⟨g3, j, none⟩) HWL.out _⟩
  case rest =>
    obtain ⟨p', hrd, hbox, hbel⟩ := hcut
    have HP := Lib.hid hrd
    have HBX5 := Lib.hid hbox
    have HB5 := Lib.hid hbel
    have HA5 := Lib.hid (h1.below hbel)
    have HR5 := Lib.hid (h2.below hbel)
    clear hrd hbox hbel HO4 HB4 HBX4 h1 h2
    obtain ⟨w5, rfl⟩ : ∃ w5 : World, w5 = wc := ⟨_, rfl⟩
    go_wp2_with fail
    refine (ints_any B m d r w5 HR5.out (by omega)).mono ?_; rintro e w6 ⟨A6, c6, rfl, ho6, hb6⟩
    have hrl : r.length = m := HR5.out.len
    rw [hrl] at ho6
    rw [hrl]
    have HM6 := Lib.hid ho6.rd
    have HB6 := Lib.hid (HB5.out.trans (hb6.mono HB5.out.size))
    have HBX6 := Lib.hid (HBX5.out.below hb6)
    have HA6 := Lib.hid (HA5.out.below hb6)
    have HP6 := Lib.hid (HP.out.below hb6)
    have HR6 := Lib.hid (HR5.out.below hb6)
    clear ho6 hb6 HB5 HBX5 HA5 HP HR5 hrl
    go_wp2_with fail
    refine (progOf_any A6 m c6 r w6 HM6.out).mono ?_; rintro e w7 ⟨A7, c7, rfl, ho7, hb7⟩
    have HE7 := Lib.hid ho7.rd
    have HB7 := Lib.hid (HB6.out.trans (hb7.mono HB6.out.size))
    have HBX7 := Lib.hid (HBX6.out.below hb7)
    have HA7 := Lib.hid (HA6.out.below hb7)
    have HP7 := Lib.hid (HP6.out.below hb7)
    have HR7 := Lib.hid (HR6.out.below hb7)
    have HM7 := Lib.hid (HM6.out.below hb7)
    clear ho7 hb7 HB6 HBX6 HA6 HP6 HR6 HM6
    go_wp2_with fail
    refine (refOf_any B m d r w7 HR7.out).mono ?_; rintro e w8 ⟨A8, c8, rfl, ho8, hb8⟩
    have HE8 := Lib.hid ho8.rd
    have HB8 := Lib.hid (HB7.out.trans (hb8.mono HB7.out.size))
    have HBX8 := Lib.hid (HBX7.out.below hb8)
    have HA8 := Lib.hid (HA7.out.below hb8)
    have HP8 := Lib.hid (HP7.out.below hb8)
    have HR8 := Lib.hid (HR7.out.below hb8)
    have HM8 := Lib.hid (HM7.out.below hb8)
    have HE8' := Lib.hid (HE7.out.below hb8)
    clear ho8 hb8 HB7 HBX7 HA7 HP7 HR7 HM7 HE7
    generalize ofE r = E at HE8 HE8' ⊢
    obtain ⟨E, eE⟩ := E
    simp only at HE8 HE8' ⊢
    go_wp2_with fail
    refine (check_any A n c l w8 HA8.out).mono ?_; rintro e w' ⟨rfl, rfl⟩
    go_wp2_with fail
    refine (refCheck_any A n c l w8 HA8.out).mono ?_; rintro e w' ⟨rfl, rfl⟩
    have hne1 : (chk l != chk l) = false := by simp
    have hne2 : (chk p' != chk p') = false := by simp
    have hne3 : (eE != eE) = false := by simp
    go_wp2_with fail
    refine (check_any _ k c3 p' w8 HP8.out).mono ?_; rintro e w' ⟨rfl, rfl⟩
    go_wp2_with fail
    refine (refCheck_any _ k c3 p' w8 HP8.out).mono ?_; rintro e w' ⟨rfl, rfl⟩
    go_wp2_with fail
    refine (eq_any A7 A8 _ _ c7 c8 E E w8 HE8'.out HE8.out).mono ?_; rintro e w' ⟨rfl, d1, rfl⟩
    rw [beq_self_eq_true]
    go_wp2_with fail
    refine (eq_any A6 B m m c6 d r r _ (HM8.out.drewN d1) (HR8.out.drewN d1)).mono ?_; rintro e w' ⟨rfl, d2, rfl⟩
    rw [beq_self_eq_true]
    have HB9 := Lib.hid (below_drewN HB8.out (d1 + d2))
    have HBX9 : Hid (IsBox (w8.drewN (d1 + d2)) g) := Lib.hid (HBX8.out.below (below_drewN (Below.refl _ _) (d1 + d2)))
    clear HB8 HBX8 HA8 HP8 HR8 HM8 HE8 HE8'
    go_wp2_with fail
    generalize w8.drewN (d1 + d2) = w9 at HB9 HBX9 ⊢
    refine (any_any g 1 9 w9 HBX9.out (by omega) (by omega) (by omega) (by omega)).mono ?_; rintro e w10 ⟨v1, rfl, hv0, hv1, hst⟩
    have HV1 := Lib.hid (I64.small (v := v1) (by omega))
    have HB10 := Lib.hid (HB9.out.trans (hst.below HGL.out))
    have HBX10 := Lib.hid hst.box
    clear hst hv0 hv1 HB9 HBX9
    go_wp2_with fail
    have HN := Lib.hid (OwnI.lit w10 3 [x, v1, x] 3 (by omega) rfl w10.heap.size (Nat.le_refl _) (three_I64 HX.out HV1.out HX.out)).rd
    have HB11 := Lib.hid (HB10.out.trans ((Below.refl _ _).alloc HB10.out.size (.cells #[.int .i64 x, .int .i64 v1, .int .i64 x] 3)))
    have HBX11 := Lib.hid (HBX10.out.alloc (.cells #[.int .i64 x, .int .i64 v1, .int .i64 x] 3))
    have HN' : Hid (RdI (w10.alloc (.cells #[.int .i64 x, .int .i64 v1, .int .i64 x] 3)) (some ⟨w10.heap.size, 0, none⟩) 3 [x, v1, x]) := HN
    have HGN : Hid (g ≠ w10.heap.size) := Lib.hid (by have := HBX10.out.lt; omega)
    clear HN HB10 HBX10
    generalize w10.heap.size = gn at HN' HGN ⊢
    generalize w10.alloc (.cells #[.int .i64 x, .int .i64 v1, .int .i64 x] 3) = w11 at HN' HB11 HBX11 ⊢
    refine (any_any g 0 10 w11 HBX11.out (by omega) (by omega) (by omega) (by omega)).mono ?_; rintro e w12 ⟨v2, rfl, hv0, hv1, hst⟩
    have HV2 := Lib.hid (I64.small (v := v2) (by omega))
    have HB12 := Lib.hid (HB11.out.trans (hst.below HGL.out))
    have HBX12 := Lib.hid hst.box
    have HN12 : Hid (RdI w12 (some ⟨gn, 0, none⟩) 3 [x, v1, x]) := HN'.out.grown hst.grown (fun j hj e => by injection hj with hj; injection e with e; exact HGN.out (hj.trans e.symm))
    clear hst hv0 hv1 HB11 HBX11 HN'
    go_wp2_with fail
    refine (any_any g 1 9 w12 HBX12.out (by omega) (by omega) (by omega) (by omega)).mono ?_; rintro e w13 ⟨v3, rfl, hv0, hv1, hst⟩
    have HV3 := Lib.hid (I64.small (v := v3) (by omega))
    have HB13 := Lib.hid (HB12.out.trans (hst.below HGL.out))
    have HN13 : Hid (RdI w13 (some ⟨gn, 0, none⟩) 3 [x, v1, x]) := HN12.out.grown hst.grown (fun j hj e => by injection hj with hj; injection e with e; exact HGN.out (hj.trans e.symm))
    clear hst hv0 hv1 HB12 HBX12 HN12
    go_wp2_with fail
    have HK := Lib.hid (OwnI.lit w13 3 [y, v2, v3] 3 (by omega) rfl w13.heap.size (Nat.le_refl _) (three_I64 HY.out HV2.out HV3.out)).rd
    have HK' : Hid (RdI (w13.alloc (.cells #[.int .i64 y, .int .i64 v2, .int .i64 v3] 3)) (some ⟨w13.heap.size, 0, none⟩) 3 [y, v2, v3]) := HK
    have HN14 := Lib.hid (HN13.out.alloc (.cells #[.int .i64 y, .int .i64 v2, .int .i64 v3] 3))
    have HB14 := Lib.hid (HB13.out.trans ((Below.refl _ _).alloc HB13.out.size (.cells #[.int .i64 y, .int .i64 v2, .int .i64 v3] 3)))
    clear HK HB13 HN13
    generalize w13.heap.size = gk at HK' ⊢
    generalize w13.alloc (.cells #[.int .i64 y, .int .i64 v2, .int .i64 v3] 3) = w14 at HK' HN14 HB14 ⊢
    go_loopw [20] (fun i wr => ∃ t : Nat, t ≤ 3 ∧ i = .int .i64 t ∧ Below w14.heap.size w14 wr) (fun i _ => 3 - (intOf i).toNat)
    case atStart => exact ⟨0, by omega, rfl, Below.refl _ _⟩
    case round =>
      obtain ⟨t, ht, rfl, hbel⟩ := hrel
      have HBE := Lib.hid hbel
      clear hbel
      by_cases hlt : t < 3
      · obtain ⟨ad, nv, e1, had, _, _, hc0⟩ := (HN14.out.below HBE.out).at_ hlt
        injection e1 with e1; subst e1
        obtain ⟨bd, kv, e2, hbd', _, _, hk0⟩ := (HK'.out.below HBE.out).at_ hlt
        injection e2 with e2; subst e2
        rw [cell_add0] at hc0 hk0
        have hlc := World.block_lt_of_cell? _ _ hc0
        have hlk := World.block_lt_of_cell? _ _ hk0
        have HLC := Lib.hid (And.intro hlc hlk)
        have HK0 := Lib.hid hk0
        clear hk0 had hbd' hlc hlk
        generalize hcv : countE nv = cv
        have HCV := Lib.hid hcv
        clear hcv
        go_wp2_with fail
        refine (count_any nv wr).mono ?_; rintro e wA ⟨rfl, hbA⟩
        have hcA := (hbA.cell HLC.out.1).trans hc0
        have HKA := Lib.hid ((hbA.cell HLC.out.2).trans HK0.out)
        have HLA := Lib.hid (And.intro (Nat.lt_of_lt_of_le HLC.out.1 hbA.size) (Nat.lt_of_lt_of_le HLC.out.2 hbA.size))
        have HBA := Lib.hid (HBE.out.trans (hbA.mono HBE.out.size))
        rw [HCV.out]
        clear hc0 hbA HK0 HLC HBE
        go_wp2_with fail
        refine (refCount_any nv wA).mono ?_; rintro e wB ⟨rfl, hbB⟩
        have hcB := (hbB.cell HLA.out.1).trans hcA
        have hkB := (hbB.cell HLA.out.2).trans HKA.out
        have HLB := Lib.hid (And.intro (Nat.lt_of_lt_of_le HLA.out.1 hbB.size) (Nat.lt_of_lt_of_le HLA.out.2 hbB.size))
        have HBB := Lib.hid (HBA.out.trans (hbB.mono HBA.out.size))
        rw [HCV.out]
        clear hcA hbB HKA HLA HBA HCV
        obtain ⟨v0, rfl⟩ : ∃ v0 : World, v0 = wB := ⟨_, rfl⟩
        go_upto_region 18 with fail
        go_cut [25, 26] (fun x' y' W => x' = .int .i64 (partedE nv kv).1 ∧ y' = .int .i64 (partedE nv kv).2 ∧ Below v0.heap.size v0 W)
        case first =>
          go_region_with (go_at_call 41; refine (partedP_any nv kv _).mono ?_; rintro e w6 ⟨rfl, hb6⟩)
          all_goals
            go_wp2
            go_meet
            exact ⟨rfl, rfl, (Below.refl _ _).drew.trans hb6⟩
        case rest =>
          obtain ⟨rfl, rfl, hb6⟩ := hcut
          have hcC := (hb6.cell HLB.out.1).trans hcB
          have hkC := (hb6.cell HLB.out.2).trans hkB
          have HBC := Lib.hid (HBB.out.trans (hb6.mono HBB.out.size))
          clear hb6 hcB hkB HLB HBB
          obtain ⟨v6, rfl⟩ : ∃ v6 : World, v6 = wc := ⟨_, rfl⟩
          go_upto_region 19 with fail
          go_cut [27, 28] (fun x' y' W => x' = .int .i64 (partedE nv kv).1 ∧ y' = .int .i64 (partedE nv kv).2 ∧ Below v6.heap.size v6 W)
          case first =>
            go_region_with (go_at_call 42; refine (refParted_any nv kv _).mono ?_; rintro e w6 ⟨rfl, hb6⟩)
            all_goals
              go_wp2
              go_meet
              exact ⟨rfl, rfl, (Below.refl _ _).drew.trans hb6⟩
          case rest =>
            obtain ⟨rfl, rfl, hb7⟩ := hcut
            have HBD := Lib.hid (HBC.out.trans (hb7.mono HBC.out.size))
            clear hb7 hcC hkC
            go_wp2
            go_roundw
            case rel => exact ⟨t + 1, by omega, by go_num, HBD.out⟩
            case measure => simp [intOf]; omega
      · have htt : t = 3 := by omega
        subst htt
        have HBF := Lib.hid (HB14.out.trans (HBE.out.mono HB14.out.size))
        go_wp2_with fail
        refine (awake_any wr (HSG.out.below HBF.out)).mono ?_; rintro e w' ⟨rfl, hb⟩
        have HB := Lib.hid (HBF.out.trans (hb.mono HBF.out.size))
        clear hb
        go_wp2
        go_ret
        exact ⟨rfl, HB.out⟩
end Go.Proofs.YtooepkpgffpcjaaDoor
