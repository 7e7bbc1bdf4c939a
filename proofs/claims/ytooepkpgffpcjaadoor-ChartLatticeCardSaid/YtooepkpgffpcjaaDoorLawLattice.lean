/- Walk: the statement ChartLattice. -/
import Derived.Test.YtooepkpgffpcjaaDoorLawMoves
import Derived.Test.YtooepkpgffpcjaaDoorHeld
import Derived.Test.YtooepkpgffpcjaaDoorJoinR
namespace Go.Proofs.YtooepkpgffpcjaaDoor
open Go.RowKit

theorem cellAt0 (w : World) (g t : Nat) : w.cell? ((⟨g, 0, none⟩ : Addr).add t) = w.cell? ⟨g, t, none⟩ := by cases t <;> simp [Addr.add]

/-- what a round of the statement reads -/
structure Six (W : World) (ga gb t : Nat) (A' B' X Y : Option Addr) (n' m' c' d' : Nat) (l' r' : List Int) : Prop where
  ca : W.cell? ⟨ga, t, none⟩ = some (.slice A' n' c')
  cb : W.cell? ⟨gb, t, none⟩ = some (.slice B' m' d')
  ra : RdI W A' n' l'
  rb : RdI W B' m' r'
  rx : RdI W X n' l'
  ry : RdI W Y m' r'
theorem Six.below {W W' : World} {ga gb t : Nat} {A' B' X Y : Option Addr} {n' m' c' d' : Nat} {l' r' : List Int} (h : Six W ga gb t A' B' X Y n' m' c' d' l' r') (hb : Below W.heap.size W W') : Six W' ga gb t A' B' X Y n' m' c' d' l' r' :=
  ⟨(hb.cell (World.block_lt_of_cell? _ _ h.ca)).trans h.ca, (hb.cell (World.block_lt_of_cell? _ _ h.cb)).trans h.cb, h.ra.below hb, h.rb.below hb, h.rx.below hb, h.ry.below hb⟩

set_option maxHeartbeats 4000000 in
set_option maxRecDepth 100000 in
theorem chartLattice_any (A : Option Addr) (n c : Nat) (B : Option Addr) (m d : Nat) (C : Option Addr) (q f : Nat) (l r nums : List Int) (w : World) (h1 : RdI w A n l) (h2 : RdI w B m r) (h3 : RdI w C q nums) (hs : Signs w) :
    Calls Tryd.prog 9 #[.slice A n c, .slice B m d, .slice C q f] w (Held w) := by
  have hbd1 := h1.bd
  have hbd2 := h2.bd
  by_cases hl1 : 40 < n
  · go_enter Tryd.func9, Tryd.ntmps9
    go_wp2_with fail
    refine (long_yes A n c w hl1 hbd1).mono ?_; rintro e w' ⟨rfl, rfl⟩
    go_wp2_with fail
    refine (awake_any w hs).mono ?_; rintro e w' ⟨rfl, hb⟩
    have HB := Lib.hid hb
    clear hb
    go_wp2
    go_ret
    exact ⟨rfl, HB.out⟩
  by_cases hl2 : 40 < m
  · go_enter Tryd.func9, Tryd.ntmps9
    go_wp2_with fail
    refine (long_no A n c w (by omega)).mono ?_; rintro e w' ⟨rfl, rfl⟩
    go_wp2_with fail
    refine (long_yes B m d w hl2 hbd2).mono ?_; rintro e w' ⟨rfl, rfl⟩
    go_wp2_with fail
    refine (awake_any w hs).mono ?_; rintro e w' ⟨rfl, hb⟩
    have HB := Lib.hid hb
    clear hb
    go_wp2
    go_ret
    exact ⟨rfl, HB.out⟩
  have HSG := Lib.hid hs
  clear hs
  go_enter Tryd.func9, Tryd.ntmps9
  go_wp2_with fail
  refine (long_no A n c w (by omega)).mono ?_; rintro e w' ⟨rfl, rfl⟩
  go_wp2_with fail
  refine (long_no B m d w (by omega)).mono ?_; rintro e w' ⟨rfl, rfl⟩
  go_wp2_with fail
  refine (boxOf_any C q f nums w h3).mono ?_; rintro e w1 ⟨g, rfl, hg, hbox, hb1⟩
  have HB1 := Lib.hid hb1
  have HBX := Lib.hid hbox
  clear hb1 hbox h3
  go_wp2_with fail
  refine (any_any g 1 9 w1 HBX.out (by omega) (by omega) (by omega) (by omega)).mono ?_; rintro e w2 ⟨k, rfl, hk0, hk1, hst⟩
  have hk9 : k ≤ 9 := by omega
  obtain ⟨k, rfl⟩ : ∃ k' : Nat, k = k' := ⟨k.toNat, by omega⟩
  have HB2 := Lib.hid (HB1.out.trans (hst.below hg))
  have HBXL := Lib.hid hst.box.lt
  have HBX2 := Lib.hid hst.box
  clear hk1 hst HB1 HBX
  go_wp2_with fail
  refine (partitionOf_any g k w2 HBX2.out (by omega) (by omega)).mono ?_; rintro e w3 ⟨A3, c3, p3, rfl, hck3, ho3, hsp3⟩
  have HB3 := Lib.hid (HB2.out.trans (hsp3.below hg HB2.out.size))
  have HBX3 := Lib.hid hsp3.box
  have HO3 := Lib.hid ho3
  clear ho3 hsp3 hck3 HBX2
  go_wp2_with fail
  refine (partitionOf_any g k _ (HBX3.out.alloc _) (by omega) (by omega)).mono ?_; rintro e w4 ⟨A4, c4, p4, rfl, hck4, ho4, hsp4⟩
  have hgl : g < w3.heap.size := HBX3.out.lt
  have HGL := Lib.hid hgl
  have HB4 := Lib.hid ((HB3.out.trans ((Below.refl _ _).alloc HB3.out.size _)).trans (hsp4.below hg (by have := HB3.out.size; simp; omega)))
  have HBX4 := Lib.hid hsp4.box
  have HO4 := Lib.hid ho4
  have hA3 : ∀ j, A3.map (·.block) = some j → w2.heap.size ≤ j := fun j hj => (HO3.out.1.block hj).1
  have HP3 : Hid (RdI w4 A3 k p3) := ((HO3.out.rd.alloc _).grown hsp4.grown (fun j hj => by injection hj with hj; subst hj; intro e; have := hA3 _ e; have := HBXL.out; omega))
  have HAS : Hid (Blk w4 w3.heap.size 22 #[.slice A n c, .slice A3 k c3, .slice A n c]) := (Blk.new w3 _ _).grown hsp4.grown (fun e => by injection e with e; omega)
  have HA3 := Lib.hid hA3
  have hW3 : w3.heap.size ≤ w4.heap.size := by have := hsp4.grown.size; simp at this; omega
  clear hck4 ho4 hsp4 hgl hA3 HBX3
  go_wp2_with fail
  refine (partitionOf_any g k w4 HBX4.out (by omega) (by omega)).mono ?_; rintro e w5 ⟨A5, c5, p5, rfl, hck5, ho5, hsp5⟩
  have HB5 := Lib.hid (HB4.out.trans (hsp5.below hg HB4.out.size))
  have HO5 := Lib.hid ho5
  have hA4 : ∀ j, A4.map (·.block) = some j → w3.heap.size ≤ j := fun j hj => by have := (HO4.out.1.block hj).1; simp at this; omega
  have HP4 : Hid (RdI w5 A4 k p4) := HO4.out.rd.grown hsp5.grown (fun j hj => by injection hj with hj; subst hj; intro e; have := hA4 _ e; have := HGL.out; omega)
  have HP3' : Hid (RdI w5 A3 k p3) := HP3.out.grown hsp5.grown (fun j hj => by injection hj with hj; subst hj; intro e; have := HA3.out _ e; have := HBXL.out; omega)
  have HAS' : Hid (Blk w5 w3.heap.size 22 #[.slice A n c, .slice A3 k c3, .slice A n c]) := HAS.out.grown hsp5.grown (fun e => by injection e with e; have := HGL.out; omega)
  clear hck5 ho5 hsp5 hA4 HBX4 HP3 HAS HO4 HB4 HA3
  go_wp2_with fail
  have hH1 := h1.below HB5.out
  have hH2 := h2.below HB5.out
  have HAB : ∀ t : Nat, t < 3 → ∀ W, Below (w5.alloc (.cells #[.slice B m d, .slice A4 k c4, .slice A5 k c5] 22)).heap.size (w5.alloc (.cells #[.slice B m d, .slice A4 k c4, .slice A5 k c5] 22)) W →
      ∃ (A' B' : Option Addr) (n' m' c' d' : Nat) (l' r' : List Int), n' ≤ 40 ∧ m' ≤ 40 ∧ W.cell? ⟨w3.heap.size, t, none⟩ = some (.slice A' n' c') ∧ W.cell? ⟨w5.heap.size, t, none⟩ = some (.slice B' m' d') ∧ RdI W A' n' l' ∧ RdI W B' m' r' := by
    intro t ht W hW
    have e1 := (HAS'.out.alloc (.cells #[.slice B m d, .slice A4 k c4, .slice A5 k c5] 22)).below hW
    have e2 := (Blk.new w5 22 #[.slice B m d, .slice A4 k c4, .slice A5 k c5]).below hW
    match t, ht with
    | 0, _ => exact ⟨A, B, n, m, c, d, l, r, by omega, by omega, by rw [e1.cell]; rfl, by rw [e2.cell]; rfl, (hH1.alloc _).below hW, (hH2.alloc _).below hW⟩
    | 1, _ => exact ⟨A3, A4, k, k, c3, c4, p3, p4, by omega, by omega, by rw [e1.cell]; rfl, by rw [e2.cell]; rfl, (HP3'.out.alloc _).below hW, (HP4.out.alloc _).below hW⟩
    | 2, _ => exact ⟨A, A5, n, k, c, c5, l, p5, by omega, by omega, by rw [e1.cell]; rfl, by rw [e2.cell]; rfl, (hH1.alloc _).below hW, (HO5.out.rd.alloc _).below hW⟩
  have HABH := Lib.hid HAB
  have HBS := Lib.hid (HSG.out.below (HB5.out.trans ((Below.refl _ _).alloc HB5.out.size (.cells #[.slice B m d, .slice A4 k c4, .slice A5 k c5] 22))))
  have HBW := Lib.hid (HB5.out.trans ((Below.refl _ _).alloc HB5.out.size (.cells #[.slice B m d, .slice A4 k c4, .slice A5 k c5] 22)))
  clear HAB hH1 hH2 HP3' HP4 HAS' HO3 HO5 HB3 HB2 HB5 HSG h1 h2 HBXL HGL hW3 hl1 hl2 hbd1 hbd2
  generalize w5.alloc (.cells #[.slice B m d, .slice A4 k c4, .slice A5 k c5] 22) = W5 at HABH HBS HBW ⊢
  generalize w3.heap.size = ga at HABH ⊢
  generalize w5.heap.size = gb at HABH ⊢
  go_loopw [11] (fun i wr => ∃ t : Nat, t ≤ 3 ∧ i = .int .i64 t ∧ Below W5.heap.size W5 wr) (fun i _ => 3 - (intOf i).toNat)
  case atStart => exact ⟨0, by omega, rfl, Below.refl _ _⟩
  case round =>
    obtain ⟨t, ht, rfl, hbel⟩ := hrel
    have HBE := Lib.hid hbel
    clear hbel
    by_cases hlt : t < 3
    · obtain ⟨A', B', n', m', c', d', l', r', hn', hm', ca, cb, ra, rb⟩ := HABH.out t hlt wr HBE.out
      have HRA := Lib.hid ra
      have HRB := Lib.hid rb
      have HCA := Lib.hid ca
      have HCB := Lib.hid cb
      have HLT := Lib.hid (And.intro (World.block_lt_of_cell? _ _ ca) (World.block_lt_of_cell? _ _ cb))
      have HN1 := Lib.hid ra.len
      have HN2 := Lib.hid rb.len
      clear ra rb
      obtain ⟨v0, rfl⟩ : ∃ v0 : World, v0 = wr := ⟨_, rfl⟩
      go_upto_region 9 with fail
      go_cut [12, 13] (fun x y W => ∃ X cx Y cy, x = .slice X n' cx ∧ y = .slice Y m' cy ∧ RdI W X n' l' ∧ RdI W Y m' r' ∧ Below v0.heap.size v0 W)
      case first =>
        go_region_with (first
          | (go_at_call 34; refine (ints_any A' n' c' l' _ HRA.out.drew (by omega)).mono ?_; rintro e w6 ⟨X, cx, rfl, ho6, hb6⟩; rw [HN1.out] at ho6; rw [HN1.out]; have HO6 := Lib.hid ho6; have HB6 := Lib.hid ((Below.refl v0.heap.size v0).drew.trans hb6); have HRB6 := Lib.hid (HRB.out.below HB6.out); have cb6 := (HB6.out.cell HLT.out.2).trans HCB.out; clear ho6 hb6)
          | (go_at_call 34; refine (ints_any B' m' d' r' _ HRB6.out (by omega)).mono ?_; rintro e w7 ⟨Y, cy, rfl, ho7, hb7⟩; rw [HN2.out] at ho7; rw [HN2.out]; have HO7 := Lib.hid ho7; have HB7 := Lib.hid hb7; clear ho7 hb7))
        all_goals
          go_wp2
          go_meet
          exact ⟨X, cx, Y, cy, rfl, rfl, HO6.out.rd.below HB7.out, HO7.out.rd, HB6.out.trans (HB7.out.mono HB6.out.size)⟩
      case rest =>
        obtain ⟨X, cx, Y, cy, rfl, rfl, rx, ry, hb6⟩ := hcut
        have S0 := Lib.hid (Six.mk ((hb6.cell HLT.out.1).trans HCA.out) ((hb6.cell HLT.out.2).trans HCB.out) (HRA.out.below hb6) (HRB.out.below hb6) rx ry)
        have HB0 := Lib.hid (HBE.out.trans (hb6.mono HBE.out.size))
        clear rx ry hb6 ca cb HRA HRB HCA HCB HLT HBE
        go_wp2_with fail
        refine (finer_any X Y n' m' cx cy l' r' _ S0.out.rx S0.out.ry).mono ?_; rintro e w7 ⟨rfl, hb7⟩
        have S1 := Lib.hid (S0.out.below hb7)
        have HB1 := Lib.hid (HB0.out.trans (hb7.mono HB0.out.size))
        clear hb7 S0 HB0
        have ca := S1.out.ca
        have cb := S1.out.cb
        obtain ⟨v1, rfl⟩ : ∃ v1 : World, v1 = w7 := ⟨_, rfl⟩
        go_upto_region 11 with fail
        go_cut [16, 17] (fun x y W => x = .bool (finE l' r').1 ∧ y = .int .i64 (finE l' r').2 ∧ Below v1.heap.size v1 W)
        case first =>
          go_region_with (go_at_call 50; refine (refFiner_any A' B' n' m' c' d' l' r' _ S1.out.ra.drew S1.out.rb.drew).mono ?_; rintro e w6 ⟨rfl, hb6⟩)
          all_goals
            go_wp2
            go_meet
            exact ⟨rfl, rfl, (Below.refl _ _).drew.trans hb6⟩
        case rest =>
          obtain ⟨rfl, rfl, hb6⟩ := hcut
          have S2 := Lib.hid (S1.out.below hb6)
          have HB2 := Lib.hid (HB1.out.trans (hb6.mono HB1.out.size))
          clear hb6 S1 HB1 ca cb
          go_wp2_with fail
          refine (meetP_any X Y n' m' cx cy l' r' _ S2.out.rx S2.out.ry).mono ?_; rintro e w7 ⟨U, cu, rfl, ho7, hb7⟩
          have S3 := Lib.hid (S2.out.below hb7)
          have HB3 := Lib.hid (HB2.out.trans (hb7.mono HB2.out.size))
          have HU3 := Lib.hid ho7.rd
          clear hb7 ho7 S2 HB2
          have ca := S3.out.ca
          have cb := S3.out.cb
          obtain ⟨v3, rfl⟩ : ∃ v3 : World, v3 = w7 := ⟨_, rfl⟩
          go_upto_region 13 with fail
          go_cut [20, 21] (fun x y W => ∃ V cv, x = .slice V (meetE l' r').1.length cv ∧ y = .int .i64 (meetE l' r').2 ∧ RdI W V (meetE l' r').1.length (meetE l' r').1 ∧ Below v3.heap.size v3 W)
          case first =>
            go_region_with (go_at_call 52; refine (refMeet_any A' B' n' m' c' d' l' r' _ S3.out.ra.drew S3.out.rb.drew).mono ?_; rintro e w6 ⟨V, cv, rfl, ho6, hb6⟩; have HO6 := Lib.hid ho6; clear ho6)
            all_goals
              go_wp2
              go_meet
              exact ⟨V, cv, rfl, rfl, HO6.out.rd, (Below.refl _ _).drew.trans hb6⟩
          case rest =>
            obtain ⟨V, cv, rfl, rfl, rv, hb6⟩ := hcut
            have S4 := Lib.hid (S3.out.below hb6)
            have HB4 := Lib.hid (HB3.out.trans (hb6.mono HB3.out.size))
            have HU4 := Lib.hid (HU3.out.below hb6)
            have HV4 := Lib.hid rv
            clear hb6 S3 HB3 ca cb rv HU3
            go_wp2_with fail
            refine (joinP_any X Y n' m' cx cy l' r' _ S4.out.rx S4.out.ry).mono ?_; rintro e w7 ⟨M, cm, rfl, ho7, hb7⟩
            have S5 := Lib.hid (S4.out.below hb7)
            have HB5 := Lib.hid (HB4.out.trans (hb7.mono HB4.out.size))
            have HU5 := Lib.hid (HU4.out.below hb7)
            have HV5 := Lib.hid (HV4.out.below hb7)
            have HM5 := Lib.hid ho7.rd
            clear hb7 ho7 S4 HB4 HU4 HV4
            have ca := S5.out.ca
            have cb := S5.out.cb
            obtain ⟨v5, rfl⟩ : ∃ v5 : World, v5 = w7 := ⟨_, rfl⟩
            go_upto_region 15 with fail
            go_cut [24, 25] (fun x y W => ∃ V cv, x = .slice V (joinE l' r').1.length cv ∧ y = .int .i64 (joinE l' r').2 ∧ RdI W V (joinE l' r').1.length (joinE l' r').1 ∧ Below v5.heap.size v5 W)
            case first =>
              go_region_with (go_at_call 54; refine (refJoin_any A' B' n' m' c' d' l' r' _ S5.out.ra.drew S5.out.rb.drew).mono ?_; rintro e w6 ⟨Z, cz, rfl, ho6, hb6⟩; have HO6 := Lib.hid ho6; clear ho6)
              all_goals
                go_wp2
                go_meet
                exact ⟨Z, cz, rfl, rfl, HO6.out.rd, (Below.refl _ _).drew.trans hb6⟩
            case rest =>
              obtain ⟨Z, cz, rfl, rfl, rz, hb6⟩ := hcut
              have S6 := Lib.hid (S5.out.below hb6)
              have HB6 := Lib.hid (HB5.out.trans (hb6.mono HB5.out.size))
              have HU6 := Lib.hid (HU5.out.below hb6)
              have HV6 := Lib.hid (HV5.out.below hb6)
              have HM6 := Lib.hid (HM5.out.below hb6)
              have HZ6 := Lib.hid rz
              clear hb6 S5 HB5 ca cb rz HU5 HV5 HM5
              obtain ⟨v6, rfl⟩ : ∃ v6 : World, v6 = wc := ⟨_, rfl⟩
              generalize finE l' r' = F
              generalize meetE l' r' = ME at HU6 HV6 ⊢
              generalize joinE l' r' = JE at HM6 HZ6 ⊢
              obtain ⟨F1, F2⟩ := F
              obtain ⟨ME1, ME2⟩ := ME
              obtain ⟨JE1, JE2⟩ := JE
              simp only at HU6 HV6 HM6 HZ6 ⊢
              go_wp2_with fail
              refine (eq_any U V _ _ cu cv ME1 ME1 v6 HU6.out HV6.out).mono ?_; rintro e w' ⟨rfl, d1, rfl⟩
              rw [beq_self_eq_true]
              go_wp2_with fail
              refine (eq_any M Z _ _ cm cz JE1 JE1 _ (HM6.out.drewN d1) (HZ6.out.drewN d1)).mono ?_; rintro e w' ⟨rfl, d2, rfl⟩
              rw [beq_self_eq_true]
              have ca : (v6.drewN (d1 + d2)).cell? ⟨ga, t, none⟩ = some (.slice A' n' c') := S6.out.ca
              have cb : ∀ d, (v6.drewN d).cell? ⟨gb, t, none⟩ = some (.slice B' m' d') := fun _ => S6.out.cb
              have ca' : ((v6.drewN d1).drewN d2).cell? ⟨ga, t, none⟩ = some (.slice A' n' c') := S6.out.ca
              go_wp2_with fail
              refine (eq_any X A' n' n' cx c' l' l' _ (S6.out.rx.drewN (d1 + d2)) (S6.out.ra.drewN (d1 + d2))).mono ?_; rintro e w' ⟨rfl, d3, rfl⟩
              rw [beq_self_eq_true]
              go_wp2_with fail
              refine (eq_any Y B' m' m' cy d' r' r' _ (S6.out.ry.drewN (d1 + d2 + d3)) (S6.out.rb.drewN (d1 + d2 + d3))).mono ?_; rintro e w' ⟨rfl, d4, rfl⟩
              rw [beq_self_eq_true]
              go_wp2
              go_roundw
              case rel => exact ⟨t + 1, by omega, by go_num, below_drewN HB6.out _⟩
              case measure => simp [intOf]; omega
    · have htt : t = 3 := by omega
      subst htt
      go_wp2_with fail
      refine (awake_any wr (HBS.out.below HBE.out)).mono ?_; rintro e w' ⟨rfl, hb⟩
      have HB := Lib.hid ((HBW.out.trans (HBE.out.mono HBW.out.size)).trans (hb.mono (HBW.out.trans (HBE.out.mono HBW.out.size)).size))
      clear hb
      go_wp2
      go_ret
      exact ⟨rfl, HB.out⟩
end Go.Proofs.YtooepkpgffpcjaaDoor
