/- Walk: the statement ChartRanks. -/
import Derived.Test.YtooepkpgffpcjaaDoorLawMoves
import Derived.Test.YtooepkpgffpcjaaDoorHeld
import Derived.Test.YtooepkpgffpcjaaDoorNextP
import Derived.Test.YtooepkpgffpcjaaDoorThree
namespace Go.Proofs.YtooepkpgffpcjaaDoor
open Go.RowKit

theorem cellAt0' (w : World) (g t : Nat) : w.cell? ((⟨g, 0, none⟩ : Addr).add t) = w.cell? ⟨g, t, none⟩ := by cases t <;> simp [Addr.add]
theorem three_I64' {x y z : Int} (hx : I64 x) (hy : I64 y) (hz : I64 z) : ∀ v ∈ [x, y, z], I64 v := by
  intro v hv; simp at hv; rcases hv with rfl | rfl | rfl <;> assumption
/-- what a round of the statement reads -/
structure Six2 (W : World) (ga gb gc t : Nat) (A' X : Option Addr) (n' c' : Nat) (l' : List Int) (nv kv : Int) : Prop where
  ca : W.cell? ⟨ga, t, none⟩ = some (.slice A' n' c')
  cb : W.cell? ⟨gb, t, none⟩ = some (.int .i64 nv)
  cc : W.cell? ⟨gc, t, none⟩ = some (.int .i64 kv)
  ra : RdI W A' n' l'
  rx : RdI W X n' l'
theorem Six2.below {W W' : World} {ga gb gc t : Nat} {A' X : Option Addr} {n' c' : Nat} {l' : List Int} {nv kv : Int} (h : Six2 W ga gb gc t A' X n' c' l' nv kv) (hb : Below W.heap.size W W') : Six2 W' ga gb gc t A' X n' c' l' nv kv :=
  ⟨(hb.cell (World.block_lt_of_cell? _ _ h.ca)).trans h.ca, (hb.cell (World.block_lt_of_cell? _ _ h.cb)).trans h.cb, (hb.cell (World.block_lt_of_cell? _ _ h.cc)).trans h.cc, h.ra.below hb, h.rx.below hb⟩
theorem OwnI.capG {w : World} {base n c : Nat} {e : TypeId} {A : Option Addr} {l : List Int} (h : OwnI w base e A n c l) (hn : 0 < n) : n ≤ c := by
  rcases h.1.1.2 with ⟨_, h0⟩ | ⟨g', cap, cur, hv', _, _, hnc, _⟩
  · omega
  · injection hv' with e1 e2 e3; omega

set_option maxHeartbeats 4000000 in
set_option maxRecDepth 100000 in
theorem chartRanks_any (A : Option Addr) (n c : Nat) (x y : Int) (C : Option Addr) (q f : Nat) (l nums : List Int) (w : World) (h1 : RdI w A n l) (hc1 : n ≤ c) (h3 : RdI w C q nums) (hx : I64 x) (hy : I64 y) (hs : Signs w) :
    Calls Tryd.prog 8 #[.slice A n c, .int .i64 x, .int .i64 y, .slice C q f] w (Held w) := by
  have hbd1 := h1.bd
  by_cases hl1 : 40 < n
  · go_enter Tryd.func8, Tryd.ntmps8
    go_wp2_with fail
    refine (long_yes A n c w hl1 hbd1).mono ?_; rintro e w' ⟨rfl, rfl⟩
    go_wp2_with fail
    refine (awake_any w hs).mono ?_; rintro e w' ⟨rfl, hb⟩
    have HB := Lib.hid hb
    clear hb
    go_wp2
    go_ret
    exact ⟨rfl, HB.out⟩
  have HSG := Lib.hid hs
  have HX := Lib.hid hx
  have HY := Lib.hid hy
  clear hs hx hy
  go_enter Tryd.func8, Tryd.ntmps8
  go_wp2_with fail
  refine (long_no A n c w (by omega)).mono ?_; rintro e w' ⟨rfl, rfl⟩
  go_wp2_with fail
  refine (boxOf_any C q f nums w h3).mono ?_; rintro e w1 ⟨g, rfl, hg, hbox, hb1⟩
  have HB1 := Lib.hid hb1
  have HBX := Lib.hid hbox
  have HGG := Lib.hid hg
  clear hb1 hbox h3 hg
  go_wp2_with fail
  refine (any_any g 1 9 w1 HBX.out (by omega) (by omega) (by omega) (by omega)).mono ?_; rintro e w2 ⟨k, rfl, hk0, hk1, hst⟩
  have hk9 : k ≤ 9 := by omega
  obtain ⟨k, rfl⟩ : ∃ k' : Nat, k = k' := ⟨k.toNat, by omega⟩
  have HB2 := Lib.hid (HB1.out.trans (hst.below HGG.out))
  have HBXL := Lib.hid hst.box.lt
  have HBX2 := Lib.hid hst.box
  clear hk1 hst HB1 HBX
  go_wp2_with fail
  refine (partitionOf_any g k w2 HBX2.out (by omega) (by omega)).mono ?_; rintro e w3 ⟨A3, c3, p3, rfl, hck3, ho3, hsp3⟩
  have HB3 := Lib.hid (HB2.out.trans (hsp3.below HGG.out HB2.out.size))
  have HBX3 := Lib.hid hsp3.box
  have HO3 := Lib.hid ho3
  have hk1 : 1 ≤ k := by omega
  have hcap3 : k ≤ c3 := ho3.capG (by omega)
  have HCE : Hid (countE k = (countR k, 0)) := Lib.hid (by unfold countE; rw [if_neg (by omega), Int.toNat_natCast])
  have hcb := countR_bd (n := k) (by omega)
  have hcb6 : countR k ≤ 100000 := by
    have h : ∀ n : Fin 10, countR n.1 ≤ 100000 := by decide +kernel
    exact h ⟨k, by omega⟩
  clear ho3 hsp3 hck3 HBX2 HB2
  go_wp2_with fail
  refine (refCount_any k w3).mono ?_; rintro e w4 ⟨rfl, hb⟩
  rw [HCE.out]
  simp only
  generalize countR k = many at hcb hcb6 ⊢
  have HB4 := Lib.hid (HB3.out.trans (hb.mono HB3.out.size))
  have HBX4 := Lib.hid (HBX3.out.below hb)
  have HP4 := Lib.hid (HO3.out.below hb)
  clear hb HB3 HBX3 HO3 HCE
  go_wp2_with fail
  have HG4 : Hid (g < w4.heap.size) := Lib.hid HBX4.out.lt
  have hs5 : ((w4.alloc (.cells #[.slice A n c, .slice A3 k c3, .slice A3 k c3] 22)).alloc (.cells #[.int .i64 x, .int .i64 k, .int .i64 k] 3)).heap.size = w4.heap.size + 2 := by simp
  have hb5 : Below w4.heap.size w4 ((w4.alloc (.cells #[.slice A n c, .slice A3 k c3, .slice A3 k c3] 22)).alloc (.cells #[.int .i64 x, .int .i64 k, .int .i64 k] 3)) := ((Below.refl _ w4).alloc (Nat.le_refl _) _).alloc (by simp) _
  have l5 : Blk ((w4.alloc (.cells #[.slice A n c, .slice A3 k c3, .slice A3 k c3] 22)).alloc (.cells #[.int .i64 x, .int .i64 k, .int .i64 k] 3)) w4.heap.size 22 #[.slice A n c, .slice A3 k c3, .slice A3 k c3] := (Blk.new w4 _ _).alloc _
  have n5 : Blk ((w4.alloc (.cells #[.slice A n c, .slice A3 k c3, .slice A3 k c3] 22)).alloc (.cells #[.int .i64 x, .int .i64 k, .int .i64 k] 3)) (w4.heap.size + 1) 3 #[.int .i64 x, .int .i64 k, .int .i64 k] := by
    have := Blk.new (w4.alloc (.cells #[.slice A n c, .slice A3 k c3, .slice A3 k c3] 22)) 3 #[.int .i64 x, .int .i64 k, .int .i64 k]
    simpa using this
  have HB5 := Lib.hid (HB4.out.trans (hb5.mono HB4.out.size))
  have HBX5 := Lib.hid (HBX4.out.below hb5)
  have HP5 := Lib.hid (HP4.out.below hb5)
  have HL5 := Lib.hid l5
  have HN5 := Lib.hid n5
  have HS5 := Lib.hid hs5
  clear hs5 hb5 l5 n5 HB4 HBX4 HP4
  generalize (w4.alloc (.cells #[.slice A n c, .slice A3 k c3, .slice A3 k c3] 22)).alloc (.cells #[.int .i64 x, .int .i64 k, .int .i64 k] 3) = w5 at HB5 HBX5 HP5 HL5 HN5 HS5 ⊢
  generalize w4.heap.size = ga at HL5 HN5 HS5 HG4 ⊢
  refine (any_any g (-1) many w5 HBX5.out (by omega) (by omega) (by omega) (by omega)).mono ?_; rintro e w6 ⟨v, rfl, hv0, hv1, hst⟩
  have HV := Lib.hid (I64.small (v := v) (by omega))
  have HB6 := Lib.hid (HB5.out.trans (hst.below HGG.out))
  have HP6 := Lib.hid (HP5.out.spun hst.spun HBXL.out)
  have HL6 := Lib.hid (HL5.out.grown hst.grown (fun e => by injection e with e; have := HG4.out; omega))
  have HN6 := Lib.hid (HN5.out.grown hst.grown (fun e => by injection e with e; have := HG4.out; omega))
  have HS6 : Hid (w6.heap.size = ga + 2) := Lib.hid (by rw [hst.size]; exact HS5.out)
  clear hst hv0 hv1 HB5 HBX5 HP5 HL5 HN5 HS5 HG4 HBXL
  go_wp2_with fail
  have hH1 := h1.below HB6.out
  have HABC : ∀ t : Nat, t < 3 → ∀ W, Below (w6.alloc (.cells #[.int .i64 y, .int .i64 v, .int .i64 y] 3)).heap.size (w6.alloc (.cells #[.int .i64 y, .int .i64 v, .int .i64 y] 3)) W →
      ∃ (A' : Option Addr) (n' c' : Nat) (l' : List Int) (nv kv : Int), n' ≤ 40 ∧ n' ≤ c' ∧ W.cell? ⟨ga, t, none⟩ = some (.slice A' n' c') ∧ W.cell? ⟨ga + 1, t, none⟩ = some (.int .i64 nv) ∧ W.cell? ⟨w6.heap.size, t, none⟩ = some (.int .i64 kv) ∧ RdI W A' n' l' := by
    intro t ht W hW
    have e1 := (HL6.out.alloc (.cells #[.int .i64 y, .int .i64 v, .int .i64 y] 3)).below hW
    have e2 := (HN6.out.alloc (.cells #[.int .i64 y, .int .i64 v, .int .i64 y] 3)).below hW
    have e3 := (Blk.new w6 3 #[.int .i64 y, .int .i64 v, .int .i64 y]).below hW
    match t, ht with
    | 0, _ => exact ⟨A, n, c, l, x, y, by omega, hc1, by rw [e1.cell]; rfl, by rw [e2.cell]; rfl, by rw [e3.cell]; rfl, (hH1.alloc _).below hW⟩
    | 1, _ => exact ⟨A3, k, c3, p3, k, v, by omega, hcap3, by rw [e1.cell]; rfl, by rw [e2.cell]; rfl, by rw [e3.cell]; rfl, (HP6.out.rd.alloc _).below hW⟩
    | 2, _ => exact ⟨A3, k, c3, p3, k, y, by omega, hcap3, by rw [e1.cell]; rfl, by rw [e2.cell]; rfl, by rw [e3.cell]; rfl, (HP6.out.rd.alloc _).below hW⟩
  have HABH := Lib.hid HABC
  have HBS := Lib.hid (HSG.out.below (HB6.out.trans ((Below.refl _ _).alloc HB6.out.size (.cells #[.int .i64 y, .int .i64 v, .int .i64 y] 3))))
  have HBW := Lib.hid (HB6.out.trans ((Below.refl _ _).alloc HB6.out.size (.cells #[.int .i64 y, .int .i64 v, .int .i64 y] 3)))
  clear HABC hH1 HP6 HL6 HN6 HB6 HSG h1 hl1 hbd1 hc1 hcap3 HS6
  generalize w6.alloc (.cells #[.int .i64 y, .int .i64 v, .int .i64 y] 3) = W5 at HABH HBS HBW ⊢
  generalize w6.heap.size = gc at HABH ⊢
  generalize ga + 1 = gb at HABH ⊢
  go_loopw [16] (fun i wr => ∃ t : Nat, t ≤ 3 ∧ i = .int .i64 t ∧ Below W5.heap.size W5 wr) (fun i _ => 3 - (intOf i).toNat)
  case atStart => exact ⟨0, by omega, rfl, Below.refl _ _⟩
  case round =>
    obtain ⟨t, ht, rfl, hbel⟩ := hrel
    have HBE := Lib.hid hbel
    clear hbel
    by_cases hlt : t < 3
    · obtain ⟨A', n', c', l', nv, kv, hn', hcap, ca, cb, cc, ra⟩ := HABH.out t hlt wr HBE.out
      have HN1 := Lib.hid ra.len
      have HRA := Lib.hid ra
      have HCBC := Lib.hid (And.intro cb cc)
      clear ra cb cc
      go_wp2_with fail
      refine (ints_any A' n' c' l' wr HRA.out (by omega)).mono ?_; rintro e w7 ⟨X, cx, rfl, hox, hb7⟩
      rw [HN1.out] at hox
      rw [HN1.out]
      have hblt := World.block_lt_of_cell? _ _ ca
      have S0 : Hid (Six2 w7 ga gb gc t A' X n' c' l' nv kv) := Lib.hid ⟨(hb7.cell hblt).trans ca, (hb7.cell (World.block_lt_of_cell? _ _ HCBC.out.1)).trans HCBC.out.1, (hb7.cell (World.block_lt_of_cell? _ _ HCBC.out.2)).trans HCBC.out.2, HRA.out.below hb7, hox.rd⟩
      have HB0 := Lib.hid (HBE.out.trans (hb7.mono HBE.out.size))
      clear hox hb7 ca hblt HRA HCBC HBE
      go_wp2_with fail
      refine (Rank_any X n' cx l' w7 S0.out.rx).mono ?_; rintro e w8 ⟨rfl, hb8⟩
      have S1 := Lib.hid (S0.out.below hb8)
      have HB1 := Lib.hid (HB0.out.trans (hb8.mono HB0.out.size))
      clear hb8 S0 HB0
      have ca := S1.out.ca
      go_wp2_with fail
      refine (refRank_any A' n' c' l' w8 S1.out.ra hcap).mono ?_; rintro e w9 ⟨rfl, hb9⟩
      have S2 := Lib.hid (S1.out.below hb9)
      have HB2 := Lib.hid (HB1.out.trans (hb9.mono HB1.out.size))
      clear hb9 S1 HB1 ca
      have cb := S2.out.cb
      have cc := S2.out.cc
      obtain ⟨v1, rfl⟩ : ∃ v1 : World, v1 = w9 := ⟨_, rfl⟩
      go_upto_region 13 with fail
      go_cut [22, 23] (fun x y W => ∃ V cv, x = .slice V (unrankE nv kv).1.length cv ∧ y = .int .i64 (unrankE nv kv).2 ∧ RdI W V (unrankE nv kv).1.length (unrankE nv kv).1 ∧ Below v1.heap.size v1 W)
      case first =>
        go_region_with (go_at_call 45; refine (unrank_any nv kv _).mono ?_; rintro e w6 ⟨V, cv, rfl, ho6, hb6⟩; have HO6 := Lib.hid ho6; clear ho6)
        all_goals
          go_wp2
          go_meet
          exact ⟨V, cv, rfl, rfl, HO6.out.rd, (Below.refl _ _).drew.trans hb6⟩
      case rest =>
        obtain ⟨U, cu, rfl, rfl, ru, hb6⟩ := hcut
        have S3 := Lib.hid (S2.out.below hb6)
        have HB3 := Lib.hid (HB2.out.trans (hb6.mono HB2.out.size))
        have HU3 := Lib.hid ru
        clear hb6 S2 HB2 cb cc ru
        have cb := S3.out.cb
        have cc := S3.out.cc
        obtain ⟨v3, rfl⟩ : ∃ v3 : World, v3 = wc := ⟨_, rfl⟩
        go_upto_region 14 with fail
        go_cut [24, 25] (fun x y W => ∃ V cv, x = .slice V (unrankE nv kv).1.length cv ∧ y = .int .i64 (unrankE nv kv).2 ∧ RdI W V (unrankE nv kv).1.length (unrankE nv kv).1 ∧ Below v3.heap.size v3 W)
        case first =>
          go_region_with (go_at_call 46; refine (refUnrank_any nv kv _).mono ?_; rintro e w6 ⟨V, cv, rfl, ho6, hb6⟩; have HO6 := Lib.hid ho6; clear ho6)
          all_goals
            go_wp2
            go_meet
            exact ⟨V, cv, rfl, rfl, HO6.out.rd, (Below.refl _ _).drew.trans hb6⟩
        case rest =>
          obtain ⟨V, cv, rfl, rfl, rv, hb6⟩ := hcut
          have S4 := Lib.hid (S3.out.below hb6)
          have HB4 := Lib.hid (HB3.out.trans (hb6.mono HB3.out.size))
          have HU4 := Lib.hid (HU3.out.below hb6)
          have HV4 := Lib.hid rv
          clear hb6 S3 HB3 cb cc rv HU3
          obtain ⟨v4, rfl⟩ : ∃ v4 : World, v4 = wc := ⟨_, rfl⟩
          go_wp2_with fail
          refine (next_any X n' cx l' v4 S4.out.rx).mono ?_; rintro e w7 ⟨M, cm, rfl, ho7, hb7⟩
          have S5 := Lib.hid (S4.out.below hb7)
          have HB5 := Lib.hid (HB4.out.trans (hb7.mono HB4.out.size))
          have HU5 := Lib.hid (HU4.out.below hb7)
          have HV5 := Lib.hid (HV4.out.below hb7)
          have HM5 := Lib.hid ho7.rd
          clear hb7 ho7 S4 HB4 HU4 HV4
          have ca := S5.out.ca
          go_wp2_with fail
          refine (refNext_any A' n' c' l' w7 S5.out.ra hcap).mono ?_; rintro e w8 ⟨Z, cz, rfl, ho7, hb7⟩
          have S6 := Lib.hid (S5.out.below hb7)
          have HB6 := Lib.hid (HB5.out.trans (hb7.mono HB5.out.size))
          have HU6 := Lib.hid (HU5.out.below hb7)
          have HV6 := Lib.hid (HV5.out.below hb7)
          have HM6 := Lib.hid (HM5.out.below hb7)
          have HZ6 := Lib.hid ho7.rd
          clear hb7 ho7 S5 HB5 HU5 HV5 HM5 ca
          obtain ⟨v6, rfl⟩ : ∃ v6 : World, v6 = w8 := ⟨_, rfl⟩
          generalize rankE l' = F
          generalize unrankE nv kv = ME at HU6 HV6 ⊢
          generalize nextE l' = JE at HM6 HZ6 ⊢
          obtain ⟨F1, F2⟩ := F
          obtain ⟨ME1, ME2⟩ := ME
          obtain ⟨JE1, JE2⟩ := JE
          simp only at HU6 HV6 HM6 HZ6 ⊢
          go_wp2_with fail
          refine (eq_any U V _ _ cu cv ME1 ME1 v6 HU6.out HV6.out).mono ?_; rintro e w' ⟨rfl, d1, rfl⟩
          rw [beq_self_eq_true]
          go_wp2_with fail
          refine (eq_any M Z _ _ cm cz JE1 JE1 _ (HM6.out.drewN d1) (HZ6.out.drewN d1)).mono ?_; rintro e w' ⟨rfl, d2, rfl⟩
          rw [beq_self_eq_true]
          have ca : (v6.drewN (d1 + d2)).cell? ⟨ga, t, none⟩ = some (.slice A' n' c') := S6.out.ca
          have ca' : ((v6.drewN d1).drewN d2).cell? ⟨ga, t, none⟩ = some (.slice A' n' c') := S6.out.ca
          go_wp2_with fail
          refine (eq_any X A' n' n' cx c' l' l' _ (S6.out.rx.drewN (d1 + d2)) (S6.out.ra.drewN (d1 + d2))).mono ?_; rintro e w' ⟨rfl, d3, rfl⟩
          rw [beq_self_eq_true]
          go_wp2
          go_roundw
          case rel => exact ⟨t + 1, by omega, by go_num, below_drewN HB6.out _⟩
          case measure => simp [intOf]; omega
    · have htt : t = 3 := by omega
      subst htt
      go_wp2_with fail
      refine (awake_any wr (HBS.out.below HBE.out)).mono ?_; rintro e w' ⟨rfl, hb⟩
      have HB := Lib.hid ((HBW.out.trans (HBE.out.mono HBW.out.size)).trans (hb.mono (HBW.out.trans (HBE.out.mono HBW.out.size)).size))
      clear hb
      go_wp2
      go_ret
      exact ⟨rfl, HB.out⟩
end Go.Proofs.YtooepkpgffpcjaaDoor
