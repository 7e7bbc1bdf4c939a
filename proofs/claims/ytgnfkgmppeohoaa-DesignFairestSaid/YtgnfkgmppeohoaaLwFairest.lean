/- Walk: the statement DesignFairest. -/
import Derived.Test.YtgnfkgmppeohoaaMgS
import Derived.Test.YtgnfkgmppeohoaaMgT
namespace Go.Proofs.Ytgnfkgmppeohoaa
open Go.RowKit

theorem OwnI.capF {w : World} {base n c : Nat} {e : TypeId} {A : Option Addr} {l : List Int} (h : OwnI w base e A n c l) : n ≤ c := by
  rcases h.1.1.2 with ⟨h1, h2⟩ | ⟨g, cap, cur, h1, _, _, hnc, _⟩
  · injection h1 with h1 h3 h4; omega
  · injection h1 with h1 h3 h4; omega

theorem RdI.below0 {w w' : World} {A : Option Addr} {n B : Nat} {l : List Int} (h : RdI w A n l) (hb : Below B w w') (hA : 0 < n → ∀ b, A.map (·.block) = some b → b < B) : RdI w' A n l := by
  rcases Nat.eq_zero_or_pos n with h0 | h0
  · subst h0
    obtain rfl : l = [] := List.eq_nil_of_length_eq_zero (by have := h.len; omega)
    exact RdI.nil_
  · exact ⟨h.1.keep hb.size fun p _ hp => World.cell?_of_block (hb.block p.block (hA h0 _ hp)), h.2⟩

/-- what a round reads -/
structure FaR (v1 : World) (q r t : Nat) (A M : Option Addr) (n c : Nat) (l : List Int) (s d : Int) (W : World) : Prop where
  a0 : W.cell? ⟨q, t, none⟩ = some (.slice A n c)
  a1 : W.cell? ⟨q + 1, t, none⟩ = some (.int .i64 s)
  a2 : W.cell? ⟨r, t, none⟩ = some (.int .i64 d)
  ra : RdI W A n l
  rm : RdI W M n l
  lt : q + 1 < W.heap.size ∧ r < W.heap.size
  bel : Below v1.heap.size v1 W
theorem FaR.below {v1 W W' : World} {q r t : Nat} {A M : Option Addr} {n c : Nat} {l : List Int} {s d : Int} (h : FaR v1 q r t A M n c l s d W) (hb : Below W.heap.size W W') : FaR v1 q r t A M n c l s d W' :=
  ⟨(hb.cell (p := ⟨q, t, none⟩) (by have := h.lt; show q < _; omega)).trans h.a0, (hb.cell (p := ⟨q + 1, t, none⟩) h.lt.1).trans h.a1, (hb.cell (p := ⟨r, t, none⟩) h.lt.2).trans h.a2, h.ra.below hb, h.rm.below hb, ⟨Nat.lt_of_lt_of_le h.lt.1 hb.size, Nat.lt_of_lt_of_le h.lt.2 hb.size⟩, h.bel.trans (hb.mono h.bel.size)⟩
theorem FaR.drewN {v1 W : World} {q r t : Nat} {A M : Option Addr} {n c : Nat} {l : List Int} {s d : Int} (h : FaR v1 q r t A M n c l s d W) (k : Nat) : FaR v1 q r t A M n c l s d (W.drewN k) := h.below (below_drewN (Below.refl _ _) k)
theorem FaR.drew {v1 W : World} {q r t : Nat} {A M : Option Addr} {n c : Nat} {l : List Int} {s d : Int} (h : FaR v1 q r t A M n c l s d W) : FaR v1 q r t A M n c l s d W.drew := h.below ((Below.refl _ _).drew)

set_option maxHeartbeats 4000000 in
set_option maxRecDepth 100000 in
theorem designFairest_any (A0 : Option Addr) (n0 c0 : Nat) (sum draw : Int) (A3 : Option Addr) (n3 c3 : Nat) (l0 nums : List Int) (w : World) (h0 : RdI w A0 n0 l0) (z0 : n0 ≤ c0) (h3 : RdI w A3 n3 nums) (hs64 : I64 sum) (hd64 : I64 draw) :
    Calls Try.prog 8 #[.slice A0 n0 c0, .int .i64 sum, .int .i64 draw, .slice A3 n3 c3] w fun e w' => e = .returned (.bool true) ∧ Below w.heap.size w w' := by
  have hbd := h0.bd
  go_enter Try.func8, Try.ntmps8
  by_cases hlong : 40 < n0
  · have gl : decide (40 < n0) = true := decide_eq_true hlong
    go_wp2_with fail
    refine (long5_any A0 n0 c0 w hbd).mono ?_; rintro e w9 ⟨rfl, rfl⟩
    rw [gl]
    go_wp2_with fail
    refine (awake5_any w).mono ?_; rintro e w8 ⟨rfl, hb8⟩
    have HBF := Lib.hid hb8
    clear hb8
    go_wp2
    go_ret
    exact ⟨rfl, HBF.out⟩
  have gl : decide (40 < n0) = false := decide_eq_false hlong
  go_wp2_with fail
  refine (long5_any A0 n0 c0 w hbd).mono ?_; rintro e w9 ⟨rfl, rfl⟩
  rw [gl]
  go_wp2_with fail
  refine (boxOf_any A3 n3 c3 nums w h3).mono ?_; rintro e w1 ⟨g, rfl, hg, hbox, hb1⟩
  have HA := Lib.hid (h0.below hb1)
  have HAb : Hid (0 < n0 → ∀ b, A0.map (·.block) = some b → b < g) := Lib.hid (fun hn b e => by have := h0.blockN hn e; have h9 : w.heap.size ≤ g := hg; omega)
  have HBX := Lib.hid hbox
  have HB := Lib.hid hb1
  have hgl := hbox.lt
  have hgw : w.heap.size ≤ g := hg
  clear h0 h3 hbox hb1 hg
  go_wp2_with fail
  refine (any_any g 1 4 w1 HBX.out (by omega) (by omega) (by omega) (by omega)).mono ?_; rintro e w2 ⟨i0, rfl, hi0, hi1, hst⟩
  obtain ⟨i0, rfl⟩ : ∃ i' : Nat, i0 = i' := ⟨i0.toNat, by omega⟩
  have HA2 := Lib.hid (HA.out.spun0 hst.spun (fun hn b e => Nat.ne_of_lt (HAb.out hn b e)))
  have HBX2 := Lib.hid hst.box
  have HB2 := Lib.hid (HB.out.trans (hst.spun.below hgw HB.out.size))
  have hg2 := hst.box.lt
  clear hst HA HBX HB
  go_wp2_with fail
  go_loopw [10, 11] (fun o i wr => ∃ (j k : Nat) (Ao : Option Addr) (co : Nat) (own : List Int), j + k ≤ 4 ∧ i = .int .i64 j ∧ o = .slice Ao k co ∧ OwnI wr (g + 1) 3 Ao k co own ∧ IsBox wr g ∧ RdI wr A0 n0 l0 ∧ Below w.heap.size w wr) (fun _ i _ => (intOf i).toNat)
  case atStart => exact ⟨i0, 0, none, 0, [], by omega, rfl, rfl, OwnI.nil_ _ _ _, HBX2.out, HA2.out, HB2.out⟩
  case round =>
    obtain ⟨j, k, Ao, co, own, hjk, rfl, rfl, hown, hbox, ha, hb⟩ := hrel
    have HO := Lib.hid hown
    have HBX := Lib.hid hbox
    have HA := Lib.hid ha
    have HB := Lib.hid hb
    have hgr := hbox.lt
    have hszr := hb.size
    clear hown hbox ha hb HBX2 HA2 HB2
    by_cases hj : 0 < j
    · have hjI : (0 : Int) < j := by omega
      have hk9 : k + 1 ≤ 1000000 := by omega
      go_wp2_with (first
        | (go_at_call 26; refine (any_any g 1 6 wr HBX.out (by omega) (by omega) (by omega) (by omega)).mono ?_; rintro e w3 ⟨v, rfl, hv0, hv1, hst⟩; have HST := Lib.hid hst.spun; have HO2 := Lib.hid (HO.out.spun_ hst.spun (Nat.lt_succ_self _)); have HV : Hid (I64 v) := Lib.hid (I64.small (by omega)); have hs3 : g + 1 ≤ w3.heap.size := (by have := hst.grown.size; omega); have hs3' : wr.heap.size ≤ w3.heap.size := hst.grown.size; clear hst)
        | (at_builtin; refine wpList_appI1 w3 rfl (.tmp 37) (.tmp 40) rfl _ rfl rfl HO2.out HV.out hk9 hs3 ?_; intro A5 c5 w5 kk; have K1 := Lib.hid kk.own; have K2 := Lib.hid kk.below; clear kk))
      go_roundw
      case rel =>
        have hjn : ∃ j' : Nat, (j : Int) - 1 = j' ∧ j' + (k + 1) ≤ 4 := ⟨j - 1, by omega, by omega⟩
        obtain ⟨j', e1, e2⟩ := hjn
        refine ⟨j', k + 1, A5, c5, own ++ [v], e2, by rw [← e1], rfl, K1.out, ?_, ?_, ?_⟩
        · obtain ⟨x, hx⟩ := HST.out.box; exact ⟨x, hx.below2 K2.out (Nat.lt_succ_self _)⟩
        · exact (HA.out.spun0 HST.out (fun hn b e => Nat.ne_of_lt (HAb.out hn b e))).below0 K2.out (fun hn b e => Nat.lt_succ_of_lt (HAb.out hn b e))
        · exact (HB.out.trans (HST.out.below hgw hszr)).trans (K2.out.mono (by omega))
      case measure => simp [intOf]; omega
    · obtain rfl : j = 0 := by omega
      have hcap := HO.out.capF
      have HOL := Lib.hid HO.out.len
      go_wp2_with fail
      refine (any_any g 1 9 wr HBX.out (by omega) (by omega) (by omega) (by omega)).mono ?_; rintro e w3 ⟨n, rfl, hn0, hn1, hst⟩
      have HO3 := Lib.hid (HO.out.spun_ hst.spun (Nat.lt_succ_self _))
      have HA3 := Lib.hid (HA.out.spun0 hst.spun (fun hn b e => Nat.ne_of_lt (HAb.out hn b e)))
      have HBX3 := Lib.hid hst.box
      have HB3 := Lib.hid (HB.out.trans (hst.spun.below hgw hszr))
      have hs3 : g + 1 ≤ w3.heap.size := by have := hst.grown.size; omega
      have hs3' : wr.heap.size ≤ w3.heap.size := hst.grown.size
      clear hst HO HA HBX HB
      have hn9 : n ≤ 9 := by omega
      obtain ⟨mn, hmn⟩ : ∃ mn : Int, min 5 n = mn := ⟨_, rfl⟩
      have hm1 : 1 ≤ mn ∧ mn ≤ 5 := by omega
      go_wp2_with fail
      have hxl := (Blk.new w3 22 #[.slice A0 n0 c0, .slice Ao k co, .slice Ao k co]).alloc (.cells #[.int .i64 sum, .int .i64 n, .int .i64 sum] 3)
      have hxs := Blk.new (w3.alloc (.cells #[.slice A0 n0 c0, .slice Ao k co, .slice Ao k co] 22)) 3 #[.int .i64 sum, .int .i64 n, .int .i64 sum]
      have hsz1 : (w3.alloc (.cells #[.slice A0 n0 c0, .slice Ao k co, .slice Ao k co] 22)).heap.size = w3.heap.size + 1 := by simp
      rw [hsz1] at hxs
      have HXL := Lib.hid hxl
      have HXS := Lib.hid hxs
      have HO4 := Lib.hid ((HO3.out.alloc (.cells #[.slice A0 n0 c0, .slice Ao k co, .slice Ao k co] 22)).alloc (.cells #[.int .i64 sum, .int .i64 n, .int .i64 sum] 3))
      have HA4 := Lib.hid ((HA3.out.alloc (.cells #[.slice A0 n0 c0, .slice Ao k co, .slice Ao k co] 22)).alloc (.cells #[.int .i64 sum, .int .i64 n, .int .i64 sum] 3))
      have HBX4 := Lib.hid ((HBX3.out.alloc (.cells #[.slice A0 n0 c0, .slice Ao k co, .slice Ao k co] 22)).alloc (.cells #[.int .i64 sum, .int .i64 n, .int .i64 sum] 3))
      have HB4 := Lib.hid ((HB3.out.alloc HB3.out.size (.cells #[.slice A0 n0 c0, .slice Ao k co, .slice Ao k co] 22)).alloc (Nat.le_trans HB3.out.size (by simp)) (.cells #[.int .i64 sum, .int .i64 n, .int .i64 sum] 3))
      have hW4 : w.heap.size ≤ ((w3.alloc (.cells #[.slice A0 n0 c0, .slice Ao k co, .slice Ao k co] 22)).alloc (.cells #[.int .i64 sum, .int .i64 n, .int .i64 sum] 3)).heap.size := HB4.out.size
      obtain ⟨q, hq⟩ : ∃ q, w3.heap.size = q := ⟨_, rfl⟩
      rw [hq] at HXL HXS hs3 ⊢
      clear hxl hxs hsz1 HO3 HA3 HBX3 HB3 hs3' hq
      generalize (w3.alloc (.cells #[.slice A0 n0 c0, .slice Ao k co, .slice Ao k co] 22)).alloc (.cells #[.int .i64 sum, .int .i64 n, .int .i64 sum] 3) = W4 at HXL HXS HO4 HA4 HBX4 HB4 hW4 ⊢
      refine (any_any g 1 mn W4 HBX4.out (by omega) (by omega) (by omega) (by omega)).mono ?_; rintro e w5 ⟨dv, rfl, hd0, hd1, hst⟩
      have HXL5 := Lib.hid (HXL.out.grown hst.grown (fun e => by injection e with e; omega))
      have HXS5 := Lib.hid (HXS.out.grown hst.grown (fun e => by injection e with e; omega))
      have HO5 := Lib.hid (HO4.out.spun_ hst.spun (Nat.lt_succ_self _))
      have HA5 := Lib.hid (HA4.out.spun0 hst.spun (fun hn b e => Nat.ne_of_lt (HAb.out hn b e)))
      have HB5 := Lib.hid (HB4.out.trans (hst.spun.below hgw hW4))
      have hD64 : I64 dv := I64.small (by omega)
      clear hst HXL HXS HO4 HA4 HBX4 HB4 hW4
      go_upto_region 11 with fail
      have HXD := Lib.hid (Blk.new w5 3 #[.int .i64 draw, .int .i64 dv, .int .i64 draw])
      have HXL6 := Lib.hid (HXL5.out.alloc (.cells #[.int .i64 draw, .int .i64 dv, .int .i64 draw] 3))
      have HXS6 := Lib.hid (HXS5.out.alloc (.cells #[.int .i64 draw, .int .i64 dv, .int .i64 draw] 3))
      have HO6 := Lib.hid (HO5.out.alloc (.cells #[.int .i64 draw, .int .i64 dv, .int .i64 draw] 3))
      have HA6 := Lib.hid (HA5.out.alloc (.cells #[.int .i64 draw, .int .i64 dv, .int .i64 draw] 3))
      have HB6 := Lib.hid (HB5.out.alloc HB5.out.size (.cells #[.int .i64 draw, .int .i64 dv, .int .i64 draw] 3))
      obtain ⟨r, hr⟩ : ∃ r, w5.heap.size = r := ⟨_, rfl⟩
      rw [hr] at HXD ⊢
      have hn64 : I64 n := I64.small (by omega)
      clear HXL5 HXS5 HO5 HA5 HB5 hr
      generalize w5.alloc (.cells #[.int .i64 draw, .int .i64 dv, .int .i64 draw] 3) = W6 at HXL6 HXS6 HXD HO6 HA6 HB6 ⊢
      have HFT : Hid (∀ t : Nat, t < 3 → ∀ Wx, Below W6.heap.size W6 Wx → ∃ (A' : Option Addr) (n' c' : Nat) (l' : List Int) (s' d' : Int), Wx.cell? ⟨q, t, none⟩ = some (.slice A' n' c') ∧ Wx.cell? ⟨q + 1, t, none⟩ = some (.int .i64 s') ∧ Wx.cell? ⟨r, t, none⟩ = some (.int .i64 d') ∧ RdI Wx A' n' l' ∧ n' ≤ c' ∧ n' ≤ 40 ∧ I64 s' ∧ I64 d' ∧ q + 1 < Wx.heap.size ∧ r < Wx.heap.size) := Lib.hid (by
        intro t ht Wx hW
        have e1 := HXL6.out.below hW
        have e2 := HXS6.out.below hW
        have e3 := HXD.out.below hW
        match t, ht with
        | 0, _ => exact ⟨A0, n0, c0, l0, sum, draw, by rw [e1.cell]; rfl, by rw [e2.cell]; rfl, by rw [e3.cell]; rfl, HA6.out.below hW, z0, by omega, hs64, hd64, e2.lt, e3.lt⟩
        | 1, _ => exact ⟨Ao, k, co, own, n, dv, by rw [e1.cell]; rfl, by rw [e2.cell]; rfl, by rw [e3.cell]; rfl, HO6.out.rd.below hW, hcap, by omega, hn64, hD64, e2.lt, e3.lt⟩
        | 2, _ => exact ⟨Ao, k, co, own, sum, draw, by rw [e1.cell]; rfl, by rw [e2.cell]; rfl, by rw [e3.cell]; rfl, HO6.out.rd.below hW, hcap, by omega, hs64, hd64, e2.lt, e3.lt⟩)
      clear HXL6 HXS6 HXD HO6 HA6
      go_wp2_with fail
      go_loopw [16] (fun i wr => ∃ t : Nat, t ≤ 3 ∧ i = .int .i64 t ∧ Below W6.heap.size W6 wr) (fun i _ => 3 - (intOf i).toNat)
      case atStart => exact ⟨0, by omega, rfl, Below.refl _ _⟩
      case round =>
        obtain ⟨t, ht, rfl, hbel⟩ := hrel
        have HBE := Lib.hid hbel
        clear hbel
        by_cases hlt : t < 3
        · obtain ⟨A', n', c', l', s', d', a0, a1, a2, ra, hnc, hn40, hs6, hd6, hq1, hr1⟩ := HFT.out t hlt wr HBE.out
          have HRA := Lib.hid ra
          have HS6 := Lib.hid hs6
          have HD6 := Lib.hid hd6
          have HNC := Lib.hid hnc
          clear ra hs6 hd6
          go_wp2_with fail
          refine (ints_any A' n' c' l' wr HRA.out (by omega)).mono ?_; rintro e w7 ⟨M, cm, rfl, ho7, hb7⟩
          rw [HRA.out.len] at ho7 ⊢
          have HW := Lib.hid (show FaR W6 q r t A' M n' c' l' s' d' w7 from ⟨(hb7.cell (p := ⟨q, t, none⟩) (by show q < _; omega)).trans a0, (hb7.cell (p := ⟨q + 1, t, none⟩) hq1).trans a1, (hb7.cell (p := ⟨r, t, none⟩) hr1).trans a2, HRA.out.below hb7, ho7.rd, ⟨Nat.lt_of_lt_of_le hq1 hb7.size, Nat.lt_of_lt_of_le hr1 hb7.size⟩, HBE.out.trans (hb7.mono HBE.out.size)⟩)
          clear ho7 hb7 a0 a1 a2 hq1 hr1 HRA
          have a1 := HW.out.a1
          have a2 := HW.out.a2
          have HP := Lib.hid (fairP_any M n' cm l' s' d' w7.drew HW.out.rm.drew HS6.out HD6.out)
          obtain ⟨x, hx⟩ : ∃ x, fairE l' s' d' = x := ⟨_, rfl⟩
          rw [hx] at HP
          have HXE := Lib.hid hx
          clear hx
          go_upto_region 15 with fail
          go_region_held3 (fun w' => w'.cell? ⟨q + 1, t, none⟩ = some (.int .i64 s') ∧ w'.cell? ⟨r, t, none⟩ = some (.int .i64 d')) (first | exact ⟨a1, a2⟩ | exact ⟨HW8.out.a1, HW8.out.a2⟩ | exact ⟨a1, a2⟩) (first
            | (go_at_call 48; refine HP.out.mono ?_; rintro e w8 ⟨A8, c8, rfl, h8, b8⟩; have HW8 := Lib.hid (HW.out.drew.below b8); have H8 := Lib.hid h8.rd))
          clear HW HP a1 a2
          have a0 := HW8.out.a0
          have a1 := HW8.out.a1
          have a2 := HW8.out.a2
          have HP := Lib.hid (rfair_any A' n' c' l' s' d' w8.drew HW8.out.ra.drew HNC.out HS6.out HD6.out)
          rw [HXE.out] at HP
          go_upto_region 16 with fail
          go_region_held3 (fun w' => (w'.cell? ⟨q, t, none⟩ = some (.slice A' n' c') ∧ w'.cell? ⟨q + 1, t, none⟩ = some (.int .i64 s')) ∧ w'.cell? ⟨r, t, none⟩ = some (.int .i64 d')) (first | exact ⟨⟨a0, a1⟩, a2⟩ | exact ⟨⟨HW9.out.a0, HW9.out.a1⟩, HW9.out.a2⟩ | exact ⟨⟨a0, a1⟩, a2⟩) (first
            | (go_at_call 49; refine HP.out.mono ?_; rintro e w9 ⟨A9, c9, rfl, h9, b9⟩; have HW9 := Lib.hid (HW8.out.drew.below b9); have H9 := Lib.hid h9; have H89 := Lib.hid (H8.out.drew.below b9)))
          clear HW8 HP a0 a1 a2 H8
          have a0 := HW9.out.a0
          go_wp2_with fail
          refine (eq_any A8 A9 x.1.length x.1.length c8 c9 x.1 x.1 w9 H89.out H9.out).mono ?_; rintro e w' ⟨rfl, d1, rfl⟩
          rw [beq_self_eq_true]
          have HW10 := Lib.hid (HW9.out.drewN d1)
          clear HW9 H89 H9 a0
          generalize w9.drewN d1 = w12 at HW10 ⊢
          have a0 := HW10.out.a0
          go_wp2_with fail
          refine (eq_any M A' n' n' cm c' l' l' w12 HW10.out.rm HW10.out.ra).mono ?_; rintro e w' ⟨rfl, d2, rfl⟩
          rw [beq_self_eq_true]
          have HBm := Lib.hid (below_drewN HW10.out.bel d2)
          clear HW10 a0
          generalize w12.drewN d2 = w13 at HBm ⊢
          go_wp2
          go_roundw
          case rel => exact ⟨t + 1, by omega, by go_num, HBm.out⟩
          case measure => simp [intOf]; omega
        · have HBX := Lib.hid (HB6.out.trans (HBE.out.mono HB6.out.size))
          obtain rfl : t = 3 := by omega
          go_wp2_with fail
          refine (awake5_any wr).mono ?_; rintro e w8 ⟨rfl, hb8⟩
          have HBF := Lib.hid (HBX.out.trans (hb8.mono HBX.out.size))
          clear hb8
          go_wp2
          go_ret
          exact ⟨rfl, HBF.out⟩
end Go.Proofs.Ytgnfkgmppeohoaa
