/- Walk: the statement DesignSeats. -/
import Derived.Test.YtcmacejpoihhlaaMgU
import Derived.Test.YtcmacejpoihhlaaMgV
import Derived.Test.YtcmacejpoihhlaaMgQ
import Derived.Test.YtcmacejpoihhlaaMgN
namespace Go.Proofs.Ytcmacejpoihhlaa
open Go.RowKit

/-- what a round reads -/
structure SeR (v1 : World) (q r t : Nat) (nt : Int) (A : Option Addr) (n c : Nat) (L : List (List Int)) (M : Option Addr) (W : World) : Prop where
  a0 : W.cell? ⟨q, t, none⟩ = some (.int .i64 nt)
  a1 : W.cell? ⟨r, t, none⟩ = some (.slice A n c)
  ra : RdL W A n L
  rm : RdL W M n L
  lt : q < W.heap.size ∧ r < W.heap.size
  bel : Below v1.heap.size v1 W
theorem SeR.below {v1 W W' : World} {q r t : Nat} {nt : Int} {A : Option Addr} {n c : Nat} {L : List (List Int)} {M : Option Addr} (h : SeR v1 q r t nt A n c L M W) (hb : Below W.heap.size W W') : SeR v1 q r t nt A n c L M W' :=
  ⟨(hb.cell (p := ⟨q, t, none⟩) h.lt.1).trans h.a0, (hb.cell (p := ⟨r, t, none⟩) h.lt.2).trans h.a1, h.ra.below hb, h.rm.below hb, ⟨Nat.lt_of_lt_of_le h.lt.1 hb.size, Nat.lt_of_lt_of_le h.lt.2 hb.size⟩, h.bel.trans (hb.mono h.bel.size)⟩
theorem SeR.drewN {v1 W : World} {q r t : Nat} {nt : Int} {A : Option Addr} {n c : Nat} {L : List (List Int)} {M : Option Addr} (h : SeR v1 q r t nt A n c L M W) (k : Nat) : SeR v1 q r t nt A n c L M (W.drewN k) := h.below (below_drewN (Below.refl _ _) k)
theorem SeR.drew {v1 W : World} {q r t : Nat} {nt : Int} {A : Option Addr} {n c : Nat} {L : List (List Int)} {M : Option Addr} (h : SeR v1 q r t nt A n c L M W) : SeR v1 q r t nt A n c L M W.drew := h.below ((Below.refl _ _).drew)

theorem roundsE_len (n : Int) : (roundsE n).1.length ≤ 24 := by
  unfold roundsE
  split
  · simp
  · show (roundsL n.toNat).length ≤ 24
    unfold roundsL
    split <;> simp only [List.length_append, fwdTo_len, backTo_len] <;> omega

set_option maxHeartbeats 2000000 in
set_option maxRecDepth 100000 in
theorem designSeats_any (x0 : Int) (A1 : Option Addr) (n1 c1 : Nat) (A2 : Option Addr) (n2 c2 : Nat) (l1 : List (List Int)) (nums : List Int) (w : World) (h1 : RdL w A1 n1 l1) (h2 : RdI w A2 n2 nums) (hx64 : I64 x0) :
    Calls Try.prog 13 #[.int .i64 x0, .slice A1 n1 c1, .slice A2 n2 c2] w fun e w' => e = .returned (.bool true) ∧ Below w.heap.size w w' := by
  have H1 := Lib.hid h1
  have H2 := Lib.hid h2
  have HL1 := Lib.hid h1.len
  have hbd1 := h1.bd
  clear h1 h2
  go_enter Try.func13, Try.ntmps13
  go_wp2_with fail
  go_loopw [7] (fun i wr => ∃ j : Nat, j ≤ n1 ∧ i = .int .i64 j ∧ Hid (∀ o ∈ l1.take j, o.length ≤ 20) ∧ w = wr) (fun i _ => n1 - (intOf i).toNat)
  case atStart => exact ⟨0, by omega, rfl, Lib.hid (fun o ho => by cases ho), rfl⟩
  case round =>
    obtain ⟨j, hj, rfl, HJ, rfl⟩ := hrel
    by_cases hjn : j < n1
    · obtain ⟨ad, B, q, d, o, rfl, hadb, ho, hro, hcell⟩ := H1.out.at_ hjn
      have hol := hro.len
      by_cases hq : 20 < q
      · have hqI : (20 : Int) < q := by omega
        clear hro ho hol
        go_wp2_with fail
        refine (awake5_any w).mono ?_; rintro e w8 ⟨rfl, hb8⟩
        have HBF := Lib.hid hb8
        clear hb8
        go_wp2
        go_ret
        exact ⟨rfl, HBF.out⟩
      · have hqI : (q : Int) ≤ 20 := by omega
        have HT : Hid (∀ o' ∈ l1.take (j + 1), o'.length ≤ 20) := Lib.hid (fun o' h9 => by
          rw [take_of_get ho.out] at h9
          rcases List.mem_append.1 h9 with h9 | h9
          · exact HJ.out o' h9
          · simp at h9; subst h9; omega)
        clear hro ho hol
        go_wp2
        go_roundw
        case rel => exact ⟨j + 1, by omega, by go_num, HT, trivial⟩
        case measure => simp [intOf]; omega
    · obtain rfl : j = n1 := by omega
      have HR20 : Hid (∀ o ∈ l1, o.length ≤ 20) := Lib.hid (fun o ho => HJ.out o (by rw [List.take_of_length_le (by rw [HL1.out]; exact Nat.le_refl _)]; exact ho))
      clear HJ
      by_cases h70 : 70 < j
      · have h70I : (70 : Int) < j := by omega
        go_wp2_with fail
        refine (awake5_any w).mono ?_; rintro e w8 ⟨rfl, hb8⟩
        have HBF := Lib.hid hb8
        clear hb8
        go_wp2
        go_ret
        exact ⟨rfl, HBF.out⟩
      have h70I : (j : Int) ≤ 70 := by omega
      go_wp2_with fail
      refine (boxOf_any A2 n2 c2 nums w H2.out).mono ?_; rintro e w1 ⟨g, rfl, hg, hbox, hb1⟩
      have HBX := Lib.hid hbox
      have HB := Lib.hid hb1
      have hgl := hbox.lt
      have hgw : w.heap.size ≤ g := hg
      clear hbox hb1 hg H2
      go_wp2_with fail
      refine (any_any g 1 5 w1 HBX.out (by omega) (by omega) (by omega) (by omega)).mono ?_; rintro e w2 ⟨few, rfl, hf0, hf1, hst⟩
      obtain ⟨few, rfl⟩ : ∃ f' : Nat, few = f' := ⟨few.toNat, by omega⟩
      have HBX2 := Lib.hid hst.box
      have HB2 := Lib.hid (HB.out.trans (hst.spun.below hgw HB.out.size))
      clear hst HBX HB
      go_wp2_with fail
      refine (any_any g 1 12 w2 HBX2.out (by omega) (by omega) (by omega) (by omega)).mono ?_; rintro e w3 ⟨many, rfl, hm0, hm1, hst⟩
      obtain ⟨many, rfl⟩ : ∃ f' : Nat, many = f' := ⟨many.toNat, by omega⟩
      have HBX3 := Lib.hid hst.box
      have HB3 := Lib.hid (HB2.out.trans (hst.spun.below hgw HB2.out.size))
      clear hst HBX2 HB2
      go_wp2_with fail
      have hxq := Blk.new w3 3 #[.int .i64 x0, .int .i64 few, .int .i64 many]
      have hbx4 : IsBox (w3.alloc (.cells #[.int .i64 x0, .int .i64 few, .int .i64 many] 3)) g := HBX3.out.alloc _
      have hb4 := HB3.out.alloc HB3.out.size (.cells #[.int .i64 x0, .int .i64 few, .int .i64 many] 3)
      have hgq : g < w3.heap.size := HBX3.out.lt
      have hs4 : (w3.alloc (.cells #[.int .i64 x0, .int .i64 few, .int .i64 many] 3)).heap.size = w3.heap.size + 1 := by simp
      obtain ⟨q, hq⟩ : ∃ q, w3.heap.size = q := ⟨_, rfl⟩
      rw [hq] at hxq hgq hs4 ⊢
      have HXQ := Lib.hid hxq
      have HBX4 := Lib.hid hbx4
      have HB4 := Lib.hid hb4
      clear hxq hbx4 hb4 HBX3 HB3 hq
      generalize w3.alloc (.cells #[.int .i64 x0, .int .i64 few, .int .i64 many] 3) = W4 at HXQ HBX4 HB4 hs4 ⊢
      refine (ordersOf_any g few 8 W4 HBX4.out (by omega) (by omega)).mono ?_; rintro e w5 ⟨Af, cf, Lf, rfl, hlf, hpf, hof, hsf⟩
      have HXQ5 := Lib.hid (HXQ.out.grown hsf.grown (fun e => by injection e with e; omega))
      have HB5 := Lib.hid (HB4.out.trans (hsf.below hgw HB4.out.size))
      have HBX5 := Lib.hid hsf.box
      have HOF := Lib.hid hof
      have HPF := Lib.hid hpf
      have hsz5 : W4.heap.size ≤ w5.heap.size := hsf.grown.size
      clear hof hpf hsf HXQ HB4 HBX4
      go_wp2_with fail
      refine (ordersOf_any g many 6 w5 HBX5.out (by omega) (by omega)).mono ?_; rintro e w6 ⟨Am, cm, Lm, rfl, hlm, hpm, hom, hsm⟩
      have HXQ6 := Lib.hid (HXQ5.out.grown hsm.grown (fun e => by injection e with e; omega))
      have HB6 := Lib.hid (HB5.out.trans (hsm.below hgw HB5.out.size))
      have HOF6 := Lib.hid (HOF.out.grown hsm.grown (by omega))
      have HOM := Lib.hid hom
      have HPM := Lib.hid hpm
      clear hom hpm hsm HXQ5 HB5 HBX5 HOF
      go_wp2_with fail
      have hxr := Blk.new w6 38 #[.slice A1 j c1, .slice Af Lf.length cf, .slice Am Lm.length cm]
      have HXQ7 := Lib.hid (HXQ6.out.alloc (.cells #[.slice A1 j c1, .slice Af Lf.length cf, .slice Am Lm.length cm] 38))
      have HA7 := Lib.hid ((H1.out.below HB6.out).alloc (.cells #[.slice A1 j c1, .slice Af Lf.length cf, .slice Am Lm.length cm] 38))
      have HF7 := Lib.hid (HOF6.out.own.rd.alloc (.cells #[.slice A1 j c1, .slice Af Lf.length cf, .slice Am Lm.length cm] 38))
      have HM7 := Lib.hid (HOM.out.own.rd.alloc (.cells #[.slice A1 j c1, .slice Af Lf.length cf, .slice Am Lm.length cm] 38))
      have HB7 := Lib.hid (HB6.out.alloc HB6.out.size (.cells #[.slice A1 j c1, .slice Af Lf.length cf, .slice Am Lm.length cm] 38))
      obtain ⟨r, hr⟩ : ∃ r, w6.heap.size = r := ⟨_, rfl⟩
      rw [hr] at hxr ⊢
      have HXR := Lib.hid hxr
      clear hxr HXQ6 HB6 HOF6 HOM hr
      generalize w6.alloc (.cells #[.slice A1 j c1, .slice Af Lf.length cf, .slice Am Lm.length cm] 38) = W7 at HXQ7 HA7 HF7 HM7 HB7 HXR ⊢
      have HFT : Hid (∀ t : Nat, t < 3 → ∀ Wx, Below W7.heap.size W7 Wx → ∃ (nt : Int) (A' : Option Addr) (m' c' : Nat) (L' : List (List Int)), Wx.cell? ⟨q, t, none⟩ = some (.int .i64 nt) ∧ Wx.cell? ⟨r, t, none⟩ = some (.slice A' m' c') ∧ RdL Wx A' m' L' ∧ m' ≤ 70 ∧ (∀ o ∈ L', o.length ≤ 1000) ∧ I64 nt ∧ q < Wx.heap.size ∧ r < Wx.heap.size) := Lib.hid (by
        intro t ht Wx hW
        have e1 := HXQ7.out.below hW
        have e2 := HXR.out.below hW
        match t, ht with
        | 0, _ => exact ⟨x0, A1, j, c1, l1, by rw [e1.cell]; rfl, by rw [e2.cell]; rfl, HA7.out.below hW, by omega, fun o ho => by have := HR20.out o ho; omega, hx64, e1.lt, e2.lt⟩
        | 1, _ => exact ⟨few, Af, Lf.length, cf, Lf, by rw [e1.cell]; rfl, by rw [e2.cell]; rfl, HF7.out.below hW, by omega, fun o ho => by rw [(HPF.out o ho).length_eq, rangeI_length]; omega, I64.small (by omega), e1.lt, e2.lt⟩
        | 2, _ => exact ⟨many, Am, Lm.length, cm, Lm, by rw [e1.cell]; rfl, by rw [e2.cell]; rfl, HM7.out.below hW, by omega, fun o ho => by rw [(HPM.out o ho).length_eq, rangeI_length]; omega, I64.small (by omega), e1.lt, e2.lt⟩)
      clear HXQ7 HXR HA7 HF7 HM7 HPF HPM HR20 hlf hlm
      go_wp2_with fail
      go_loopw [13] (fun i wr => ∃ t : Nat, t ≤ 3 ∧ i = .int .i64 t ∧ Below W7.heap.size W7 wr) (fun i _ => 3 - (intOf i).toNat)
      case atStart => exact ⟨0, by omega, rfl, Below.refl _ _⟩
      case round =>
        obtain ⟨t, ht, rfl, hbel⟩ := hrel
        have HBE := Lib.hid hbel
        clear hbel
        by_cases hlt : t < 3
        · obtain ⟨nt, At, mt, ct, Lt, a0, a1, ra, hm70, hrow, hn64, hq1, hr1⟩ := HFT.out t hlt wr HBE.out
          have HRA := Lib.hid ra
          have HROW : Hid (∀ o ∈ Lt, o.length ≤ 1000) := Lib.hid hrow
          have HN64 := Lib.hid hn64
          have HLT := Lib.hid ra.len
          clear ra hrow hn64
          go_wp2_with fail
          refine (lists_any At mt ct Lt wr HRA.out (by omega) HROW).mono ?_; rintro e w8 ⟨M, cm8, rfl, ho8, hb8⟩
          rw [HLT.out] at ho8 ⊢
          have HW := Lib.hid (show SeR W7 q r t nt At mt ct Lt M w8 from ⟨(hb8.cell (p := ⟨q, t, none⟩) hq1).trans a0, (hb8.cell (p := ⟨r, t, none⟩) hr1).trans a1, HRA.out.below hb8, ho8.own.rd, ⟨Nat.lt_of_lt_of_le hq1 hb8.size, Nat.lt_of_lt_of_le hr1 hb8.size⟩, HBE.out.trans (hb8.mono HBE.out.size)⟩)
          clear ho8 hb8 a0 a1 hq1 hr1 HRA HROW
          have a0 := HW.out.a0
          go_wp2_with fail
          refine (fairPr_any M mt cm8 Lt nt w8 HW.out.rm HN64.out).mono ?_; rintro e w9 ⟨rfl, b9⟩
          obtain ⟨⟨f1, f2, f3⟩, hf⟩ : ∃ x, fairO nt Lt = x := ⟨_, rfl⟩
          have HW9 := Lib.hid (HW.out.below b9)
          have HP := Lib.hid (fairR_any At mt ct Lt nt w9.drew HW9.out.drew.ra HN64.out)
          rw [hf] at HP ⊢
          clear hf b9 HW a0
          have a0 := HW9.out.a0
          have a1 := HW9.out.a1
          go_upto_region 16 with fail
          go_region_held3 (fun w' => w'.cell? ⟨q, t, none⟩ = some (.int .i64 nt) ∧ w'.cell? ⟨r, t, none⟩ = some (.slice At mt ct)) (first | exact ⟨a0, a1⟩ | exact ⟨HW10.out.a0, HW10.out.a1⟩ | exact ⟨a0, a1⟩) (first
            | (go_at_call 60; refine HP.out.mono ?_; rintro e w10 ⟨rfl, b10⟩; have HW10 := Lib.hid (HW9.out.drew.below b10)))
          clear HW9 HP a0 a1
          have a0 := HW10.out.a0
          go_wp2_with fail
          refine (rounds_any nt w10 HN64.out).mono ?_; rintro e w11 ⟨A11, c11, rfl, h11, b11⟩
          have HRL := Lib.hid (roundsE_len nt)
          have HRR := Lib.hid (fun W => roundsR_any nt W HN64.out)
          obtain ⟨⟨rl, re⟩, hrl⟩ : ∃ x, roundsE nt = x := ⟨_, rfl⟩
          rw [hrl] at h11 HRL HRR ⊢
          have HW11 := Lib.hid (HW10.out.below b11)
          have HR11 := Lib.hid h11.rd
          clear h11 b11 hrl HW10 a0
          have a0 := HW11.out.a0
          go_wp2_with fail
          refine (HRR.out w11).mono ?_; rintro e w12 ⟨A12, c12, rfl, h12, b12⟩
          have HW12 := Lib.hid (HW11.out.below b12)
          have HR11b := Lib.hid (HR11.out.below b12)
          have HR12 := Lib.hid h12.rd
          clear h12 b12 HW11 HR11 HRR a0
          have a0 := HW12.out.a0
          have a1 := HW12.out.a1
          obtain ⟨oe, hoe⟩ : ∃ oe, ordE nt Lt = oe := ⟨_, rfl⟩
          have HC1 : Hid (∀ W', RdL W' M mt Lt → Calls Try.prog 62 #[.int .i64 nt, .slice M mt cm8] W' (Num oe W')) := Lib.hid (fun W' h => by rw [← hoe]; exact checkO_any M mt cm8 Lt nt W' h HN64.out)
          have HC2 : Hid (∀ W', RdL W' At mt Lt → Calls Try.prog 63 #[.int .i64 nt, .slice At mt ct] W' fun e w' => e = .returned (.int .i64 oe) ∧ ∃ k, w' = W'.drewN k) := Lib.hid (fun W' h => by rw [← hoe]; exact rcheckO_q At mt ct Lt nt W' h HN64.out)
          have HC3 : Hid (∀ W', RdL W' A11 rl.length rl → RdL W' A12 rl.length rl → Calls Try.prog 64 #[.slice A11 rl.length c11, .slice A12 rl.length c12] W' fun e w' => e = .returned (.bool true) ∧ ∃ k, w' = W'.drewN k) := Lib.hid (fun W' h h' => by
            have h9 := eqLists_any A11 A12 rl.length rl.length c11 c12 rl rl W' h h' (by have := HRL.out; omega) (by have := HRL.out; omega)
            rwa [beq_self_eq_true] at h9)
          have HC4 : Hid (∀ W', RdL W' M mt Lt → RdL W' At mt Lt → Calls Try.prog 64 #[.slice M mt cm8, .slice At mt ct] W' fun e w' => e = .returned (.bool true) ∧ ∃ k, w' = W'.drewN k) := Lib.hid (fun W' h h' => by
            have h9 := eqLists_any M At mt mt cm8 ct Lt Lt W' h h' (by omega) (by omega)
            rwa [beq_self_eq_true] at h9)
          clear hoe
          go_upto_region 19 with fail
          go_quiet (first
            | (go_at_call 62; exact Calls.quiet_of_same (HC1.out _ (HW12.out.rm.drewN _)))
            | (go_at_call 63; exact Calls.quiet_of (HC2.out _ (HW12.out.ra.drewN _)))
            | (go_at_call 64; with_reducible exact Calls.quiet_of (HC3.out _ (HR11b.out.drewN _) (HR12.out.drewN _)))
            | (go_at_call 64; with_reducible exact Calls.quiet_of (HC4.out _ (HW12.out.rm.drewN _) (HW12.out.ra.drewN _))))
          have HW13 := Lib.hid (HW12.out.drewN nq)
          clear HC1 HC2 HC3 HC4 HR11b HR12 HW12 HRL a0 a1
          generalize w12.drewN nq = w13 at HW13 ⊢
          have a0 := HW13.out.a0
          have a1 := HW13.out.a1
          have hcase : (nt = 6 ∧ 6 < mt) ∨ (nt = 6 ∧ mt ≤ 6) ∨ nt ≠ 6 := by omega
          have HB13 := Lib.hid HW13.out.bel
          rcases hcase with ⟨h6, hm6⟩ | hcase
          · have g6 : (nt == 6) = true := by rw [h6]; rfl
            have hm6I : (6 : Int) < mt := by omega
            clear h6
            go_wp2
            go_roundw
            case rel => exact ⟨t + 1, by omega, by go_num, HB13.out⟩
            case measure => simp [intOf]; omega
          · have HTP := Lib.hid (turnP_any M mt cm8 Lt nt w13 HW13.out.rm HN64.out)
            have HTR := Lib.hid (fun W h => turnR_any At mt ct Lt nt W h HN64.out)
            obtain ⟨⟨tl, te⟩, htl⟩ : ∃ x, turnE nt Lt = x := ⟨_, rfl⟩
            rw [htl] at HTP HTR
            clear htl HB13
            rcases hcase with ⟨h6, hm6⟩ | h6
            · have g6 : (nt == 6) = true := by rw [h6]; rfl
              have hm6I : (mt : Int) ≤ 6 := by omega
              clear h6
              go_upto_region 22 with fail
              clear g6
              go_wp2_with fail
              refine HTP.out.mono ?_; rintro e w14 ⟨A14, c14, rfl, h14, b14⟩
              have HW14 := Lib.hid (HW13.out.below b14)
              have HR14 := Lib.hid h14.rd
              have HP2 := Lib.hid (HTR.out w14.drew HW14.out.drew.ra)
              clear h14 b14 HW13 HTP HTR a0 a1
              have a0 := HW14.out.a0
              have a1 := HW14.out.a1
              go_upto_region 23 with fail
              go_region_held3 (fun w' => w'.cell? ⟨q, t, none⟩ = some (.int .i64 nt) ∧ w'.cell? ⟨r, t, none⟩ = some (.slice At mt ct)) (first | exact ⟨a0, a1⟩ | exact ⟨HW15.out.a0, HW15.out.a1⟩ | exact ⟨a0, a1⟩) (first
                | (go_at_call 66; refine HP2.out.mono ?_; rintro e w15 ⟨A15, c15, rfl, h15, b15⟩; have HW15 := Lib.hid (HW14.out.drew.below b15); have HR15 := Lib.hid h15; have HR14b := Lib.hid (HR14.out.drew.below b15)))
              clear HW14 HP2 a0 a1 HR14
              have a1 := HW15.out.a1
              go_wp2_with fail
              refine (eq_any A14 A15 tl.length tl.length c14 c15 tl tl w15 HR14b.out HR15.out).mono ?_; rintro e w' ⟨rfl, d1, rfl⟩
              rw [beq_self_eq_true]
              have HW16 := Lib.hid (HW15.out.drewN d1)
              clear HW15 HR14b HR15 a1
              generalize w15.drewN d1 = w16 at HW16 ⊢
              have a1 := HW16.out.a1
              go_wp2_with fail
              refine (eqLists_any M At mt mt cm8 ct Lt Lt w16 HW16.out.rm HW16.out.ra (by omega) (by omega)).mono ?_; rintro e w' ⟨rfl, d2, rfl⟩
              rw [beq_self_eq_true]
              have HBm := Lib.hid (below_drewN HW16.out.bel d2)
              clear HW16 a1
              generalize w16.drewN d2 = w17 at HBm ⊢
              go_wp2
              go_roundw
              case rel => exact ⟨t + 1, by omega, by go_num, HBm.out⟩
              case measure => simp [intOf]; omega
            · have g6 : (nt == 6) = false := beq_false_of_ne h6
              clear h6
              go_upto_region 22 with fail
              clear g6
              go_wp2_with fail
              refine HTP.out.mono ?_; rintro e w14 ⟨A14, c14, rfl, h14, b14⟩
              have HW14 := Lib.hid (HW13.out.below b14)
              have HR14 := Lib.hid h14.rd
              have HP2 := Lib.hid (HTR.out w14.drew HW14.out.drew.ra)
              clear h14 b14 HW13 HTP HTR a0 a1
              have a0 := HW14.out.a0
              have a1 := HW14.out.a1
              go_upto_region 23 with fail
              go_region_held3 (fun w' => w'.cell? ⟨q, t, none⟩ = some (.int .i64 nt) ∧ w'.cell? ⟨r, t, none⟩ = some (.slice At mt ct)) (first | exact ⟨a0, a1⟩ | exact ⟨HW15.out.a0, HW15.out.a1⟩ | exact ⟨a0, a1⟩) (first
                | (go_at_call 66; refine HP2.out.mono ?_; rintro e w15 ⟨A15, c15, rfl, h15, b15⟩; have HW15 := Lib.hid (HW14.out.drew.below b15); have HR15 := Lib.hid h15; have HR14b := Lib.hid (HR14.out.drew.below b15)))
              clear HW14 HP2 a0 a1 HR14
              have a1 := HW15.out.a1
              go_wp2_with fail
              refine (eq_any A14 A15 tl.length tl.length c14 c15 tl tl w15 HR14b.out HR15.out).mono ?_; rintro e w' ⟨rfl, d1, rfl⟩
              rw [beq_self_eq_true]
              have HW16 := Lib.hid (HW15.out.drewN d1)
              clear HW15 HR14b HR15 a1
              generalize w15.drewN d1 = w16 at HW16 ⊢
              have a1 := HW16.out.a1
              go_wp2_with fail
              refine (eqLists_any M At mt mt cm8 ct Lt Lt w16 HW16.out.rm HW16.out.ra (by omega) (by omega)).mono ?_; rintro e w' ⟨rfl, d2, rfl⟩
              rw [beq_self_eq_true]
              have HBm := Lib.hid (below_drewN HW16.out.bel d2)
              clear HW16 a1
              generalize w16.drewN d2 = w17 at HBm ⊢
              go_wp2
              go_roundw
              case rel => exact ⟨t + 1, by omega, by go_num, HBm.out⟩
              case measure => simp [intOf]; omega
        · have HBX := Lib.hid (HB7.out.trans (HBE.out.mono HB7.out.size))
          obtain rfl : t = 3 := by omega
          go_wp2_with fail
          refine (awake5_any wr).mono ?_; rintro e w8 ⟨rfl, hb8⟩
          have HBF := Lib.hid (HBX.out.trans (hb8.mono HBX.out.size))
          clear hb8
          go_wp2
          go_ret
          exact ⟨rfl, HBF.out⟩
end Go.Proofs.Ytcmacejpoihhlaa
