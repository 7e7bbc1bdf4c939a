/- Walk: the statement DesignTurns. -/
import Derived.Test.YtcmacejpoihhlaaMgT
import Derived.Test.YtcmacejpoihhlaaMgU
import Derived.Test.YtcmacejpoihhlaaMgN
namespace Go.Proofs.Ytcmacejpoihhlaa
open Go.RowKit

/-- 'append(lists, row)' in a region that draws its order. -/
theorem step_appLx (w : World) {ops : Array Oper} {o : Oper} {a : Act} {K : Act → World → Prop} {Q : Exit → Act → World → Prop} {E : Prop} (hgd : o.guard = none) (s x : Operand)
    (ho : o.op = .call { callee := .builtin .append, args := #[s, x], argTypes := #[38, 38] })
    {base n c m d : Nat} {A X B : Option Addr} {ll : List (List Int)} {l : List Int} (hs : a.eval s = .slice A n c) (hx : a.eval x = .slice X 1 1) (hown : OwnL w base A n c ll) (hX : Rd w X 1 [.slice B m d]) (hr : RdI w B m l) (hne : 0 < m → A.map (·.block) ≠ B.map (·.block)) (hnm : n + 1 ≤ 1000000) (hbase : base ≤ w.heap.size)
    (h : ∀ A' c' w', OwnL w' base A' (n + 1) c' (ll ++ [l]) → Below base w w' → K (a.put o.dst (.slice A' (n + 1) c')) w') :
    if Region.wanted o (yielded ops a.tmps) = true then Oper.wp Try.prog o a w K Q else E := by
  obtain ⟨i0, hi0, hz0, hz1, hz2⟩ := info_parts rowInfo
  obtain ⟨vs, h1, h2, h3⟩ := hown
  exact step_app w hgd s x 38 ho base 22 i0 _ 24 Try.underlying38 hi0 hz0 hz1 hz2 rfl (by decide) A n c vs hs h1 X 1 1 [.slice B m d] hx hX (by intro u hu; simp at hu; subst hu; rfl) hnm hbase
    fun A' c' w' k1 k2 k3 => h A' c' w' (OwnL.push h1 h2 h3 hr hne k1 k2 (Nat.le_refl _) k3) (below_app h1 k2 hbase)

theorem fairO_snoc {n : Nat} {L : List (List Int)} (h1 : 1 ≤ n) (h12 : n ≤ 12) (hl : L.length ≤ 59) (hL : ∀ o ∈ L, okOrd n o = true) {o : List Int} (ho : okOrd n o = true) : fairO n (L ++ [o]) = ((addF n L o).1, (addF n L o).2, 0) := by
  have hz : ordE n (L ++ [o]) = 0 := ordE_of h1 h12 (by simp; omega) (fun x hx => by
    rcases List.mem_append.1 hx with h | h
    · exact hL x h
    · simp at h; subst h; exact ho)
  unfold fairO
  rw [if_neg (by omega), Int.toNat_natCast]; rfl

theorem made_len : ∀ n : Nat, n < 6 → ∀ i, i < n → ((madeT n).getD i []).length = n := by decide +kernel
theorem made_get {n i : Nat} (h5 : n ≤ 5) (hi : i < n) : (madeT n).take (i + 1) = (madeT n).take i ++ [(madeT n).getD i []] := by
  refine take_of_get ?_
  have hl := (made_end n (by omega) (by omega)).2.2
  rw [List.getD_eq_getElem?_getD, List.getElem?_eq_getElem (by omega)]; rfl

set_option maxHeartbeats 4000000 in
set_option maxRecDepth 100000 in
theorem designTurns_any (A0 : Option Addr) (n0 c0 : Nat) (nums : List Int) (w : World) (h0 : RdI w A0 n0 nums) : Calls Try.prog 14 #[.slice A0 n0 c0] w fun e w' => e = .returned (.bool true) ∧ Below w.heap.size w w' := by
  have H0 := Lib.hid h0
  clear h0
  go_enter Try.func14, Try.ntmps14
  go_wp2_with fail
  refine (boxOf_any A0 n0 c0 nums w H0.out).mono ?_; rintro e w1 ⟨g, rfl, hg, hbox, hb1⟩
  have HBX := Lib.hid hbox
  have HB := Lib.hid hb1
  have hgl := hbox.lt
  have hgw : w.heap.size ≤ g := hg
  clear hbox hb1 hg H0
  go_wp2_with fail
  refine (any_any g 1 5 w1 HBX.out (by omega) (by omega) (by omega) (by omega)).mono ?_; rintro e w2 ⟨n, rfl, hn0, hn1, hst⟩
  obtain ⟨n, rfl⟩ : ∃ n' : Nat, n = n' := ⟨n.toNat, by omega⟩
  have HBX2 := Lib.hid hst.box
  have HB2 := Lib.hid (HB.out.trans (hst.spun.below hgw HB.out.size))
  have h1 : 1 ≤ n := by omega
  have h5 : n ≤ 5 := by omega
  clear hst HBX HB hn0 hn1
  go_wp2_with fail
  refine (ordersOf_any g n 6 w2 HBX2.out (by omega) (by omega)).mono ?_; rintro e w3 ⟨A5, c5, L, rfl, hlm, hpm, hom, hsm⟩
  obtain ⟨m, hm⟩ : ∃ m, L.length = m := ⟨_, rfl⟩
  rw [hm] at hlm hom ⊢
  have HB3 := Lib.hid (HB2.out.trans (hsm.below hgw HB2.out.size))
  have H5 := Lib.hid hom.own.rd
  have HM := Lib.hid hm
  have HOK : Hid (∀ o ∈ L, okOrd n o = true) := Lib.hid (fun o ho => okOrd_of (hpm o ho))
  have HROW : Hid (∀ o ∈ L, o.length ≤ 1000) := Lib.hid (fun o ho => by rw [okOrd_len (HOK.out o ho)]; omega)
  have HZ : Hid (ordE n L = 0) := Lib.hid (ordE_of h1 (by omega) (by omega) HOK.out)
  have HFO : Hid (∀ o, okOrd n o = true → fairO n (L ++ [o]) = ((addF n L o).1, (addF n L o).2, 0)) := Lib.hid (fun o ho => fairO_snoc h1 (by omega) (by omega) HOK.out ho)
  have HPF := Lib.hid (perms_f h1 (show n ≤ 6 by omega))
  have hc0 := HPF.out.pos
  have hc7 := HPF.out.le
  obtain ⟨p, hp, hpe, hpmin, hpfst⟩ := turn_best n L HPF.out h1 (cntP n) hc0 (Nat.le_refl _)
  have HTE : Hid (turnE n L = (prm n p, 0)) := Lib.hid (by rw [turnE_ok HZ.out (by omega) (by omega), hpe])
  have HMIN := Lib.hid hpmin
  have HFST := Lib.hid hpfst
  have HPL : Hid (∀ i, i < cntP n → (prm n i).length = n) := Lib.hid (fun i hi => okOrd_len (HPF.out.ok i hi))
  have hn64 : I64 (n : Int) := I64.small (by omega)
  clear hsm hom hpm HBX2 HB2 hm hpe hpmin hpfst
  go_wp2_with fail
  refine (turnP_any A5 m c5 L n w3 H5.out hn64).mono ?_; rintro e w4 ⟨A6, c6, rfl, h6, b6⟩
  rw [HTE.out] at h6 ⊢
  simp only at h6 ⊢
  rw [HPL.out p hp] at h6 ⊢
  have HL6 := Lib.hid h6.rd
  have H54 := Lib.hid (H5.out.below b6)
  have HB4 := Lib.hid (HB3.out.trans (b6.mono HB3.out.size))
  have hsz6 : Hid (∀ b, A6.map (·.block) = some b → b < w4.heap.size) := Lib.hid (fun b e => (h6.1.block e).2)
  clear h6 b6 H5 HB3 HTE
  go_wp2_with fail
  refine (lists_any A5 m c5 L w4 H54.out (by omega) HROW).mono ?_; rintro e w5 ⟨M, cM, rfl, hM, bM⟩
  rw [HM.out] at hM ⊢
  have HMO := Lib.hid hM.own
  have HL65 := Lib.hid (HL6.out.below bM)
  have HBM := Lib.hid bM
  have HNE : Hid (0 < n → M.map (·.block) ≠ A6.map (·.block)) := Lib.hid (fun hn9 e => by
    cases e6 : A6.map (·.block) with
    | none =>
      obtain ⟨ad, e7, _⟩ := HL6.out.1.2.2 hn9
      rw [e7] at e6; cases e6
    | some b =>
      have h7 := HMO.out.lt b (by rw [e, e6])
      have h8 := hsz6.out b e6
      omega)
  have hs5 := bM.size
  have hm1 : m + 1 ≤ 1000000 := by omega
  clear hM bM
  go_wp2_with (at_builtin; refine wpList_appL1 _ rfl (.tmp 40) (.tmp 42) rfl _ rfl rfl HMO.out HL65.out HNE.out hm1 hs5 ?_; intro A7 c7 w6 k1 k2; have K1 := Lib.hid k1.rd; have HB46 := Lib.hid (HBM.out.trans k2); clear k1 k2)
  have H56 := Lib.hid (H54.out.below HB46.out)
  have HL66 := Lib.hid (HL6.out.below HB46.out)
  have HB6 := Lib.hid (HB4.out.trans (HB46.out.mono HB4.out.size))
  clear H54 HL6 HB4 HBM HB46 HNE HL65 HMO hs5 hsz6
  refine (fairPr_any A7 (m + 1) c7 (L ++ [prm n p]) n w6 K1.out hn64).mono ?_; rintro e w7 ⟨rfl, b7⟩
  rw [HFO.out _ (HPF.out.ok p hp)]
  obtain ⟨⟨px, py⟩, hpx⟩ : ∃ x, addF n L (prm n p) = x := ⟨_, rfl⟩
  rw [hpx] at HMIN HFST ⊢
  simp only
  have H57 := Lib.hid (H56.out.below b7)
  have HL67 := Lib.hid (HL66.out.below b7)
  have HB7 := Lib.hid (HB6.out.trans (b7.mono HB6.out.size))
  clear b7 hpx H56 HL66 HB6 K1
  go_wp2_with fail
  refine (permsR_any n w7 (by omega)).mono ?_; rintro e w8 ⟨A11, c11, rfl, h11, b11⟩
  have HP8 := Lib.hid h11.rd
  have H58 := Lib.hid (H57.out.below b11)
  have HL68 := Lib.hid (HL67.out.below b11)
  have HB8 := Lib.hid (HB7.out.trans (b11.mono HB7.out.size))
  clear h11 b11 H57 HL67 HB7
  go_wp2_with fail
  go_loopw [12, 13] (fun bf i wr => ∃ (i' : Nat) (bv : Bool), i' ≤ cntP n ∧ i = .int .i64 i' ∧ bf = .bool bv ∧ Hid (p < i' → bv = false) ∧ Below w8.heap.size w8 wr) (fun _ i _ => cntP n - (intOf i).toNat)
  case atStart => exact ⟨0, true, by omega, rfl, rfl, Lib.hid (fun h => by omega), Below.refl _ _⟩
  case round =>
    obtain ⟨i, bv, hi, rfl, rfl, HBVI, hbel⟩ := hrel
    have HBE := Lib.hid hbel
    obtain ⟨wr, rfl⟩ : ∃ wx : World, wx = wr := ⟨_, rfl⟩
    clear hbel
    by_cases hin : i < cntP n
    · obtain ⟨ad, B, k, d, o, rfl, hadb, ho, hro, hcell⟩ := (HP8.out.below HBE.out).at_ hin
      obtain rfl : o = prm n i := by
        have e := ho.out
        rw [prm_get hin] at e
        injection e with e; exact e.symm
      obtain rfl : n = k := by rw [← hro.len]; exact (HPL.out i hin).symm
      have hadl : (ad.add i).block < wr.heap.size := by rw [block_of_add]; exact hadb
      have HRO := Lib.hid hro
      have H5r := Lib.hid (H58.out.below HBE.out)
      have HL6r := Lib.hid (HL68.out.below HBE.out)
      have HFI := Lib.hid (HFO.out _ (HPF.out.ok i hin))
      obtain ⟨⟨x, y⟩, hx⟩ : ∃ x, addF n L (prm n i) = x := ⟨_, rfl⟩
      rw [hx] at HFI
      simp only at HFI
      have HX := Lib.hid hx
      have HLI : Hid (∀ W', RdL W' A5 m L → Calls Try.prog 59 #[.slice A5 m c5] W' fun e w' => ∃ M cM, e = .returned (.slice M m cM) ∧ OwnL w' W'.heap.size M m cM L ∧ Below W'.heap.size W' w') := Lib.hid (fun W' h => (lists_any A5 m c5 L W' h (by omega) HROW).mono (fun e w' ⟨M, cM, e1, e2, e3⟩ => by rw [HM.out] at e1 e2; exact ⟨M, cM, e1, e2.own, e3⟩))
      have HFA : Hid (∀ Wx A' c', RdL Wx A' (m + 1) (L ++ [prm n i]) → Calls Try.prog 57 #[.int .i64 n, .slice A' (m + 1) c'] Wx (Num3P (x, y, 0) Wx)) := Lib.hid (fun Wx A' c' h => by rw [← HFI.out]; exact fairPr_any A' (m + 1) c' _ n Wx h hn64)
      have HCE : Hid (∀ Wx, Below wr.heap.size wr Wx → Wx.cell? (ad.add i) = some (.slice B n d)) := Lib.hid (fun Wx hb => (hb.cell (p := ad.add i) hadl).trans hcell)
      have HB0 := Lib.hid (Below.refl wr.heap.size wr)
      have HBl : Hid (∀ b, B.map (·.block) = some b → b < wr.heap.size) := Lib.hid (fun b e => HRO.out.block (by omega) e)
      have hm1 : m + 1 ≤ 1000000 := by omega
      have HW1 : Hid (Below wr.heap.size wr wr.drew) := Lib.hid HB0.out.drew
      have HW2 : Hid (Below wr.heap.size wr (wr.alloc (.cells #[.slice B n d] 22)).drew) := Lib.hid (HB0.out.alloc (Nat.le_refl _) _).drew
      have HR2 : Hid (Rd (wr.alloc (.cells #[.slice B n d] 22)).drew (some ⟨wr.heap.size, 0, none⟩) 1 [.slice B n d]) := Lib.hid ((Rd.one wr 22 (.slice B n d)).below ((Below.refl _ _).drew))
      have hiN : (i : Int) < cntP n := by omega
      have hi7 : i < 720 := by omega
      clear hro hcell ho hx
      have hcell := HCE.out wr HB0.out
      go_upto_region 13 with fail
      go_region_held3 (fun w' => w'.cell? (ad.add i) = some (.slice B n d)) (first | exact hcell | exact HCE.out _ HW1.out | exact HCE.out _ HW2.out | exact HCE.out _ (HB0.out.alloc (Nat.le_refl _) _) | exact HCE.out _ (HB0.out.alloc (Nat.le_refl _) _).drew | exact HCE.out _ HB15.out | exact HCE.out _ HB14.out | exact HCE.out _ (HB13.out.alloc HB13.out.size _) | exact HCE.out _ HB13.out) (first
        | (go_at_call 59; ((with_reducible refine (HLI.out wr.drew (H5r.out.below HW1.out)).mono ?_); rintro e w13 ⟨M, cM, rfl, hM, bM⟩; have HB13 := Lib.hid (HW1.out.trans bM); have HMO := Lib.hid (hM.mono (base' := wr.heap.size) (Nat.le_refl _)); have hMl := HMO.out.lt))
        | (go_at_call 59; ((with_reducible refine (HLI.out (wr.alloc (.cells #[.slice B n d] 22)).drew (H5r.out.below HW2.out)).mono ?_); rintro e w13 ⟨M, cM, rfl, hM, bM⟩; have HB13 := Lib.hid (HW2.out.trans (bM.mono (by simp))); have HR13 := Lib.hid (HR2.out.below bM); have HMO := Lib.hid (hM.mono (base' := wr.heap.size) (by simp)); have hMl := HMO.out.lt))
        | (refine step_appLx (w13.alloc (.cells #[.slice B n d] 22)) (by rfl) (.tmp 65) (.tmp 70) (by rfl) (base := wr.heap.size) (A := M) (n := m) (c := cM) (X := some ⟨w13.heap.size, 0, none⟩) (m := n) (d := d) (B := B) (ll := L) (l := prm n i) (by rfl) (by rfl) (HMO.out.alloc _) (Rd.one w13 22 (.slice B n d)) ((HRO.out.below HB13.out).alloc _) (fun h9 e => by
              obtain ⟨a9, e9, _⟩ := HRO.out.1.2.2 h9
              have h7 := hMl a9.block (by rw [e, e9]; rfl)
              have h8 := HBl.out a9.block (by rw [e9]; rfl)
              omega) hm1 (HB13.out.alloc HB13.out.size _).size ?_; intro A14 c14 w14 k1 k2; have HB14 := Lib.hid ((HB13.out.alloc HB13.out.size (.cells #[.slice B n d] 22)).trans k2); have HRL := Lib.hid k1.rd)
        | (refine step_appLx w13 (by rfl) (.tmp 65) (.tmp 70) (by rfl) (base := wr.heap.size) (A := M) (n := m) (c := cM) (X := some ⟨wr.heap.size, 0, none⟩) (m := n) (d := d) (B := B) (ll := L) (l := prm n i) (by rfl) (by rfl) HMO.out HR13.out (HRO.out.below HB13.out) (fun h9 e => by
              obtain ⟨a9, e9, _⟩ := HRO.out.1.2.2 h9
              have h7 := hMl a9.block (by rw [e, e9]; rfl)
              have h8 := HBl.out a9.block (by rw [e9]; rfl)
              omega) hm1 HB13.out.size ?_; intro A14 c14 w14 k1 k2; have HB14 := Lib.hid (HB13.out.trans k2); have HRL := Lib.hid k1.rd)
        | (go_at_call 57; refine (HFA.out _ A14 c14 HRL.out).mono ?_; rintro e w15 ⟨rfl, b15⟩; have HB15 := Lib.hid (HB14.out.trans (b15.mono HB14.out.size))))
      all_goals
        have HW16 := Lib.hid (HBE.out.trans (HB15.out.mono HBE.out.size))
        have HRO7 := Lib.hid (HRO.out.below HB15.out)
        have HL67 := Lib.hid (HL6r.out.below HB15.out)
        have hc7 : w15.cell? (ad.add i) = some (.slice B n d) := HCE.out _ HB15.out
        have hmin := HMIN.out i hin
        rw [HX.out] at hmin
        have hrel : (¬x < px ∧ (x == px) = false) ∨ (x = px ∧ ¬y < py ∧ (y == py) = false) ∨ (x = px ∧ y = py) := by
          unfold ltD at hmin
          simp only at hmin
          by_cases e1 : x = px
          · by_cases e2 : y = py
            · exact .inr (.inr ⟨e1, e2⟩)
            · exact .inr (.inl ⟨e1, by omega, beq_false_of_ne e2⟩)
          · exact .inl ⟨by omega, beq_false_of_ne e1⟩
        have HPI : Hid (p < i + 1 → bv = true → p = i) := Lib.hid (fun h9 e => by
          by_cases h8 : p < i
          · rw [HBVI.out h8] at e; cases e
          · omega)
        have HEQ : Hid (x = px → y = py → bv = true → p = i) := Lib.hid (fun e1 e2 e3 => by
          by_cases h8 : i < p
          · have h7 := HFST.out i h8
            rw [HX.out] at h7
            unfold ltD at h7
            simp only at h7
            omega
          · exact HPI.out (by omega) e3)
        clear hmin HX HFI HCE HB0 HW1 HW2 HR2 hcell HB15 HRL HB14 HLI HFA HRO H5r HL6r HBVI
        cases bv
        · rcases hrel with ⟨q1, q2⟩ | ⟨rfl, q1, q2⟩ | ⟨rfl, rfl⟩
          all_goals
            go_wp2
            go_roundw
            case rel => exact ⟨i + 1, false, hin, by go_num, rfl, Lib.hid (fun _ => rfl), HW16.out⟩
            case measure => simp [intOf]; omega
        · go_wp2_with fail
          refine (eq_any B A6 n n d c6 (prm n i) (prm n p) w15 HRO7.out HL67.out).mono ?_; rintro e w' ⟨rfl, d1, rfl⟩
          have HE : Hid (p = i → (prm n i == prm n p) = true) := Lib.hid (fun e => by rw [e]; exact beq_self_eq_true _)
          have HW17 := Lib.hid (below_drewN HW16.out d1)
          generalize (prm n i == prm n p) = ev at HE ⊢
          clear HW16 HRO7 HL67 hc7
          generalize w15.drewN d1 = w17 at HW17 ⊢
          cases ev
          · rcases hrel with ⟨q1, q2⟩ | ⟨rfl, q1, q2⟩ | ⟨e1, e2⟩
            · go_wp2
              go_roundw
              case rel => exact ⟨i + 1, true, hin, by go_num, rfl, Lib.hid (fun h9 => absurd (HE.out (HPI.out h9 trivial)) (by simp)), HW17.out⟩
              case measure => simp [intOf]; omega
            · go_wp2
              go_roundw
              case rel => exact ⟨i + 1, true, hin, by go_num, rfl, Lib.hid (fun h9 => absurd (HE.out (HPI.out h9 trivial)) (by simp)), HW17.out⟩
              case measure => simp [intOf]; omega
            · exact absurd (HE.out (HEQ.out e1 e2 trivial)) (by simp)
          · rcases hrel with ⟨q1, q2⟩ | ⟨rfl, q1, q2⟩ | ⟨rfl, rfl⟩
            all_goals
              go_wp2
              go_roundw
              case rel => exact ⟨i + 1, false, hin, by go_num, rfl, Lib.hid (fun _ => rfl), HW17.out⟩
              case measure => simp [intOf]; omega
    · obtain rfl : bv = false := HBVI.out (by omega)
      have hie : i = cntP n := by omega
      have HB9 := Lib.hid (HB8.out.trans (HBE.out.mono HB8.out.size))
      clear HMIN HFST HFO HBE HP8 H58 HL68 HB8 HBVI
      subst hie
      obtain ⟨wb, rfl⟩ : ∃ wx : World, wx = wr := ⟨_, rfl⟩
      go_wp2_with fail
      go_loopw [17, 18] (fun md i wx => ∃ (i' : Nat) (Ao : Option Addr) (co : Nat), i' ≤ n ∧ i = .int .i64 i' ∧ md = .slice Ao i' co ∧ OwnL wx wb.heap.size Ao i' co ((madeT n).take i') ∧ Below wb.heap.size wb wx) (fun _ i _ => n - (intOf i).toNat)
      case atStart => exact ⟨0, none, 0, by omega, rfl, rfl, OwnL.nil_ _ _, Below.refl _ _⟩
      case round =>
        obtain ⟨i, Ao, co, hi, rfl, rfl, hown, hbel⟩ := hrel
        obtain ⟨wx, rfl⟩ : ∃ wx : World, wx = wr := ⟨_, rfl⟩
        have HO := Lib.hid hown
        have HBE := Lib.hid hbel
        have hszx := hbel.size
        clear hown hbel
        by_cases hin : i < n
        · have HT := Lib.hid (made_turn h5 hin).1
          have HK := Lib.hid (made_get h5 hin)
          have HLR := Lib.hid (made_len n (by omega) i hin)
          have hinI : (i : Int) < n := by omega
          generalize (madeT n).getD i [] = o at HT HK HLR
          generalize (madeT n).take i = D at HO HT HK
          go_wp2_with fail
          refine (turnP_any Ao i co D n wx HO.out.rd hn64).mono ?_; rintro e w20 ⟨A20, c20, rfl, h20, b20⟩
          rw [HT.out] at h20 ⊢
          simp only at h20 ⊢
          rw [HLR.out] at h20 ⊢
          have H20 := Lib.hid h20.rd
          have HOW := Lib.hid (HO.out.below b20)
          have HNE : Hid (0 < n → Ao.map (·.block) ≠ A20.map (·.block)) := Lib.hid (fun hn9 e => by
            cases e6 : A20.map (·.block) with
            | none =>
              obtain ⟨ad9, e7, _⟩ := h20.rd.1.2.2 hn9
              rw [e7] at e6; cases e6
            | some b =>
              have h7 := HO.out.lt b (by rw [e, e6])
              have h8 := (h20.1.block e6).1
              omega)
          have HB20 := Lib.hid (HBE.out.trans (b20.mono hszx))
          have hsz20 : wb.heap.size ≤ w20.heap.size := HB20.out.size
          have hi9 : i + 1 ≤ 1000000 := by omega
          clear h20 b20 HO HT
          go_wp2_with (at_builtin; refine wpList_appL1 _ rfl (.tmp 129) (.tmp 131) rfl _ rfl rfl HOW.out H20.out HNE.out hi9 hsz20 ?_; intro A21 c21 w21 k1 k2; have K1 := Lib.hid k1; have K2 := Lib.hid k2; clear k1 k2)
          go_roundw
          case rel => exact ⟨i + 1, A21, c21, by omega, by go_num, rfl, by rw [HK.out]; exact K1.out, HB20.out.trans K2.out⟩
          case measure => simp [intOf]; omega
        · have hie : n = i := by omega
          obtain ⟨z1, z2, z3⟩ := made_end n (by omega) h1
          rw [List.take_of_length_le (by omega)] at HO
          subst hie
          have HFE : Hid (fairO n (madeT n) = (0, (fair2 n (madeT n)).2, 0)) := Lib.hid (by unfold fairO; rw [if_neg (by omega), Int.toNat_natCast, z2])
          have HB10 := Lib.hid (HB9.out.trans (HBE.out.mono HB9.out.size))
          clear z1 z2 z3 HBE HB9
          go_wp2_with fail
          refine (fairPr_any Ao n co (madeT n) n wx HO.out.rd hn64).mono ?_; rintro e w22 ⟨rfl, b22⟩
          rw [HFE.out]
          have HB11 := Lib.hid (HB10.out.trans (b22.mono HB10.out.size))
          clear b22 HO HB10 HFE
          generalize (fair2 n (madeT n)).2 = z
          simp only
          go_wp2_with fail
          refine (awake5_any w22).mono ?_; rintro e w8 ⟨rfl, hb8⟩
          have HBF := Lib.hid (HB11.out.trans (hb8.mono HB11.out.size))
          clear hb8
          go_wp2
          go_ret
          exact ⟨rfl, HBF.out⟩
end Go.Proofs.Ytcmacejpoihhlaa
