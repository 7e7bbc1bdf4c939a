/- Walk: the statement DesignBest. -/
import Derived.Test.YtcmacejpoihhlaaMgS
import Derived.Test.YtcmacejpoihhlaaMgT
import Derived.Test.YtcmacejpoihhlaaMgE
namespace Go.Proofs.Ytcmacejpoihhlaa
open Go.RowKit

theorem OwnI.capB {w : World} {base n c : Nat} {e : TypeId} {A : Option Addr} {l : List Int} (h : OwnI w base e A n c l) : n ≤ c := by
  rcases h.1.1.2 with ⟨h1, h2⟩ | ⟨g, cap, cur, h1, _, _, hnc, _⟩
  · injection h1 with h1 h3 h4; omega
  · injection h1 with h1 h3 h4; omega

set_option maxHeartbeats 4000000 in
set_option maxRecDepth 100000 in
theorem designBest_any (A0 : Option Addr) (n0 c0 : Nat) (nums : List Int) (w : World) (h0 : RdI w A0 n0 nums) : Calls Try.prog 9 #[.slice A0 n0 c0] w fun e w' => e = .returned (.bool true) ∧ Below w.heap.size w w' := by
  go_enter Try.func9, Try.ntmps9
  go_wp2_with fail
  refine (boxOf_any A0 n0 c0 nums w h0).mono ?_; rintro e w1 ⟨g, rfl, hg, hbox, hb1⟩
  have HBX := Lib.hid hbox
  have HB := Lib.hid hb1
  have hgl := hbox.lt
  have hgw : w.heap.size ≤ g := hg
  clear h0 hbox hb1 hg
  go_wp2_with fail
  refine (any_any g 1 4 w1 HBX.out (by omega) (by omega) (by omega) (by omega)).mono ?_; rintro e w2 ⟨i0, rfl, hi0, hi1, hst⟩
  obtain ⟨i0, rfl⟩ : ∃ i' : Nat, i0 = i' := ⟨i0.toNat, by omega⟩
  have HBX2 := Lib.hid hst.box
  have HB2 := Lib.hid (HB.out.trans (hst.spun.below hgw HB.out.size))
  have hg2 := hst.box.lt
  clear hst HBX HB
  go_wp2_with fail
  go_loopw [4, 5] (fun o i wr => ∃ (j k : Nat) (Ao : Option Addr) (co : Nat) (own : List Int), j + k ≤ 4 ∧ i = .int .i64 j ∧ o = .slice Ao k co ∧ OwnI wr (g + 1) 3 Ao k co own ∧ IsBox wr g ∧ (∀ x ∈ own, 1 ≤ x ∧ x ≤ 6) ∧ (k = 0 → 0 < j) ∧ Below w.heap.size w wr) (fun _ i _ => (intOf i).toNat)
  case atStart => exact ⟨i0, 0, none, 0, [], by omega, rfl, rfl, OwnI.nil_ _ _ _, HBX2.out, (fun x hx => by cases hx), (fun _ => by omega), HB2.out⟩
  case round =>
    obtain ⟨j, k, Ao, co, own, hjk, rfl, rfl, hown, hbox, hin, hkj, hb⟩ := hrel
    have HO := Lib.hid hown
    have HBX := Lib.hid hbox
    have HIN := Lib.hid hin
    have HB := Lib.hid hb
    have hgr := hbox.lt
    have hszr := hb.size
    clear hown hbox hin hb HBX2 HB2
    by_cases hj : 0 < j
    · have hjI : (0 : Int) < j := by omega
      have hk9 : k + 1 ≤ 1000000 := by omega
      go_wp2_with (first
        | (go_at_call 26; refine (any_any g 1 6 wr HBX.out (by omega) (by omega) (by omega) (by omega)).mono ?_; rintro e w3 ⟨v, rfl, hv0, hv1, hst⟩; have HST := Lib.hid hst.spun; have HO2 := Lib.hid (HO.out.spun_ hst.spun (Nat.lt_succ_self _)); have HV : Hid (I64 v) := Lib.hid (I64.small (by omega)); have HVV := Lib.hid (And.intro hv0 hv1); have hs3 : g + 1 ≤ w3.heap.size := (by have := hst.grown.size; omega); have hs3' : wr.heap.size ≤ w3.heap.size := hst.grown.size; clear hst)
        | (at_builtin; refine wpList_appI1 w3 rfl (.tmp 30) (.tmp 33) rfl _ rfl rfl HO2.out HV.out hk9 hs3 ?_; intro A5 c5 w5 kk; have K1 := Lib.hid kk.own; have K2 := Lib.hid kk.below; clear kk))
      go_roundw
      case rel =>
        have hjn : ∃ j' : Nat, (j : Int) - 1 = j' ∧ j' + (k + 1) ≤ 4 := ⟨j - 1, by omega, by omega⟩
        obtain ⟨j', e1, e2⟩ := hjn
        refine ⟨j', k + 1, A5, c5, own ++ [v], e2, by rw [← e1], rfl, K1.out, ?_, ?_, (fun h => by omega), ?_⟩
        · obtain ⟨x, hx⟩ := HST.out.box; exact ⟨x, hx.below2 K2.out (Nat.lt_succ_self _)⟩
        · intro x hx
          rcases List.mem_append.1 hx with hx | hx
          · exact HIN.out x hx
          · simp at hx; subst hx; have := HVV.out; omega
        · exact (HB.out.trans (HST.out.below hgw hszr)).trans (K2.out.mono (by omega))
      case measure => simp [intOf]; omega
    · obtain rfl : j = 0 := by omega
      have hcap := HO.out.capB
      have HOL := Lib.hid HO.out.len
      go_wp2_with fail
      refine (any_any g 1 9 wr HBX.out (by omega) (by omega) (by omega) (by omega)).mono ?_; rintro e w3 ⟨n, rfl, hn0, hn1, hst⟩
      have HO3 := Lib.hid (HO.out.spun_ hst.spun (Nat.lt_succ_self _))
      have HBX3 := Lib.hid hst.box
      have HB3 := Lib.hid (HB.out.trans (hst.spun.below hgw hszr))
      have hs3 : g + 1 ≤ w3.heap.size := by have := hst.grown.size; omega
      have hs3' : wr.heap.size ≤ w3.heap.size := hst.grown.size
      clear hst HO HBX HB
      have hn9 : n ≤ 9 := by omega
      obtain ⟨mn, hmn⟩ : ∃ mn : Int, min 5 n = mn := ⟨_, rfl⟩
      have hm1 : 1 ≤ mn ∧ mn ≤ 5 := by omega
      go_wp2_with fail
      refine (any_any g 1 mn w3 HBX3.out (by omega) (by omega) (by omega) (by omega)).mono ?_; rintro e w5 ⟨dv, rfl, hd0, hd1, hst⟩
      have HO5 := Lib.hid (HO3.out.spun_ hst.spun (Nat.lt_succ_self _))
      have HB5 := Lib.hid (HB3.out.trans (hst.spun.below hgw (Nat.le_trans hszr hs3')))
      have hk1 : 0 < k := by
        rcases Nat.eq_zero_or_pos k with h9 | h9
        · exact absurd (hkj h9) (by omega)
        · exact h9
      have hdm : dv ≤ mn := by omega
      have hdn : 1 ≤ dv ∧ dv ≤ min 6 n := by omega
      obtain ⟨dn, rfl⟩ : ∃ dn : Nat, dv = dn := ⟨dv.toNat, by omega⟩
      clear hst HO3 HBX3 HB3
      have HL9 : Hid (∀ x ∈ own, 1 ≤ x ∧ x ≤ 9) := Lib.hid (fun x hx => by have := HIN.out x hx; omega)
      have HOK : Hid (okCounts own = true) := Lib.hid (by unfold okCounts; rw [List.all_eq_true]; intro x hx; have := HL9.out x hx; simp; omega)
      have HFC := Lib.hid (fairC_ok (l := own) (by rw [HOL.out]; exact hk1) (by rw [HOL.out]; omega) HOK.out (by omega) hdn)
      go_wp2_with fail
      refine (fairP_any Ao k co own n dn w5 HO5.out.rd (I64.small (by omega)) (I64.small (by omega))).mono ?_; rintro e w6 ⟨A6, c6, rfl, h6, b6⟩
      obtain ⟨x, hx⟩ : ∃ x, fairE own n dn = x := ⟨_, rfl⟩
      rw [hx] at h6 ⊢
      have HXE := Lib.hid hx
      have H6 := Lib.hid h6.rd
      have HO6 := Lib.hid (HO5.out.below b6)
      have HB6 := Lib.hid (HB5.out.trans (b6.mono HB5.out.size))
      clear hx h6 b6 HO5 HB5
      obtain ⟨nn, rfl⟩ : ∃ nn : Nat, n = nn := ⟨n.toNat, by omega⟩
      go_wp2_with fail
      refine (rcounts_any own Ao k co nn w6 HO6.out.rd hcap HL9.out (by omega) (by omega) (by omega)).mono ?_; rintro e w7 ⟨B, cc, rfl, hon, b7⟩
      obtain ⟨L, hL⟩ : ∃ L, countsL own nn = L := ⟨_, rfl⟩
      rw [hL] at hon ⊢
      have HLL := Lib.hid hL
      have HRD := Lib.hid hon.l.rd
      have H7 := Lib.hid (H6.out.below b7)
      have HB7 := Lib.hid (HB6.out.trans (b7.mono HB6.out.size))
      have hLb : L.length ≤ 1000000 := by
        have h1 := countsL_nine own nn (fun y hy => (HL9.out y hy).2)
        have h2 : 9 ^ own.length ≤ 9 ^ 6 := Nat.pow_le_pow_right (by decide) (by rw [HOL.out]; omega)
        have h3 : 9 ^ 6 ≤ 1000000 := by decide
        rw [← hL]
        omega
      have HSH : Hid (∀ t ∈ L, shapedC t dn = 0 ∧ t.length = k ∧ sumI t = nn) := Lib.hid (fun t ht => by
        rw [← hL] at ht
        obtain ⟨h1, h2, _⟩ := countsL_mem own nn (by omega) t ht
        have h3 := HOL.out
        exact ⟨(Now.of_counts (by omega) HL9.out ht).shaped (by omega) (by omega) (by omega) (by omega) (by omega), by omega, h2⟩)
      clear hon b7 H6 HB6 HO6 hL
      by_cases hL0 : L.length = 0
      · have HX7 : Hid (x = ([], 0, 0, 7)) := Lib.hid (by
          rw [← HXE.out]
          unfold fairE
          rw [if_neg (by rw [HFC.out]; simp), Int.toNat_natCast, HLL.out, List.eq_nil_of_length_eq_zero hL0]
          rfl)
        rw [HX7.out]
        rw [hL0]
        clear hL0
        go_wp2_with fail
        refine (awake5_any w7).mono ?_; rintro e w8 ⟨rfl, hb8⟩
        have HBF := Lib.hid (HB7.out.trans (hb8.mono HB7.out.size))
        clear hb8
        go_wp2
        go_ret
        exact ⟨rfl, HBF.out⟩
      · have gL0 : ((L.length : Int) == 0) = false := beq_false_of_ne (by omega)
        have hL1 : 0 < L.length := by omega
        obtain ⟨p, s, hs, hp, hg, hw, hmin, hfst⟩ := fair_best dn L (fun c hc => by
          have := (HSH.out c hc).2.1
          intro e
          rw [e] at this
          simp at this; omega) L.length hL1 (Nat.le_refl _)
        rw [List.take_length] at hs
        have hn1 : s.1 ≠ [] := by
          have := (HSH.out _ (List.mem_of_getElem? hg)).2.1
          intro e
          rw [e] at this
          simp at this; omega
        have HX8 : Hid (x = (s.1, s.2, fallN nn dn, 0)) := Lib.hid (by
          rw [← HXE.out]
          unfold fairE
          rw [if_neg (by rw [HFC.out]; simp), Int.toNat_natCast, HLL.out, ← hs]
          simp only [hn1, if_false])
        rw [HX8.out] at H7 ⊢
        simp only at H7 ⊢
        obtain ⟨ct, ws⟩ := s
        simp only at hg hw hmin hfst H7 ⊢
        have HG := Lib.hid hg
        have HW := Lib.hid hw
        have HMIN : Hid (∀ i t, L[i]? = some t → ws ≤ mostW t dn) := Lib.hid (fun i t h => hmin i t (by have := (List.getElem?_eq_some_iff.1 h).1; omega) h)
        have HFST := Lib.hid hfst
        clear hs hn1 hg hw hmin hfst hL0 HX8 HXE HLL
        go_wp2_with fail
        go_loopw [13, 14, 15] (fun b f i wr => ∃ j : Nat, j ≤ L.length ∧ i = .int .i64 j ∧ b = .bool (decide (j ≤ p)) ∧ f = .bool (decide (p < j)) ∧ RdL wr B L.length L ∧ RdI wr A6 ct.length ct ∧ Below w.heap.size w wr) (fun _ _ i _ => L.length - (intOf i).toNat)
        case atStart => exact ⟨0, by omega, rfl, by simp, by simp, HRD.out, H7.out, HB7.out⟩
        case round =>
          obtain ⟨j, hj, rfl, rfl, rfl, hrl, hrc, hbw⟩ := hrel
          have HRL := Lib.hid hrl
          have HRC := Lib.hid hrc
          have HBW := Lib.hid hbw
          have hsz := hbw.size
          clear hrl hrc hbw
          by_cases hjl : j < L.length
          · obtain ⟨bd, B4, m4, d4, l4, rfl, hbl, hl4, hr4, hc4⟩ := HRL.out.at_ hjl
            have HR4 := Lib.hid hr4
            have hsh := (HSH.out l4 (List.mem_of_getElem? hl4.out)).1
            have HGE := Lib.hid (guessE_ok hsh)
            have hn4 : ws ≤ mostW l4 dn := HMIN.out j l4 hl4.out
            have hcase : (j < p ∧ (l4 == ct) = false ∧ ws < mostW l4 dn) ∨ (j = p ∧ (l4 == ct) = true ∧ mostW l4 dn = ws) ∨ (p < j ∧ (l4 == ct) = true ∧ mostW l4 dn = ws) ∨ (p < j ∧ (l4 == ct) = false ∧ ws ≤ mostW l4 dn) := by
              rcases Nat.lt_trichotomy j p with h | h | h
              · have h1 := HFST.out j l4 h hl4.out
                refine .inl ⟨h, ?_, h1⟩
                cases e : l4 == ct with
                | false => rfl
                | true =>
                  rw [beq_iff_eq] at e
                  rw [e, ← HW.out] at h1
                  omega
              · subst h
                have e := hl4.out
                rw [HG.out] at e
                injection e with e
                refine .inr (.inl ⟨rfl, by rw [e, beq_self_eq_true], by rw [← e, HW.out]⟩)
              · cases e : l4 == ct with
                | false => exact .inr (.inr (.inr ⟨h, rfl, hn4⟩))
                | true =>
                  rw [beq_iff_eq] at e
                  exact .inr (.inr (.inl ⟨h, rfl, by rw [e, HW.out]⟩))
            obtain ⟨mv, hmv⟩ : ∃ mv, mostW l4 dn = mv := ⟨_, rfl⟩
            rw [hmv] at hcase
            have HMV := Lib.hid hmv
            have HMV2 : Hid ((bestTo l4 dn (countR dn).toNat).2 = mv) := Lib.hid hmv
            have hjI : (j : Int) < L.length := by omega
            clear hr4 hsh hn4 hmv
            go_wp2_with fail
            refine (guessP_any B4 m4 d4 l4 dn wr HR4.out (I64.small (by omega))).mono ?_; rintro e w8 ⟨A8, c8, rfl, h8, b8⟩
            rw [HGE.out]
            simp only
            rw [HMV2.out]
            have HR48 := Lib.hid (HR4.out.below b8)
            have HRL8 := Lib.hid (HRL.out.below b8)
            have HRC8 := Lib.hid (HRC.out.below b8)
            have HBW8 := Lib.hid (HBW.out.trans (b8.mono HBW.out.size))
            have hc8 := (b8.cell (p := bd.add j) (by rw [block_of_add]; exact hbl)).trans hc4
            clear h8 b8 hc4 HR4 HRL HRC HBW HGE HMV2
            go_wp2_with fail
            refine (eq_any B4 A6 m4 ct.length d4 c6 l4 ct w8 HR48.out HRC8.out).mono ?_; rintro e w' ⟨rfl, d1, rfl⟩
            have HRL9 := Lib.hid (HRL8.out.drewN d1)
            have HRC9 := Lib.hid (HRC8.out.drewN d1)
            have HBW9 := Lib.hid (below_drewN HBW8.out d1)
            clear HR48 HRL8 HRC8 HBW8 hc8
            generalize w8.drewN d1 = w9 at HRL9 HRC9 HBW9 ⊢
            rcases hcase with ⟨h1, h2, h3⟩ | ⟨h1, h2, h3⟩ | ⟨h1, h2, h3⟩ | ⟨h1, h2, h3⟩
            · have k1 : decide (j ≤ p) = true := decide_eq_true (by omega)
              have k2 : decide (p < j) = false := decide_eq_false (by omega)
              have g3 : (mv == ws) = false := beq_false_of_ne (by omega)
              have K3 : Hid (decide (j + 1 ≤ p) = true) := Lib.hid (decide_eq_true (by omega))
              have K4 : Hid (decide (p < j + 1) = false) := Lib.hid (decide_eq_false (by omega))
              rw [h2, k1, k2]
              clear h2 k1 k2
              go_wp2
              go_roundw
              case rel => exact ⟨j + 1, by omega, by go_num, by rw [K3.out], by rw [K4.out], HRL9.out, HRC9.out, HBW9.out⟩
              case measure => simp [intOf]; omega
            · have k1 : decide (j ≤ p) = true := decide_eq_true (by omega)
              have k2 : decide (p < j) = false := decide_eq_false (by omega)
              have K3 : Hid (decide (j + 1 ≤ p) = false) := Lib.hid (decide_eq_false (by omega))
              have K4 : Hid (decide (p < j + 1) = true) := Lib.hid (decide_eq_true (by omega))
              rw [h2, k1, k2]
              clear h2 k1 k2
              clear HMV
              subst h3
              go_wp2
              go_roundw
              case rel => exact ⟨j + 1, by omega, by go_num, by rw [K3.out], by rw [K4.out], HRL9.out, HRC9.out, HBW9.out⟩
              case measure => simp [intOf]; omega
            · have k1 : decide (j ≤ p) = false := decide_eq_false (by omega)
              have k2 : decide (p < j) = true := decide_eq_true (by omega)
              have K3 : Hid (decide (j + 1 ≤ p) = false) := Lib.hid (decide_eq_false (by omega))
              have K4 : Hid (decide (p < j + 1) = true) := Lib.hid (decide_eq_true (by omega))
              rw [h2, k1, k2]
              clear h2 k1 k2
              clear HMV
              subst h3
              go_wp2
              go_roundw
              case rel => exact ⟨j + 1, by omega, by go_num, by rw [K3.out], by rw [K4.out], HRL9.out, HRC9.out, HBW9.out⟩
              case measure => simp [intOf]; omega
            · have k1 : decide (j ≤ p) = false := decide_eq_false (by omega)
              have k2 : decide (p < j) = true := decide_eq_true (by omega)
              have K3 : Hid (decide (j + 1 ≤ p) = false) := Lib.hid (decide_eq_false (by omega))
              have K4 : Hid (decide (p < j + 1) = true) := Lib.hid (decide_eq_true (by omega))
              rw [h2, k1, k2]
              clear h2 k1 k2
              go_wp2
              go_roundw
              case rel => exact ⟨j + 1, by omega, by go_num, by rw [K3.out], by rw [K4.out], HRL9.out, HRC9.out, HBW9.out⟩
              case measure => simp [intOf]; omega
          · obtain ⟨bd, B4, m4, d4, l4, rfl, hbl, hl4, hr4, hc4⟩ := HRL.out.at_ hL1
            have HR4 := Lib.hid hr4
            have hsh := HSH.out l4 (List.mem_of_getElem? hl4.out)
            have k1 : decide (j ≤ p) = false := decide_eq_false (by omega)
            have k2 : decide (p < j) = true := decide_eq_true (by omega)
            rw [k1, k2]
            have HWE : Hid (waysE l4 dn = (fallN nn dn, 0)) := Lib.hid (by
              have hz : chkS l4 dn = 0 := by
                have := hsh.1
                unfold shapedC at this
                by_cases e : chkS l4 dn = 0
                · exact e
                · rw [if_pos e] at this; exact this
              unfold waysE
              rw [if_neg (by omega), hsh.2.2, Int.toNat_natCast])
            clear hr4 hsh k1 k2
            rw [show bd.add 0 = bd from rfl] at hc4
            go_wp2_with fail
            refine (ways_any B4 m4 d4 l4 dn wr HR4.out (I64.small (by omega))).mono ?_; rintro e w8 ⟨rfl, b8⟩
            rw [HWE.out]
            have HBW8 := Lib.hid (HBW.out.trans (b8.mono HBW.out.size))
            clear b8 HBW hc4
            generalize fallN nn dn = T
            go_wp2_with fail
            refine (awake5_any w8).mono ?_; rintro e w9 ⟨rfl, b9⟩
            have HBF := Lib.hid (HBW8.out.trans (b9.mono HBW8.out.size))
            clear b9
            go_wp2
            go_ret
            exact ⟨rfl, HBF.out⟩
end Go.Proofs.Ytcmacejpoihhlaa
