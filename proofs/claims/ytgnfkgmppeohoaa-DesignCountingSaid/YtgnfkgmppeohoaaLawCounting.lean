/- Walk: the statement DesignCounting. -/
import Derived.Test.YtgnfkgmppeohoaaAwake5
import Derived.Test.YtgnfkgmppeohoaaCrsW
import Derived.Test.YtgnfkgmppeohoaaNexts
namespace Go.Proofs.Ytgnfkgmppeohoaa
open Go.RowKit
theorem OwnI.capN {w : World} {base n c : Nat} {e : TypeId} {A : Option Addr} {l : List Int} (h : OwnI w base e A n c l) : n ≤ c := by
  rcases h.1.1.2 with ⟨h1, h2⟩ | ⟨g, cap, cur, h1, _, _, hnc, _⟩
  · injection h1 with h1 h3 h4; omega
  · injection h1 with h1 h3 h4; omega

set_option maxHeartbeats 4000000 in
set_option maxRecDepth 100000 in
theorem designCounting_any (A0 : Option Addr) (n0 c0 : Nat) (nums : List Int) (w : World) (h : RdI w A0 n0 nums) : Calls Try.prog 13 #[.slice A0 n0 c0] w fun e w' => e = .returned (.bool true) ∧ Below w.heap.size w w' := by
  go_enter Try.func13, Try.ntmps13
  go_wp2_with fail
  refine (boxOf_any A0 n0 c0 nums w h).mono ?_; rintro e w1 ⟨g, rfl, hg, hbox, hb1⟩
  have HBX := Lib.hid hbox
  have HB1 := Lib.hid hb1
  have hgl := hbox.lt
  clear hbox hb1 h
  go_wp2_with fail
  refine (stockOf_any g 4 4 9 w1 HBX.out (by omega) (by omega) (by omega) (by omega) (by omega) (by omega)).mono ?_; rintro e w2 ⟨A, n, c, l, d, rfl, hbd, h4, hown, hsp⟩
  have HSP := Lib.hid hsp
  have HO := Lib.hid hown
  have H4 := Lib.hid h4
  have HBD := Lib.hid hbd
  have hn4 : n ≤ 4 := hbd.2.1
  have hn1 : 1 ≤ n := hbd.1
  have hd9 : d ≤ 9 := hbd.2.2.2.1
  have hd1 : 1 ≤ d := hbd.2.2.1
  have HZ : Hid (chkS l d = 0) := Lib.hid (by
    have hl := hown.len
    have hok : okCounts l = true := by unfold okCounts; rw [List.all_eq_true]; intro x hx; have := h4 x hx; simp; omega
    rw [chkS_good (by omega) (by omega) hok, if_pos (by omega)])
  clear hown hsp h4 hbd
  go_upto_region 3 with fail
  have HBX2 := Lib.hid (HSP.out.box.alloc (.cells #[.slice A n c, .int .i64 d] 24))
  have HR2 := Lib.hid (HO.out.rd.alloc (.cells #[.slice A n c, .int .i64 d] 24))
  have HX2 := Lib.hid (Blk.new w2 24 #[.slice A n c, .int .i64 d])
  have HB2 := Lib.hid (HB1.out.trans (((HSP.out.below hg HB1.out.size)).alloc (Nat.le_trans HB1.out.size HSP.out.grown.size) (.cells #[.slice A n c, .int .i64 d] 24)))
  have HAG : Hid (∀ b, A.map (·.block) = some b → b ≠ g) := Lib.hid (fun b hb => by have := (HO.out.1.block hb).1; omega)
  obtain ⟨q, hq⟩ : ∃ q, w2.heap.size = q := ⟨_, rfl⟩
  have hgq : g < q := by rw [← hq]; have := HSP.out.grown.size; omega
  have hqw : w.heap.size ≤ q := by omega
  rw [hq] at HX2 ⊢
  generalize w2.alloc (.cells #[.slice A n c, .int .i64 d] 24) = W2 at HBX2 HR2 HX2 HB2 ⊢
  clear HSP HO HBX HB1 hq
  have c0 : W2.cell? ⟨q, 0, none⟩ = some (.slice A n c) := by rw [HX2.out.cell]; rfl
  have c1 : W2.cell? ⟨q, 1, none⟩ = some (.int .i64 d) := by rw [HX2.out.cell]; rfl
  go_wp2_with fail
  refine (courseOf_any g A n c l d W2 HBX2.out HR2.out HAG.out (by omega) (fun x hx => by have := H4.out x hx; omega) HBD.out.2.2.2.2).mono ?_; rintro e w3 ⟨B, cb, L, rfl, hco, hown, hsp⟩
  have HC := Lib.hid hco
  have HL3 := Lib.hid hown
  have hqw2 := HX2.out.lt
  have HR3 := Lib.hid (HR2.out.spun hsp HAG.out)
  have HX3 : Hid (Blk w3 q 24 #[.slice A n c, .int .i64 d]) := Lib.hid (HX2.out.grown hsp.grown (fun e => by injection e with e; omega))
  have HB3 := Lib.hid (HB2.out.trans (hsp.below hg HB2.out.size))
  have c0 : w3.cell? ⟨q, 0, none⟩ = some (.slice A n c) := by rw [HX3.out.cell]; rfl
  have c1 : w3.cell? ⟨q, 1, none⟩ = some (.int .i64 d) := by rw [HX3.out.cell]; rfl
  clear hco hown hsp HBX2 HR2 HX2 HB2
  go_wp2_with fail
  refine (counted_any A n c l d w3 HR3.out (I64.small (by omega))).mono ?_; rintro e w4 ⟨rfl, hb⟩
  rw [countedE_ok HZ.out]
  have HL4 := Lib.hid (HL3.out.below hb)
  have HR4 := Lib.hid (HR3.out.below hb)
  have HX4 := Lib.hid (HX3.out.below hb)
  have HB4 := Lib.hid (HB3.out.trans (hb.mono HB3.out.size))
  have c0 : w4.cell? ⟨q, 0, none⟩ = some (.slice A n c) := by rw [HX4.out.cell]; rfl
  clear hb HL3 HR3 HX3 HB3 c1
  go_wp2_with fail
  refine (ints_any A n c l w4 HR4.out (by omega)).mono ?_; rintro e w5 ⟨Al, cl, rfl, hown, hb⟩
  have HLL := Lib.hid HR4.out.len
  rw [HLL.out] at hown ⊢
  have HLF := Lib.hid hown
  have hBcap := HL4.out.capN
  have HCR := Lib.hid (HL4.out.rd.below hb)
  have HR5 := Lib.hid (HR4.out.below hb)
  have HX5 := Lib.hid (HX4.out.below hb)
  have HB5 := Lib.hid (HB4.out.trans (hb.mono HB4.out.size))
  have hq4 := HX4.out.lt
  have h45 := hb.size
  have HCB : Hid (∀ b, B.map (·.block) = some b → b < w4.heap.size) := Lib.hid (fun b e => (HL4.out.1.block e).2)
  have HAB : Hid (∀ b, A.map (·.block) = some b → b < w4.heap.size) := Lib.hid (fun b e => HR4.out.block (by omega) e)
  clear hown hb HL4 HR4 HX4 c0
  obtain ⟨M, hM⟩ : ∃ M, mostN l d = M := ⟨_, rfl⟩
  obtain ⟨V, hV⟩ : ∃ V, cntV M d = V := ⟨_, rfl⟩
  have HM := Lib.hid hM
  have HV := Lib.hid hV
  have hmb := mostN_bd HZ.out
  rw [hM] at hmb ⊢
  rw [hV]
  have hM0 : 0 ≤ M := hmb.1
  have hM9 : M ≤ 9 := by omega
  clear hM hV hmb
  obtain ⟨p, hp⟩ : ∃ p, w4.heap.size = p := ⟨_, rfl⟩
  rw [hp] at HLF hq4 h45 HCB HAB
  clear hp
  go_wp2_with fail
  go_loopw [10] (fun i wr => ∃ j : Nat, j ≤ d + 1 ∧ i = .int .i64 j ∧ OwnI wr p 3 Al n cl (leftTo l L j) ∧ RdI wr B d L ∧ RdI wr A n l ∧ Blk wr q 24 #[.slice A n c, .int .i64 d] ∧ Below w.heap.size w wr) (fun i _ => d + 1 - (intOf i).toNat)
  case atStart => exact ⟨0, by omega, rfl, HLF.out, HCR.out, HR5.out, HX5.out, HB5.out⟩
  case round =>
    obtain ⟨i, hi, rfl, hlf, hcr, hra, hxs, hbw⟩ := hrel
    have HO := Lib.hid hlf
    have HCI := Lib.hid hcr
    have HRA := Lib.hid hra
    have HXS := Lib.hid hxs
    have HBW := Lib.hid hbw
    have k0 : wr.cell? ⟨q, 0, none⟩ = some (.slice A n c) := by rw [hxs.cell]; rfl
    have k1 : wr.cell? ⟨q, 1, none⟩ = some (.int .i64 d) := by rw [hxs.cell]; rfl
    have hqr := hxs.lt
    clear hlf hcr hra hxs hbw HLF HCR HR5 HX5 HB5
    by_cases hid : i ≤ d
    · obtain ⟨K, S, T, hcr⟩ := count_round HZ.out HC.out hid
      have HCRD := Lib.hid hcr
      have hS := hcr.most
      rw [HM.out] at hS
      have hicap : (i : Int) ≤ cb := by omega
      have hidI : (i : Int) ≤ d := by omega
      have hi0 : (0 : Int) ≤ i := by omega
      have HTK := Lib.hid (HCI.out.take_ hid)
      have hKT : K.length = T n := by rw [← HLL.out]; exact hcr.tn.symm
      have hKn : K.length ≤ n := by rw [hKT]; exact hcr.tl n
      have HKT := Lib.hid hKT
      clear hcr hKT
      go_wp2_with fail
      go_region_held3 (fun w' => w'.cell? ⟨q, 0, none⟩ = some (.slice A n c) ∧ w'.cell? ⟨q, 1, none⟩ = some (.int .i64 d)) (first | exact ⟨k0, k1⟩ | exact ⟨m0, m1⟩) (first
        | (go_at_call 55; refine (rest_any A B n c i cb l (L.take i) d wr.drew HRA.out.drew HTK.out.drew (I64.small (by omega))).mono ?_; rintro e w6 ⟨A6, c6, rfl, ho6, hb6⟩; rw [HCRD.out.ans] at ho6 ⊢; have m0 := (hb6.cell (p := ⟨q, 0, none⟩) hqr).trans k0; have m1 := (hb6.cell (p := ⟨q, 1, none⟩) hqr).trans k1))
      have HO6 := Lib.hid (HO.out.drew.below hb6)
      have HCI6 := Lib.hid (HCI.out.drew.below hb6)
      have HRA6 := Lib.hid (HRA.out.drew.below hb6)
      have HXS6 := Lib.hid (HXS.out.drew.below hb6)
      have HBW6 := Lib.hid (HBW.out.trans (((Below.refl _ wr).drew.trans hb6).mono HBW.out.size))
      have HK6 := Lib.hid ho6.rd
      clear hb6 ho6 HO HCI HRA HXS HBW HTK k0 k1
      have hSM : S ≤ M := hS.2
      have hS0 : 0 ≤ S := hS.1
      clear hS
      go_wp2_with fail
      go_loop [14, 15] (fun s k => ∃ j : Nat, j ≤ n ∧ k = .int .i64 j ∧ s = .int .i64 (T j)) (fun _ k => n - (intOf k).toNat)
      case atStart => exact ⟨0, by omega, rfl, by rw [HCRD.out.t0]; rfl⟩
      case round =>
        obtain ⟨j, hj, rfl, rfl⟩ := hrel
        have hTj := HCRD.out.tl j
        by_cases hjn : j < n
        · obtain ⟨ad, v, rfl, _, hv, hv64, hcell⟩ := HO6.out.rd.at_ hjn
          have HTS := Lib.hid (HCRD.out.ts j v hv.out)
          have HHS := Lib.hid (show hasB K j = _ from HCRD.out.has j v hv.out)
          by_cases hv0 : 0 < v
          · by_cases hid2 : i < d
            · rw [if_pos ⟨hv0, hid2⟩] at HTS
              rw [decide_eq_true hv0, decide_eq_true hid2] at HHS
              have hidI2 : (i : Int) < d := by omega
              have hTn : T j + 1 ≤ n := by omega
              generalize T j = tj at hTj HTS hTn ⊢
              go_wp2_with fail
              refine (has_any A6 K.length c6 K j w6 HK6.out).mono ?_; rintro e w' ⟨rfl, rfl⟩
              rw [HHS.out]
              go_wp2
              go_round
              case rel => exact ⟨j + 1, by omega, by go_num, by rw [HTS.out]; go_num⟩
              case measure => simp [intOf]; omega
            · rw [if_neg (by omega)] at HTS
              rw [decide_eq_true hv0, decide_eq_false hid2] at HHS
              have hidI2 : (d : Int) ≤ i := by omega
              generalize T j = tj at hTj HTS ⊢
              clear hid2
              go_wp2_with fail
              refine (has_any A6 K.length c6 K j w6 HK6.out).mono ?_; rintro e w' ⟨rfl, rfl⟩
              rw [HHS.out]
              go_wp2
              go_round
              case rel => exact ⟨j + 1, by omega, by go_num, by rw [HTS.out]⟩
              case measure => simp [intOf]; omega
          · rw [if_neg (by omega)] at HTS
            rw [decide_eq_false hv0] at HHS
            have hv00 : v ≤ 0 := by omega
            generalize T j = tj at hTj HTS ⊢
            clear hv0
            go_wp2_with fail
            refine (has_any A6 K.length c6 K j w6 HK6.out).mono ?_; rintro e w' ⟨rfl, rfl⟩
            rw [HHS.out]
            go_wp2
            go_round
            case rel => exact ⟨j + 1, by omega, by go_num, by rw [HTS.out]⟩
            case measure => simp [intOf]; omega
        · obtain rfl : j = n := by omega
          have HS : Hid (S = if T j = 1 then (d : Int) - i else 0) := Lib.hid (by rw [← HLL.out]; exact HCRD.out.sure)
          obtain ⟨y, hy⟩ : ∃ y, (V == 1) = y := ⟨_, rfl⟩
          have HST : Hid (i = 0 → (S == (d : Int)) = y) := Lib.hid (fun h0 => by rw [← hy, ← HV.out, ← HM.out]; exact (HCRD.out.start h0).symm)
          have k0 : w6.cell? ⟨q, 0, none⟩ = some (.slice A j c) := by rw [HXS6.out.cell]; rfl
          have k1 : w6.cell? ⟨q, 1, none⟩ = some (.int .i64 d) := by rw [HXS6.out.cell]; rfl
          rw [HKT.out]
          generalize hTt : T j = t at HS hTj ⊢
          clear hTt
          have hcases : (t = 1 ∧ S = (d : Int) - i) ∨ (t ≠ 1 ∧ S = 0) := by
            have := HS.out
            by_cases h1 : t = 1
            · rw [if_pos h1] at this; exact .inl ⟨h1, this⟩
            · rw [if_neg h1] at this; exact .inr ⟨h1, this⟩
          have hc2 : (i ≠ 0) ∨ (i = 0 ∧ (V == 1) = true ∧ (S == (d : Int)) = true) ∨ (i = 0 ∧ (V == 1) = false ∧ (S == (d : Int)) = false) := by
            by_cases h0 : i = 0
            · have := HST.out h0
              cases y
              · exact .inr (.inr ⟨h0, hy, this⟩)
              · exact .inr (.inl ⟨h0, hy, this⟩)
            · exact .inl h0
          clear hy HST HS
          have gt : ((t : Int) == 1) = decide (t = 1) := by rw [Bool.eq_iff_iff]; simp; omega
          have gi : ((i : Int) == 0) = decide (i = 0) := by rw [Bool.eq_iff_iff]; simp
          have HNX : Hid (i < d → ∃ (bd ga : Nat) (o : Nat) (x : Int) (b0 : Addr), B = some b0 ∧ Al = some ⟨ga, 0, none⟩ ∧ w6.cell? (b0.add i) = some (.int .i64 o) ∧ o < j ∧ w6.cell? ⟨ga, o, none⟩ = some (.int .i64 x) ∧ w6.frozen? ⟨ga, o, none⟩ = false ∧ 0 ≤ x ∧ x ≤ 9 ∧ p ≤ ga ∧ leftTo l L (i + 1) = (leftTo l L i).set o (x - 1)) := Lib.hid (fun hid2 => by
            obtain ⟨b0, o, e1, _, ho, _, hco⟩ := HCI6.out.at_ hid2
            have hom := HC.out.mem o (List.mem_of_getElem? ho.out)
            rw [HLL.out] at hom
            obtain ⟨o, rfl⟩ : ∃ o' : Nat, o = o' := ⟨o.toNat, by omega⟩
            obtain ⟨ga, e2, hga, _⟩ := HO6.out.form (by omega)
            have hln : (leftTo l L i).length = j := by rw [leftTo_len]; exact HLL.out
            obtain ⟨x, hx⟩ : ∃ x, (leftTo l L i)[o]? = some x := ⟨_, get_getD (by rw [hln]; omega)⟩
            have h9 : ∀ v ∈ l, 0 ≤ v := fun v hv => by have := H4.out v hv; omega
            have hx0 := left_course h9 HC.out i x (List.mem_of_getElem? hx)
            have hx9 : x ≤ 9 := by
              have h1 := left_le (c := l) (L := L) (i := i) o (by rw [HLL.out]; omega)
              rw [getD_of_get hx] at h1
              have h2 := H4.out _ (getD_mem (l := l) (i := o) (by rw [HLL.out]; omega))
              omega
            refine ⟨0, ga, o, x, b0, e1, e2, hco, by omega, ?_, ?_, hx0, hx9, hga, ?_⟩
            · have := HO6.out; rw [e2] at this; exact this.cellAt hx
            · have := HO6.out; rw [e2] at this; exact this.frozenAt o
            · rw [leftTo_succ ho.out]; unfold restStep; rw [Int.toNat_natCast, getD_of_get hx])
          rcases hcases with ⟨ht, rfl⟩ | ⟨ht, rfl⟩ <;> rcases hc2 with h0 | ⟨h0, hv1, hs1⟩ | ⟨h0, hv1, hs1⟩
          all_goals
            first | rw [decide_eq_true ht] at gt | rw [decide_eq_false ht] at gt
            first | rw [decide_eq_true h0] at gi | rw [decide_eq_false h0] at gi
            clear ht h0
            go_upto_region 28 with fail
            by_cases hid2 : i < d
            · obtain ⟨_, ga, o, x, b0, rfl, rfl, hc1, hoj, hc2, hf2, hx0, hx9, hga, hnx⟩ := HNX.out hid2
              have HN := Lib.hid hnx
              have hidI2 : (i : Int) < d := by omega
              have hojI : (o : Int) < j := by omega
              have HB0 := Lib.hid (HCB.out b0.block rfl)
              have HFI : Hid (∀ u, I64 u → OwnI (w6.setCell ⟨ga, o, none⟩ (.int .i64 u)) p 3 (some ⟨ga, 0, none⟩) j cl ((leftTo l L i).set o u) ∧ RdI (w6.setCell ⟨ga, o, none⟩ (.int .i64 u)) (some b0) d L ∧ RdI (w6.setCell ⟨ga, o, none⟩ (.int .i64 u)) A j l ∧ Blk (w6.setCell ⟨ga, o, none⟩ (.int .i64 u)) q 24 #[.slice A j c, .int .i64 d] ∧ Below w.heap.size w (w6.setCell ⟨ga, o, none⟩ (.int .i64 u))) := Lib.hid (fun u hu =>
                ⟨HO6.out.stored o hu, HCI6.out.setCell (p := ⟨ga, o, none⟩) (fun e => by have h : b0.block = ga := (by injection e); have := HB0.out; omega) _, HRA6.out.setCell (p := ⟨ga, o, none⟩) (fun e => by have h : ga < p := HAB.out _ e; omega) _, HXS6.out.far (p := ⟨ga, o, none⟩) (by show q ≠ ga; omega) _, HBW6.out.setCell (p := ⟨ga, o, none⟩) (by show w.heap.size ≤ ga; omega) _⟩)
              clear hnx hid2 HNX
              go_wp2
              go_roundw
              case rel =>
                obtain ⟨r1, r2, r3, r4, r5⟩ := HFI.out (x - 1) (I64.small (by omega))
                exact ⟨i + 1, by omega, by go_num, by rw [HN.out]; exact r1, r2, r3, r4, r5⟩
              case measure => simp [intOf]; omega
            · have hidI2 : (d : Int) ≤ i := by omega
              have HN : Hid (leftTo l L (i + 1) = leftTo l L i) := Lib.hid (by
                unfold leftTo
                rw [List.take_of_length_le (by rw [HC.out.len]; omega), List.take_of_length_le (by rw [HC.out.len]; omega)])
              clear hid2 HNX
              go_wp2
              go_roundw
              case rel => exact ⟨i + 1, by omega, by go_num, by rw [HN.out]; exact HO6.out, HCI6.out, HRA6.out, HXS6.out, HBW6.out⟩
              case measure => simp [intOf]; omega
    · have hgt : (d : Int) < i := by omega
      have hV2 : (V == 2) = (M == 0) := by rw [← HV.out, ← HM.out]; exact cntV_two (by omega)
      obtain ⟨y, hy⟩ : ∃ y, (M == 0) = y := ⟨_, rfl⟩
      rw [hy] at hV2
      clear hid
      go_wp2_with fail
      refine (reached_any A n c l d M wr HRA.out HZ.out HM.out).mono ?_; rintro e w7 ⟨rfl, hb7⟩
      have HBW7 := Lib.hid (HBW.out.trans (hb7.mono HBW.out.size))
      clear hb7
      cases y
      all_goals
        go_wp2_with fail
        refine (awake5_any w7).mono ?_; rintro e w8 ⟨rfl, hb8⟩
        have HBW8 := Lib.hid (HBW7.out.trans (hb8.mono HBW7.out.size))
        clear hb8
        go_wp2
        go_ret
        exact ⟨rfl, HBW8.out⟩
end Go.Proofs.Ytgnfkgmppeohoaa
