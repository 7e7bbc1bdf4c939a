/- Walk: the statement ChartDraws. -/
import Derived.Test.YtooepkpgffpcjaaDoorMgS
import Derived.Test.YtooepkpgffpcjaaDoorMgQ
import Derived.Test.YtooepkpgffpcjaaDoorMgJ
import Derived.Test.YtooepkpgffpcjaaDoorMgR
namespace Go.Proofs.YtooepkpgffpcjaaDoor
open Go.RowKit

theorem str_selfD (s : ByteArray) : (s.toList == s.toList) = true := beq_self_eq_true _
theorem blk_atD (w : World) (t : TypeId) (cs : Array Value) (q : Nat) (hq : w.heap.size = q) : Blk (w.alloc (.cells cs t)) q t cs := by subst hq; exact Blk.new w t cs
theorem drawE_190 (p : List Int) : (drawE p).1.length ≤ 190 := by
  unfold drawE
  split
  · simp
  · rename_i h
    exact draw_190 (by omega)
/-- what a round reads -/
structure DrawsR (q t : Nat) (W : World) (P : Option Addr) (n c : Nat) (l : List Int) : Prop where
  a0 : W.cell? ⟨q, t, none⟩ = some (.slice P n c)
  rp : RdI W P n l
  lt : q < W.heap.size
theorem DrawsR.below {q t : Nat} {W W' : World} {P : Option Addr} {n c : Nat} {l : List Int} (h : DrawsR q t W P n c l) (hb : Below W.heap.size W W') : DrawsR q t W' P n c l :=
  ⟨(hb.cell (p := ⟨q, t, none⟩) h.lt).trans h.a0, h.rp.below hb, Nat.lt_of_lt_of_le h.lt hb.size⟩

set_option maxHeartbeats 8000000 in
set_option maxRecDepth 100000 in
theorem chartDraws_any (A : Option Addr) (n c : Nat) (text : ByteArray) (C : Option Addr) (q0 f0 : Nat) (at_ how by_ : Int) (l nums : List Int) (w : World) (h : RdI w A n l) (hnc : n ≤ c) (h3 : RdI w C q0 nums)
    (ht : text.size ≤ maxLen) (hat : I64 at_) (hhow : I64 how) (_hby : (Lit.int IntKind.u8 by_).wf = true) (hs : Signs w) :
    Calls Tryd.prog 13 #[.slice A n c, .string text, .slice C q0 f0, .int .i64 at_, .int .i64 how, .int .u8 by_] w (Held w) := by
  have hbd := h.bd
  by_cases hl1 : 40 < n
  · go_enter Tryd.func13, Tryd.ntmps13
    go_wp2_with fail
    refine (long_yes A n c w hl1 hbd).mono ?_; rintro e w' ⟨rfl, rfl⟩
    go_wp2_with fail
    refine (awake_any w hs).mono ?_; rintro e w' ⟨rfl, hb⟩
    have HB := Lib.hid hb
    clear hb
    go_wp2
    go_ret
    exact ⟨rfl, HB.out⟩
  have HSG := Lib.hid hs
  have HAT := Lib.hid hat
  have HHOW := Lib.hid hhow
  have HP := Lib.hid h
  have HC := Lib.hid h3
  have htx : text.size ≤ 9223372036854775807 := by unfold maxLen at ht; omega
  have HTX := Lib.hid htx
  clear hs hat hhow h h3 hbd ht htx
  go_enter Tryd.func13, Tryd.ntmps13
  go_wp2_with fail
  refine (long_no A n c w (by omega)).mono ?_; rintro e w' ⟨rfl, rfl⟩
  go_wp2_with fail
  refine (boxOf_any C q0 f0 nums w HC.out).mono ?_; rintro e w1 ⟨g, rfl, hg, hbox, hb1⟩
  have HBX := Lib.hid hbox
  have HB1 := Lib.hid hb1
  clear hbox hb1 HC
  go_wp2_with fail
  refine (any_any g 1 9 w1 HBX.out (by omega) (by omega) (by omega) (by omega)).mono ?_; rintro e w2 ⟨on, rfl, hn0, hn1, hst⟩
  obtain ⟨on, rfl⟩ : ∃ n' : Nat, on = n' := ⟨on.toNat, by omega⟩
  have hon9 : on ≤ 9 := by omega
  have HB2 := Lib.hid (HB1.out.trans (hst.below hg))
  have HBX2 := Lib.hid hst.box
  clear hst hn1 HB1 HBX
  go_wp2_with fail
  refine (partitionOf_any g on w2 HBX2.out (by omega) (by omega)).mono ?_; rintro e w3 ⟨O, oc, own, rfl, hck, hop, hsp⟩
  have HB3 := Lib.hid (HB2.out.trans (hsp.below hg HB2.out.size))
  have HO3 := Lib.hid hop.rd
  have hcap := hop.cap
  have HP3 := Lib.hid (HP.out.below HB3.out)
  clear hck hop hsp HB2 HBX2 hg
  obtain ⟨q, hq⟩ : ∃ q, w3.heap.size = q := ⟨_, rfl⟩
  have HQ := Lib.hid hq
  clear hq
  go_upto_region 6 with fail
  rw [HQ.out]
  have hV0q : (w3.alloc (.cells #[.slice A n c, .slice O on oc] 22)).heap.size = q + 1 := by simp [HQ.out]
  have hbl := blk_atD w3 22 #[.slice A n c, .slice O on oc] q HQ.out
  have HPV := Lib.hid (HP3.out.alloc (.cells #[.slice A n c, .slice O on oc] 22))
  have HOV := Lib.hid (HO3.out.alloc (.cells #[.slice A n c, .slice O on oc] 22))
  have HBV := Lib.hid (HB3.out.alloc HB3.out.size (.cells #[.slice A n c, .slice O on oc] 22))
  generalize w3.alloc (.cells #[.slice A n c, .slice O on oc] 22) = V0 at hV0q hbl HPV HOV HBV ⊢
  have HFT : Hid (∀ t : Nat, t < 2 → ∀ W, Below (q + 1) V0 W → ∃ P pn pc pl, DrawsR q t W P pn pc pl ∧ pn ≤ pc) := Lib.hid (by
    intro t ht W hW
    rw [← hV0q] at hW
    have rp := HPV.out.below hW
    have ro := HOV.out.below hW
    have e0 := hbl.below hW
    match t, ht with
    | 0, _ => exact ⟨A, n, c, l, ⟨by rw [e0.cell]; rfl, rp, e0.lt⟩, hnc⟩
    | 1, _ => exact ⟨O, on, oc, own, ⟨by rw [e0.cell]; rfl, ro, e0.lt⟩, hcap⟩)
  have HTV : Hid (Own (V0.alloc (.cells #[.string text] 9)) (q + 1) 9 1 (some ⟨q + 1, 0, none⟩) 1 1 (strs [text.data.toList])) := Lib.hid (by
    have := Own.lit V0 9 #[.string text] 1 (by omega) rfl (q + 1) (by omega)
    rw [hV0q] at this
    exact this)
  have HB0 : Hid (Below (q + 1) V0 (V0.alloc (.cells #[.string text] 9))) := Lib.hid ((Below.refl _ V0).alloc (by omega) _)
  have HTL : Hid (∀ S ∈ [text.data.toList], S.length ≤ 9223372036854775807) := Lib.hid (fun S hS => by
    simp at hS
    subst hS
    have := HTX.out
    simpa using this)
  have HBW : Hid (∀ W, Below (q + 1) V0 W → Below w.heap.size w W) := Lib.hid (fun W hW => HBV.out.trans (hW.mono (by have := HBV.out.size; omega)))
  clear hV0q hbl HPV HOV HBV HP3 HO3 HB3 HP HTX HQ hcap hnc
  generalize V0.alloc (.cells #[.string text] 9) = V at HTV HB0 ⊢
  go_wp2_with fail
  go_loopw [16, 17] (fun tx i wr => ∃ (k m : Nat) (T : Option Addr) (tc : Nat) (L : List (List UInt8)), k ≤ 2 ∧ i = .int .i64 k ∧ m = 2 * k + 1 ∧ tx = .slice T m tc ∧ Own wr (q + 1) 9 1 T m tc (strs L) ∧ L.length = m ∧ (∀ S ∈ L, S.length ≤ 9223372036854775807) ∧ Below (q + 1) V0 wr) (fun _ i _ => 2 - (intOf i).toNat)
  case atStart => exact ⟨0, 1, some ⟨q + 1, 0, none⟩, 1, [text.data.toList], by omega, rfl, by omega, rfl, HTV.out, rfl, HTL.out, HB0.out⟩
  case round =>
    obtain ⟨k, m, T, tc, L, hk, rfl, hm, rfl, hown, hLl, hLs, hbel⟩ := hrel
    have HOW := Lib.hid hown
    have HLL := Lib.hid hLl
    have HLS := Lib.hid hLs
    have HBE := Lib.hid hbel
    clear hown hLl hLs hbel HTV HB0 HTL
    by_cases hlt : k < 2
    · obtain ⟨P, pn, pc, pl, hR, hpc⟩ := HFT.out k hlt wr HBE.out
      have HR0 := Lib.hid hR
      clear hR
      obtain ⟨xs, hxs⟩ : ∃ z, levE pl = z := ⟨_, rfl⟩
      have HXS := Lib.hid hxs
      obtain ⟨ds, hds⟩ : ∃ z, drawE pl = z := ⟨_, rfl⟩
      have hd190 : ds.1.length ≤ 190 := by rw [← hds]; exact drawE_190 pl
      have HDS := Lib.hid hds
      clear hxs hds
      have a0 := HR0.out.a0
      go_wp2_with fail
      refine (levels_any P pn pc pl wr HR0.out.rp hpc).mono ?_; rintro e v1 ⟨Y4, y4, rfl, h4, b1⟩
      rw [HXS.out] at h4 ⊢
      have HY1 := Lib.hid h4.rd
      have HR1 := Lib.hid (HR0.out.below b1)
      have HO1 := Lib.hid (HOW.out.below b1)
      have HB1 := Lib.hid (HBE.out.trans (b1.mono (by have := HR0.out.lt; omega)))
      clear h4 b1 HR0 HOW HBE a0
      have a0 := HR1.out.a0
      go_wp2_with fail
      refine (rLevels_any P pn pc pl v1 HR1.out.rp).mono ?_; rintro e v2 ⟨Y5, y5, rfl, h5, b2⟩
      rw [HXS.out] at h5 ⊢
      have HZ2 := Lib.hid h5.rd
      have HY2 := Lib.hid (HY1.out.below b2)
      have HR2 := Lib.hid (HR1.out.below b2)
      have HO2 := Lib.hid (HO1.out.below b2)
      have HB2 := Lib.hid (HB1.out.trans (b2.mono (by have := HR1.out.lt; omega)))
      clear h5 b2 HR1 HO1 HB1 HY1 a0
      have a0 := HR2.out.a0
      go_wp2_with fail
      refine (Draw_any P pn pc pl v2 HR2.out.rp hpc (HSG.out.below (HBW.out v2 HB2.out))).mono ?_; rintro e v3 ⟨rfl, b3⟩
      rw [HDS.out]
      have HZ3 := Lib.hid (HZ2.out.below b3)
      have HY3 := Lib.hid (HY2.out.below b3)
      have HR3 := Lib.hid (HR2.out.below b3)
      have HO3 := Lib.hid (HO2.out.below b3)
      have HB3 := Lib.hid (HB2.out.trans (b3.mono (by have := HR2.out.lt; omega)))
      clear b3 HR2 HO2 HB2 HY2 HZ2 a0
      have a0 := HR3.out.a0
      go_wp2_with fail
      refine (rDraw_any P pn pc pl v3 HR3.out.rp).mono ?_; rintro e v4 ⟨rfl, b4⟩
      rw [HDS.out]
      have HZ4 := Lib.hid (HZ3.out.below b4)
      have HY4 := Lib.hid (HY3.out.below b4)
      have HO4 := Lib.hid (HO3.out.below b4)
      have HB4 := Lib.hid (HB3.out.trans (b4.mono (by have := HR3.out.lt; omega)))
      have hq4 : q + 1 ≤ v4.heap.size := by have := HR3.out.lt; have := b4.size; omega
      clear b4 HR3 HO3 HB3 HY3 HZ3 a0 HXS HDS
      obtain ⟨st, hst⟩ : ∃ st : ByteArray, (⟨ds.1.toArray⟩ : ByteArray) = st := ⟨_, rfl⟩
      have hstz : st.size ≤ 190 := by rw [← hst, size_arr]; exact hd190
      have HST : Hid (st.data.toList = ds.1) := Lib.hid (by rw [← hst])
      rw [hst]
      clear hst
      have hss := str_selfD st
      go_wp2_with fail
      refine (eq_any Y4 Y5 xs.1.length xs.1.length y4 y5 xs.1 xs.1 v4 HY4.out HZ4.out).mono ?_; rintro e v5 ⟨rfl, k5, hw5⟩
      rw [beq_self_eq_true]
      have HO5 : Hid (Own v5 (q + 1) 9 1 T m tc (strs L)) := Lib.hid (by rw [hw5]; exact HO4.out.drewN k5)
      have HB5 : Hid (Below (q + 1) V0 v5) := Lib.hid (by rw [hw5]; exact below_drewN HB4.out k5)
      have hq5 : q + 1 ≤ v5.heap.size := by rw [hw5]; exact hq4
      clear hw5 HO4 HB4 HY4 HZ4 hq4
      go_wp2_with fail
      refine (blot_any st at_ how by_ v5 (by omega) HAT.out HHOW.out).mono ?_; rintro e v6 ⟨bt, rfl, hbt, b6⟩
      have HO6 := Lib.hid (HO5.out.below b6)
      have HB6 := Lib.hid (HB5.out.trans (b6.mono hq5))
      have hq6 : q + 1 ≤ v6.heap.size := by have := b6.size; omega
      clear b6 HO5 HB5 hq5 hss
      subst hm
      have HRM : Hid (Rd (v6.alloc (.cells #[.string st, .string bt] 9)) (some ⟨v6.heap.size, 0, none⟩) 2 (strs [st.data.toList, bt.data.toList])) := Lib.hid (Own.lit v6 9 #[.string st, .string bt] 2 (by omega) rfl v6.heap.size (Nat.le_refl _)).rd
      have HO7 := Lib.hid (HO6.out.alloc (.cells #[.string st, .string bt] 9))
      have HB7 := Lib.hid (HB6.out.alloc hq6 (.cells #[.string st, .string bt] 9))
      go_wp2_with (at_builtin; go_loud (refine wpList_appSS _ rfl (.tmp 102) (.tmp 109) rfl rfl rfl HO7.out HRM.out (by omega) (by simp; omega) ?_; intro A' c' w' ko kb; have HO8 := Lib.hid ko; have HB8 := Lib.hid (HB7.out.trans kb); clear ko kb))
      go_roundw
      case rel => exact ⟨k + 1, 2 * k + 1 + 2, A', c', L ++ [st.data.toList, bt.data.toList], by omega, by go_num, by omega, rfl, HO8.out, by rw [List.length_append, HLL.out]; rfl, fun S hS => by
        rcases List.mem_append.1 hS with hS | hS
        · exact HLS.out S hS
        · simp at hS
          rcases hS with rfl | rfl
          · have : st.data.toList.length = st.size := by simp
            omega
          · have : bt.data.toList.length = bt.size := by simp
            omega, HB8.out⟩
      case measure => simp [intOf]; omega
    · obtain rfl : k = 2 := by omega
      obtain rfl : m = 5 := by omega
      have HTR : Hid (RdS wr T 5 L) := Lib.hid ⟨HOW.out.rd, HLL.out⟩
      clear HOW HFT
      obtain ⟨wt, rfl⟩ : ∃ wt : World, wt = wr := ⟨_, rfl⟩
      go_wp2_with fail
      go_loopw [26] (fun i wq => ∃ j : Nat, j ≤ 5 ∧ i = .int .i64 j ∧ Below wt.heap.size wt wq) (fun i _ => 5 - (intOf i).toNat)
      case atStart => exact ⟨0, by omega, rfl, Below.refl _ _⟩
      case round =>
        obtain ⟨j, hj, rfl, hbel⟩ := hrel
        have HBJ := Lib.hid hbel
        clear hbel
        by_cases hj5 : j < 5
        · have HRJ := Lib.hid (HTR.out.below HBJ.out)
          have HSGJ := Lib.hid (HSG.out.below ((HBW.out wt HBE.out).trans (HBJ.out.mono (by have := (HBW.out wt HBE.out).size; omega))))
          obtain ⟨ad, S, rfl, hadb, hS, hcell⟩ := HRJ.out.at_ hj5
          obtain ⟨s1, hs1⟩ : ∃ s1 : ByteArray, (⟨S.toArray⟩ : ByteArray) = s1 := ⟨_, rfl⟩
          have hs1z : s1.size ≤ 9223372036854775807 := by rw [← hs1, size_arr]; exact HLS.out S (List.mem_of_getElem? hS.out)
          rw [hs1] at hcell
          obtain ⟨xs, hxs⟩ : ∃ z, readP s1.data.toList = z := ⟨_, rfl⟩
          have HXS := Lib.hid hxs
          clear hxs hs1 hS
          go_wp2_with fail
          refine (read_any s1 wr hs1z HSGJ.out).mono ?_; rintro e v1 ⟨Y4, y4, rfl, h4, b1⟩
          rw [HXS.out] at h4 ⊢
          have HY1 := Lib.hid h4.rd
          have hcell1 := (b1.cell (p := ad.add j) (by rw [block_of_add]; exact hadb)).trans hcell
          have HB1 := Lib.hid (HBJ.out.trans (b1.mono HBJ.out.size))
          clear h4 b1 hcell HBJ HRJ HSGJ hadb
          go_wp2_with fail
          refine (rRead_any s1 v1 hs1z).mono ?_; rintro e v2 ⟨Y5, y5, rfl, h5, b2⟩
          rw [HXS.out] at h5 ⊢
          have HZ2 := Lib.hid h5.rd
          have HY2 := Lib.hid (HY1.out.below b2)
          have HB2 := Lib.hid (HB1.out.trans (b2.mono HB1.out.size))
          clear h5 b2 hcell1 HB1 HY1 HXS
          go_wp2_with fail
          refine (eq_any Y4 Y5 xs.1.length xs.1.length y4 y5 xs.1 xs.1 v2 HY2.out HZ2.out).mono ?_; rintro e v3 ⟨rfl, k3, hw3⟩
          rw [beq_self_eq_true]
          have HB3 : Hid (Below wt.heap.size wt v3) := Lib.hid (by rw [hw3]; exact below_drewN HB2.out k3)
          clear hw3 HB2 HY2 HZ2
          go_wp2_with fail
          go_roundw
          case rel => exact ⟨j + 1, by omega, by go_num, HB3.out⟩
          case measure => simp [intOf]; omega
        · have HBF := Lib.hid ((HBW.out wt HBE.out).trans (HBJ.out.mono (by have := (HBW.out wt HBE.out).size; omega)))
          have hj5I : (5 : Int) ≤ j := by omega
          go_wp2_with fail
          refine (awake_any wr (HSG.out.below HBF.out)).mono ?_; rintro e w8 ⟨rfl, hb8⟩
          have HBG := Lib.hid (HBF.out.trans (hb8.mono HBF.out.size))
          clear hb8
          go_wp2
          go_ret
          exact ⟨rfl, HBG.out⟩
end Go.Proofs.YtooepkpgffpcjaaDoor
