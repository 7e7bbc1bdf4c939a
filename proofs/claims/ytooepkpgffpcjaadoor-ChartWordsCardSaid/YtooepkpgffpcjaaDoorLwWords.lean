/- Walk: the statement ChartWords. -/
import Derived.Test.YtooepkpgffpcjaaDoorMgS
import Derived.Test.YtooepkpgffpcjaaDoorMgR
import Derived.Test.YtooepkpgffpcjaaDoorMgJ
import Derived.Test.YtooepkpgffpcjaaDoorMgH
namespace Go.Proofs.YtooepkpgffpcjaaDoor
open Go.RowKit

theorem str_self (s : ByteArray) : (s.toList == s.toList) = true := beq_self_eq_true _
theorem countR_5w : ∀ n, n < 6 → 1 ≤ n → 1 ≤ countR n ∧ countR n ≤ 52 := by decide +kernel
theorem RdS.drewS {w : World} {A : Option Addr} {n : Nat} {L : List (List UInt8)} (h : RdS w A n L) : RdS w.drew A n L := h
theorem RdS.bdN {w : World} {A : Option Addr} {n : Nat} {L : List (List UInt8)} (h : RdS w A n L) : n ≤ 17592186044416 := h.1.2.1
theorem Own.spunW {w w' : World} {base n c g : Nat} {e : TypeId} {A : Option Addr} {xs : List Value} (h : Own w base e 1 A n c xs) (hs : Spun g w w') (hg : g < base) : Own w' base e 1 A n c xs :=
  h.grown hs.grown (by
    cases e : A.map (·.block) with
    | none => exact .inl rfl
    | some b => exact .inr (fun e2 => by injection e2 with e2; have := (h.block e).1; omega))
theorem strs_set (L : List (List UInt8)) (j : Nat) (r : List UInt8) : (strs L).set j (.string ⟨r.toArray⟩) = strs (L.set j r) := by unfold strs; rw [List.map_set]
theorem blk_atW (w : World) (t : TypeId) (cs : Array Value) (q : Nat) (hq : w.heap.size = q) : Blk (w.alloc (.cells cs t)) q t cs := by subst hq; exact Blk.new w t cs
/-- what a round reads -/
structure WordsR (V : World) (q t : Nat) (W : World) (P : Option Addr) (n c : Nat) (l : List Int) (wd wt : ByteArray) (T : Option Addr) (m e : Nat) (L : List (List UInt8)) (k : Int) : Prop where
  a0 : W.cell? ⟨q, t, none⟩ = some (.slice P n c)
  a1 : W.cell? ⟨q + 1, t, none⟩ = some (.string wd)
  a2 : W.cell? ⟨q + 1 + 1, t, none⟩ = some (.string wt)
  a3 : W.cell? ⟨q + 1 + 1 + 1, t, none⟩ = some (.slice T m e)
  a4 : W.cell? ⟨q + 1 + 1 + 1 + 1, t, none⟩ = some (.int .i64 k)
  rp : RdI W P n l
  rt : RdS W T m L
  lt : q + 1 + 1 + 1 + 1 < W.heap.size
  bel : Below V.heap.size V W
theorem WordsR.below {V W W' : World} {q t : Nat} {P : Option Addr} {n c : Nat} {l : List Int} {wd wt : ByteArray} {T : Option Addr} {m e : Nat} {L : List (List UInt8)} {k : Int} (h : WordsR V q t W P n c l wd wt T m e L k) (hb : Below W.heap.size W W') : WordsR V q t W' P n c l wd wt T m e L k := by
  have hl := h.lt
  exact ⟨(hb.cell (p := ⟨q, t, none⟩) (by show q < _; omega)).trans h.a0, (hb.cell (p := ⟨q + 1, t, none⟩) (by show q + 1 < _; omega)).trans h.a1, (hb.cell (p := ⟨q + 1 + 1, t, none⟩) (by show q + 1 + 1 < _; omega)).trans h.a2, (hb.cell (p := ⟨q + 1 + 1 + 1, t, none⟩) (by show q + 1 + 1 + 1 < _; omega)).trans h.a3, (hb.cell (p := ⟨q + 1 + 1 + 1 + 1, t, none⟩) hl).trans h.a4, h.rp.below hb, h.rt.below hb, Nat.lt_of_lt_of_le hl hb.size, h.bel.trans (hb.mono h.bel.size)⟩
/-- .. and that is bounded -/
structure WordsB (n c : Nat) (wd wt : ByteArray) (m : Nat) (L : List (List UInt8)) (k : Int) : Prop where
  nc : n ≤ c
  n40 : n ≤ 40
  wd40 : wd.size ≤ 40
  m60 : m ≤ 60
  l40 : ∀ S ∈ L, S.length ≤ 1000
  k64 : I64 k

set_option maxHeartbeats 8000000 in
set_option maxRecDepth 100000 in
theorem chartWords_any (A : Option Addr) (n c : Nat) (word title : ByteArray) (T : Option Addr) (m f : Nat) (x : Int) (C : Option Addr) (q0 f0 : Nat) (l : List Int) (L : List (List UInt8)) (nums : List Int) (w : World) (h : RdI w A n l) (hnc : n ≤ c) (hT : RdS w T m L) (h3 : RdI w C q0 nums)
    (_hw : word.size ≤ maxLen) (_ht : title.size ≤ maxLen) (hx : I64 x) (hs : Signs w) :
    Calls Tryd.prog 15 #[.slice A n c, .string word, .string title, .slice T m f, .int .i64 x, .slice C q0 f0] w (Held w) := by
  have hbd := h.bd
  have hbT := hT.bdN
  by_cases hl1 : 40 < n
  · go_enter Tryd.func15, Tryd.ntmps15
    go_wp2_with fail
    refine (long_yes A n c w hl1 hbd).mono ?_; rintro e w' ⟨rfl, rfl⟩
    go_wp2_with fail
    refine (awake_any w hs).mono ?_; rintro e w' ⟨rfl, hb⟩
    have HB := Lib.hid hb
    clear hb
    go_wp2
    go_ret
    exact ⟨rfl, HB.out⟩
  by_cases hl2 : 40 < word.size
  · go_enter Tryd.func15, Tryd.ntmps15
    go_wp2_with fail
    refine (long_no A n c w (by omega)).mono ?_; rintro e w' ⟨rfl, rfl⟩
    go_wp2_with fail
    refine (awake_any w hs).mono ?_; rintro e w' ⟨rfl, hb⟩
    have HB := Lib.hid hb
    clear hb
    go_wp2
    go_ret
    exact ⟨rfl, HB.out⟩
  by_cases hl3 : 40 < title.size
  · go_enter Tryd.func15, Tryd.ntmps15
    go_wp2_with fail
    refine (long_no A n c w (by omega)).mono ?_; rintro e w' ⟨rfl, rfl⟩
    go_wp2_with fail
    refine (awake_any w hs).mono ?_; rintro e w' ⟨rfl, hb⟩
    have HB := Lib.hid hb
    clear hb
    go_wp2
    go_ret
    exact ⟨rfl, HB.out⟩
  by_cases hl4 : 60 < m
  · go_enter Tryd.func15, Tryd.ntmps15
    go_wp2_with fail
    refine (long_no A n c w (by omega)).mono ?_; rintro e w' ⟨rfl, rfl⟩
    go_wp2_with fail
    refine (awake_any w hs).mono ?_; rintro e w' ⟨rfl, hb⟩
    have HB := Lib.hid hb
    clear hb
    go_wp2
    go_ret
    exact ⟨rfl, HB.out⟩
  have HSG := Lib.hid hs
  have HX := Lib.hid hx
  have HT := Lib.hid hT
  have HP := Lib.hid h
  have HC := Lib.hid h3
  clear hs hx hT h h3 hbd hbT
  go_enter Tryd.func15, Tryd.ntmps15
  go_wp2_with fail
  refine (long_no A n c w (by omega)).mono ?_; rintro e w' ⟨rfl, rfl⟩
  go_wp2_with fail
  go_loop [13] (fun i => ∃ k : Nat, k ≤ m ∧ i = .int .i64 k ∧ ∀ j S, j < k → L[j]? = some S → S.length ≤ 40) (fun i => m - (intOf i).toNat)
  case atStart => exact ⟨0, by omega, rfl, fun j _ hj => by omega⟩
  case round =>
    obtain ⟨k, hk, rfl, hall⟩ := hrel
    have HA := Lib.hid hall
    clear hall
    by_cases hkm : k < m
    · obtain ⟨ad, S, rfl, _, hS, hcell⟩ := HT.out.at_ hkm
      obtain ⟨s, hs⟩ : ∃ s : ByteArray, (⟨S.toArray⟩ : ByteArray) = s := ⟨_, rfl⟩
      have hss : s.size = S.length := by rw [← hs, size_arr]
      have HSS := Lib.hid hss
      rw [hs] at hcell
      clear hs hss
      by_cases h40 : 40 < s.size
      · go_wp2_with fail
        refine (awake_any w HSG.out).mono ?_; rintro e w2 ⟨rfl, hb⟩
        have HB := Lib.hid hb
        clear hb
        go_wp2
        go_ret
        exact ⟨rfl, HB.out⟩
      · go_wp2_with fail
        go_round
        case rel => exact ⟨k + 1, by omega, by go_num, fun j S' hj hS' => by
          by_cases e : j = k
          · subst e; rw [hS.out] at hS'; injection hS' with hS'; subst hS'; have := HSS.out; omega
          · exact HA.out j S' (by omega) hS'⟩
        case measure => simp [intOf]; omega
    · obtain rfl : k = m := by omega
      have HL40 : Hid (∀ S ∈ L, S.length ≤ 1000) := Lib.hid (fun S hS => by
        obtain ⟨j, hj, e⟩ := List.getElem_of_mem hS
        have := HA.out j S (by have := HT.out.2; omega) (by rw [List.getElem?_eq_getElem hj, e])
        omega)
      clear HA
      go_wp2_with fail
      refine (boxOf_any C q0 f0 nums w HC.out).mono ?_; rintro e w1 ⟨g, rfl, hg, hbox, hb1⟩
      have HBX := Lib.hid hbox
      have HB1 := Lib.hid hb1
      have hgl := hbox.lt
      clear hbox hb1 HC
      go_wp2_with fail
      refine (any_any g 1 6 w1 HBX.out (by omega) (by omega) (by omega) (by omega)).mono ?_; rintro e w2 ⟨on, rfl, hn0, hn1, hst⟩
      obtain ⟨on, rfl⟩ : ∃ n' : Nat, on = n' := ⟨on.toNat, by omega⟩
      have hon6 : on ≤ 6 := by omega
      have hon1 : 1 ≤ on := by omega
      have HS2 := Lib.hid hst.spun
      have hsz2 : w1.heap.size = w2.heap.size := hst.size.symm
      clear hst hn1 hn0 HBX
      go_wp2_with fail
      refine (partitionOf_any g on w2 HS2.out.box (by omega) (by omega)).mono ?_; rintro e w3 ⟨O, oc, own, rfl, hcko, hop, hsp⟩
      have HO3 := Lib.hid hop
      have HS3 := Lib.hid (HS2.out.trans hsp)
      have hsz3 := hsp.grown.size
      have hol := hop.rd.len
      have HO3b : Hid (∀ b, O.map (·.block) = some b → b < w3.heap.size) := Lib.hid (fun b e => (hop.1.block e).2)
      have hocap := hop.cap
      have HCO := Lib.hid hcko
      clear hop hsp HS2 hcko
      obtain ⟨tn, htn⟩ : ∃ tn, min 5 on = tn := ⟨_, rfl⟩
      have htnI : min (5 : Int) (on : Int) = (tn : Int) := by omega
      have htn1 : 1 ≤ tn := by omega
      have htn5 : tn ≤ 5 := by omega
      have hcd := countR_5w tn (by omega) htn1
      obtain ⟨tm, htm⟩ : ∃ tm : Nat, (tm : Int) = countR tn := ⟨(countR tn).toNat, by omega⟩
      have htm1 : 1 ≤ tm := by omega
      have htm52 : tm ≤ 52 := by omega
      clear hcd htn
      go_wp2_with fail
      refine (titlesOf2_any g tn tm w3 HS3.out.box htn1 htn5 htm htm52).mono ?_; rintro e w4 ⟨NA, nc, y, rfl, hon, hsp⟩
      have HN4 := Lib.hid hon
      have HO4 := Lib.hid (HO3.out.spun hsp (by omega))
      have HS4 := Lib.hid (HS3.out.trans hsp)
      have hsz4 := hsp.grown.size
      have HTL : Hid (∀ S ∈ titlesT y tm, S.length ≤ 1000) := Lib.hid (fun S hS => by obtain ⟨i, _, rfl⟩ := List.mem_map.1 hS; show 3 ≤ 1000; omega)
      have HTN := Lib.hid (titlesT_len y tm)
      generalize titlesT y tm = N at HN4 HTL HTN
      clear hon hsp HS3 HO3 htm htnI
      go_wp2_with fail
      refine (up_any g tm w4 HS4.out.box (by omega) (by omega)).mono ?_; rintro e w5 ⟨r, rfl, hr0, hr1, hst⟩
      obtain ⟨r, rfl⟩ : ∃ r' : Nat, r = r' := ⟨r.toNat, by omega⟩
      have hrm : r < tm := by omega
      have HN5 := Lib.hid (HN4.out.spunW hst.spun (by omega))
      have HO5 := Lib.hid (HO4.out.spun hst.spun (by omega))
      have HS5 := Lib.hid (HS4.out.trans hst.spun)
      have hsz5 := hst.spun.grown.size
      clear hst hr0 hr1 HN4 HO4 HS4
      obtain ⟨ad, W0, e0, hadb, hW0, hcW⟩ := (show RdS w5 NA tm N from ⟨HN5.out.rd, HTN.out⟩).at_ hrm
      obtain ⟨gn, hgn, hgn1, _⟩ := HN5.out.form (by omega)
      rw [hgn] at e0
      injection e0 with e0
      subst e0 hgn
      rw [add0] at hcW
      obtain ⟨wanted, hwan⟩ : ∃ s : ByteArray, (⟨W0.toArray⟩ : ByteArray) = s := ⟨_, rfl⟩
      rw [hwan] at hcW
      clear hwan hW0
      go_wp2_with fail
      refine (one_any g 3 w5 HS5.out.box (by omega) (by omega)).mono ?_; rintro e w6 ⟨yes, rfl, hst⟩
      have HN6 := Lib.hid (HN5.out.spunW hst.spun (by omega))
      have HO6 := Lib.hid (HO5.out.spun hst.spun (by omega))
      have HS6 := Lib.hid (HS5.out.trans hst.spun)
      have hsz6 := hst.spun.grown.size
      clear hst HN5 HO5 HS5 hcW
      go_upto_if 93 with fail
      go_cut [] (fun W => ∃ N' : List (List UInt8), Own W w3.heap.size 9 1 (some ⟨gn, 0, none⟩) tm nc (strs N') ∧ (∀ S ∈ N', S.length ≤ 1000) ∧ N'.length = tm ∧ OwnI W w2.heap.size 3 O on oc own ∧ Below w.heap.size w W)
      case first =>
        cases yes
        · have HBF := Lib.hid (HB1.out.trans (HS6.out.below hg HB1.out.size))
          go_wp2
          go_meet
          exact ⟨N, HN6.out, HTL.out, HTN.out, HO6.out, HBF.out⟩
        · go_wp2_with fail
          refine (up_any g tm w6 HS6.out.box (by omega) (by omega)).mono ?_; rintro e w7 ⟨j, rfl, hj0, hj1, hst⟩
          obtain ⟨j, rfl⟩ : ∃ j' : Nat, j = j' := ⟨j.toNat, by omega⟩
          have hjm : j < tm := by omega
          have hjI : (j : Int) < tm := by omega
          have HN7 := Lib.hid (HN6.out.spunW hst.spun (by omega))
          have HO7 := Lib.hid (HO6.out.spun hst.spun (by omega))
          have HS7 := Lib.hid (HS6.out.trans hst.spun)
          clear hst hj1 hj0 HN6 HO6 HS6
          obtain ⟨pv, hpv⟩ : ∃ pv, N[j]? = some pv := ⟨N[j]'(by rw [HTN.out]; omega), List.getElem?_eq_getElem _⟩
          have hcell : w7.cell? ⟨gn, j, none⟩ = some (.string ⟨pv.toArray⟩) := by rw [HN7.out.cellAt j (by omega)]; exact strs_get hpv
          have hfz := HN7.out.frozenAt j
          clear hpv
          have HST := Lib.hid (HN7.out.stored j (.string title))
          have HOF : Hid (OwnI (w7.setCell ⟨gn, j, none⟩ (.string title)) w2.heap.size 3 O on oc own) := Lib.hid ⟨HO7.out.1.far (p := ⟨gn, j, none⟩) (fun e => by
            have hb := HO3b.out gn e
            omega) _, HO7.out.2⟩
          have hwg : w.heap.size ≤ gn := by have := HB1.out.size; omega
          have HBF := Lib.hid ((HB1.out.trans (HS7.out.below hg HB1.out.size)).setCell (p := ⟨gn, j, none⟩) hwg (.string title))
          have HST2 : Hid (Own (w7.setCell ⟨gn, j, none⟩ (.string title)) w3.heap.size 9 1 (some ⟨gn, 0, none⟩) tm nc (strs (N.set j title.data.toList))) := Lib.hid (by rw [← strs_set]; exact HST.out)
          go_wp2
          go_meet
          refine ⟨N.set j title.data.toList, HST2.out, fun S hS => ?_, by rw [List.length_set]; exact HTN.out, HOF.out, HBF.out⟩
          rcases List.mem_or_eq_of_mem_set hS with hS | rfl
          · exact HTL.out S hS
          · have : title.data.toList.length = title.size := by simp
            omega
      case rest =>
        obtain ⟨N', hN, hN40, hNl, hO, hB⟩ := hcut
        have HN8 := Lib.hid hN
        have HNB := Lib.hid hN40
        have HNL := Lib.hid hNl
        have HO8 := Lib.hid hO
        have HB8 := Lib.hid hB
        clear hN hN40 hNl hO hB HN6 HO6 HS6 HTL HTN HB1
        obtain ⟨w6b, rfl⟩ : ∃ w6b : World, w6b = wc := ⟨_, rfl⟩
        have HSE : Hid (spellE own = (spellT own, 0)) := Lib.hid (by unfold spellE; rw [if_neg (by have := HCO.out; omega)])
        have HSL : Hid ((spellT own).length = on) := Lib.hid (by unfold spellT; rw [List.length_map, hol])
        go_wp2_with fail
        refine (rspell_any O on oc own w6b HO8.out.rd).mono ?_; rintro e w7 ⟨rfl, b7⟩
        rw [HSE.out]
        simp only
        obtain ⟨sp, hsp⟩ : ∃ s : ByteArray, (⟨(spellT own).toArray⟩ : ByteArray) = s := ⟨_, rfl⟩
        have hsps : sp.size ≤ 40 := by rw [← hsp, size_arr, HSL.out]; omega
        rw [hsp]
        have HN9 := Lib.hid (HN8.out.below b7)
        have HO9 := Lib.hid (HO8.out.below b7).rd
        have HB9 := Lib.hid (HB8.out.trans (b7.mono HB8.out.size))
        clear b7 hsp HN8 HO8 HB8 HSE HSL HCO
        obtain ⟨q, hq⟩ : ∃ q, w7.heap.size = q := ⟨_, rfl⟩
        have HQ := Lib.hid hq
        clear hq
        go_upto_region 16 with fail
        rw [HQ.out]
        have hV0 : Blk ((((((w7.alloc (.cells #[.slice A n c, .slice O on oc, .slice A n c] 22)).alloc (.cells #[.string word, .string sp, .string word] 9)).alloc (.cells #[.string title, .string wanted, .string title] 9)).alloc (.cells #[.slice T k f, .slice (some ⟨gn, 0, none⟩) tm nc, .slice (some ⟨gn, 0, none⟩) tm nc] 39)).alloc (.cells #[.int .i64 x, .int .i64 on, .int .i64 x] 3))) q 22 #[.slice A n c, .slice O on oc, .slice A n c] := ((((blk_atW w7 _ _ q HQ.out).alloc _).alloc _).alloc _).alloc _
        have hV1 : Blk ((((((w7.alloc (.cells #[.slice A n c, .slice O on oc, .slice A n c] 22)).alloc (.cells #[.string word, .string sp, .string word] 9)).alloc (.cells #[.string title, .string wanted, .string title] 9)).alloc (.cells #[.slice T k f, .slice (some ⟨gn, 0, none⟩) tm nc, .slice (some ⟨gn, 0, none⟩) tm nc] 39)).alloc (.cells #[.int .i64 x, .int .i64 on, .int .i64 x] 3))) (q + 1) 9 #[.string word, .string sp, .string word] := (((blk_atW _ _ _ (q + 1) (by simp [HQ.out])).alloc _).alloc _).alloc _
        have hV2 : Blk ((((((w7.alloc (.cells #[.slice A n c, .slice O on oc, .slice A n c] 22)).alloc (.cells #[.string word, .string sp, .string word] 9)).alloc (.cells #[.string title, .string wanted, .string title] 9)).alloc (.cells #[.slice T k f, .slice (some ⟨gn, 0, none⟩) tm nc, .slice (some ⟨gn, 0, none⟩) tm nc] 39)).alloc (.cells #[.int .i64 x, .int .i64 on, .int .i64 x] 3))) (q + 1 + 1) 9 #[.string title, .string wanted, .string title] := ((blk_atW _ _ _ (q + 1 + 1) (by simp [HQ.out])).alloc _).alloc _
        have hV3 : Blk ((((((w7.alloc (.cells #[.slice A n c, .slice O on oc, .slice A n c] 22)).alloc (.cells #[.string word, .string sp, .string word] 9)).alloc (.cells #[.string title, .string wanted, .string title] 9)).alloc (.cells #[.slice T k f, .slice (some ⟨gn, 0, none⟩) tm nc, .slice (some ⟨gn, 0, none⟩) tm nc] 39)).alloc (.cells #[.int .i64 x, .int .i64 on, .int .i64 x] 3))) (q + 1 + 1 + 1) 39 #[.slice T k f, .slice (some ⟨gn, 0, none⟩) tm nc, .slice (some ⟨gn, 0, none⟩) tm nc] := (blk_atW _ _ _ (q + 1 + 1 + 1) (by simp [HQ.out])).alloc _
        have hV4 : Blk ((((((w7.alloc (.cells #[.slice A n c, .slice O on oc, .slice A n c] 22)).alloc (.cells #[.string word, .string sp, .string word] 9)).alloc (.cells #[.string title, .string wanted, .string title] 9)).alloc (.cells #[.slice T k f, .slice (some ⟨gn, 0, none⟩) tm nc, .slice (some ⟨gn, 0, none⟩) tm nc] 39)).alloc (.cells #[.int .i64 x, .int .i64 on, .int .i64 x] 3))) (q + 1 + 1 + 1 + 1) 3 #[.int .i64 x, .int .i64 on, .int .i64 x] := blk_atW _ _ _ (q + 1 + 1 + 1 + 1) (by simp [HQ.out])
        have hVB : Below w7.heap.size w7 ((((((w7.alloc (.cells #[.slice A n c, .slice O on oc, .slice A n c] 22)).alloc (.cells #[.string word, .string sp, .string word] 9)).alloc (.cells #[.string title, .string wanted, .string title] 9)).alloc (.cells #[.slice T k f, .slice (some ⟨gn, 0, none⟩) tm nc, .slice (some ⟨gn, 0, none⟩) tm nc] 39)).alloc (.cells #[.int .i64 x, .int .i64 on, .int .i64 x] 3))) := by
          have hb : ∀ (wa : World) (o : Obj), Below w7.heap.size w7 wa → Below w7.heap.size w7 (wa.alloc o) := fun wa o hb => hb.alloc hb.size o
          exact hb _ _ (hb _ _ (hb _ _ (hb _ _ (hb _ _ (Below.refl _ w7)))))
        generalize ((((((w7.alloc (.cells #[.slice A n c, .slice O on oc, .slice A n c] 22)).alloc (.cells #[.string word, .string sp, .string word] 9)).alloc (.cells #[.string title, .string wanted, .string title] 9)).alloc (.cells #[.slice T k f, .slice (some ⟨gn, 0, none⟩) tm nc, .slice (some ⟨gn, 0, none⟩) tm nc] 39)).alloc (.cells #[.int .i64 x, .int .i64 on, .int .i64 x] 3))) = V at hV0 hV1 hV2 hV3 hV4 hVB ⊢
        have HBV := Lib.hid (HB9.out.trans (hVB.mono HB9.out.size))
        have HFT : Hid (∀ t : Nat, t < 3 → ∀ W, Below V.heap.size V W → ∃ P n c l wd wt T m e L k, WordsR W q t W P n c l wd wt T m e L k ∧ WordsB n c wd wt m L k) := Lib.hid (by
          intro t ht W hW
          have rp := (HP.out.below HBV.out).below hW
          have rt := (HT.out.below HBV.out).below hW
          have ro := (HO9.out.below hVB).below hW
          have rn : RdS W (some ⟨gn, 0, none⟩) tm N' := ⟨((HN9.out.below hVB).below hW).rd, HNL.out⟩
          have e0 := hV0.below hW
          have e1 := hV1.below hW
          have e2 := hV2.below hW
          have e3 := hV3.below hW
          have e4 := hV4.below hW
          have hl := e4.lt
          match t, ht with
          | 0, _ => exact ⟨A, n, c, l, word, title, T, k, f, L, x, ⟨by rw [e0.cell]; rfl, by rw [e1.cell]; rfl, by rw [e2.cell]; rfl, by rw [e3.cell]; rfl, by rw [e4.cell]; rfl, rp, rt, hl, Below.refl _ _⟩, ⟨hnc, by omega, by omega, by omega, HL40.out, HX.out⟩⟩
          | 1, _ => exact ⟨O, on, oc, own, sp, wanted, some ⟨gn, 0, none⟩, tm, nc, N', on, ⟨by rw [e0.cell]; rfl, by rw [e1.cell]; rfl, by rw [e2.cell]; rfl, by rw [e3.cell]; rfl, by rw [e4.cell]; rfl, ro, rn, hl, Below.refl _ _⟩, ⟨hocap, by omega, hsps, by omega, HNB.out, I64.small (by omega)⟩⟩
          | 2, _ => exact ⟨A, n, c, l, word, title, some ⟨gn, 0, none⟩, tm, nc, N', x, ⟨by rw [e0.cell]; rfl, by rw [e1.cell]; rfl, by rw [e2.cell]; rfl, by rw [e3.cell]; rfl, by rw [e4.cell]; rfl, rp, rn, hl, Below.refl _ _⟩, ⟨hnc, by omega, by omega, by omega, HNB.out, HX.out⟩⟩)
        clear hV0 hV1 hV2 hV3 hV4 hVB HN9 HO9 HB9 HNB HNL HL40 HP HT hsps HO3b
        go_wp2_with fail
        go_loopw [25] (fun i wr => ∃ t : Nat, t ≤ 3 ∧ i = .int .i64 t ∧ Below V.heap.size V wr) (fun i _ => 3 - (intOf i).toNat)
        case atStart => exact ⟨0, by omega, rfl, Below.refl _ _⟩
        case round =>
          obtain ⟨t, ht, rfl, hbel⟩ := hrel
          have HBE := Lib.hid hbel
          have hszr := hbel.size
          clear hbel
          by_cases hlt : t < 3
          · obtain ⟨P, pn, pc, pl, wd, wt, TT, tq, te, TL, kk, hR, hBd⟩ := HFT.out t hlt wr HBE.out
            have HR0 := Lib.hid hR
            have HBD := Lib.hid hBd
            have hwd : wd.size ≤ 9223372036854775807 := by have := hBd.wd40; omega
            have htq : tq ≤ 60 := hBd.m60
            have hpn : pn ≤ 40 := hBd.n40
            clear hR hBd HFT
            have a3 := HR0.out.a3
            go_wp2_with fail
            refine (strings_any TT tq te TL wr HR0.out.rt (by omega)).mono ?_; rintro e v1 ⟨M, mc, rfl, hM, b1⟩
            have HM1 : Hid (RdS v1 M tq TL) := Lib.hid ⟨hM.rd, HR0.out.rt.2⟩
            have HR1 := Lib.hid (HR0.out.below b1)
            clear hM b1 HR0 a3
            have a0 := HR1.out.a0
            obtain ⟨xs, hxs⟩ : ∃ z, spellE pl = z := ⟨_, rfl⟩
            have HXS := Lib.hid hxs
            clear hxs
            go_wp2_with fail
            refine (spell_any P pn pc pl v1 HR1.out.rp).mono ?_; rintro e v2 ⟨rfl, b2⟩
            rw [HXS.out]
            have HM2 := Lib.hid (HM1.out.below b2)
            have HR2 := Lib.hid (HR1.out.below b2)
            clear b2 HM1 HR1 a0
            have a0 := HR2.out.a0
            go_wp2_with fail
            refine (rspell_any P pn pc pl v2 HR2.out.rp).mono ?_; rintro e v3 ⟨rfl, b3⟩
            rw [HXS.out]
            have HM3 := Lib.hid (HM2.out.below b3)
            have HR3 := Lib.hid (HR2.out.below b3)
            clear b3 HM2 HR2 a0 HXS
            have a1 := HR3.out.a1
            obtain ⟨ys, hys⟩ : ∃ z, parseE wd.data.toList = z := ⟨_, rfl⟩
            have HYS := Lib.hid hys
            clear hys
            go_wp2_with fail
            refine (parse_any wd v3 hwd).mono ?_; rintro e v4 ⟨Y4, y4, rfl, h4, b4⟩
            rw [HYS.out] at h4 ⊢
            have HY4 := Lib.hid h4.rd
            have HM4 := Lib.hid (HM3.out.below b4)
            have HR4 := Lib.hid (HR3.out.below b4)
            clear b4 h4 HM3 HR3 a1
            have a1 := HR4.out.a1
            go_wp2_with fail
            refine (rparse_any wd v4).mono ?_; rintro e v5 ⟨Y5, y5, rfl, h5, b5⟩
            rw [HYS.out] at h5 ⊢
            have HY5 := Lib.hid h5.rd
            have HY45 := Lib.hid (HY4.out.below b5)
            have HM5 := Lib.hid (HM4.out.below b5)
            have HR5 := Lib.hid (HR4.out.below b5)
            clear b5 h5 HM4 HR4 a1 HYS HY4
            have a0 := HR5.out.a0
            obtain ⟨zs, hzs⟩ : ∃ z, titleE TL pl = z := ⟨_, rfl⟩
            have HZS := Lib.hid hzs
            clear hzs
            go_wp2_with fail
            refine (title_any M P tq mc pn pc TL pl v5 HM5.out HR5.out.rp (by omega) HBD.out.l40).mono ?_; rintro e v6 ⟨rfl, b6⟩
            rw [HZS.out]
            have HY4 := Lib.hid (HY45.out.below b6)
            have HY6 := Lib.hid (HY5.out.below b6)
            have HM6 := Lib.hid (HM5.out.below b6)
            have HR6 := Lib.hid (HR5.out.below b6)
            clear b6 HM5 HR5 a0 HY5 HY45
            have a0 := HR6.out.a0
            have a3 := HR6.out.a3
            go_upto_region 25 with fail
            go_region_held3 (fun w' => w'.cell? ⟨q + 1 + 1 + 1, t, none⟩ = some (.slice TT tq te) ∧ w'.cell? ⟨q, t, none⟩ = some (.slice P pn pc)) (first | exact ⟨a3, a0⟩ | exact ⟨HR7.out.a3, HR7.out.a0⟩) (first
              | (go_at_call 70; (with_reducible refine (rtitle_any TT P tq te pn pc TL pl v6.drew HR6.out.rt.drewS HR6.out.rp.drew HBD.out.nc (by omega) HBD.out.l40).mono ?_); rintro e v7 ⟨rfl, b7⟩; have B7 := Lib.hid ((Below.refl _ v6).drew.trans b7); have HR7 := Lib.hid (HR6.out.below B7.out)))
            rw [HZS.out]
            have HY47 := Lib.hid (HY4.out.below B7.out)
            have HY7 := Lib.hid (HY6.out.below B7.out)
            have HM7 := Lib.hid (HM6.out.below B7.out)
            clear b7 B7 HM6 HR6 a0 a3 HY6 HY4 HZS
            have a2 := HR7.out.a2
            have a4 := HR7.out.a4
            obtain ⟨us, hus⟩ : ∃ z, findE TL kk wt.data.toList = z := ⟨_, rfl⟩
            have HUS := Lib.hid hus
            clear hus
            go_upto_region 26 with fail
            go_region_held3 (fun w' => w'.cell? ⟨q + 1 + 1 + 1 + 1, t, none⟩ = some (.int .i64 kk) ∧ w'.cell? ⟨q + 1 + 1, t, none⟩ = some (.string wt)) (first | exact ⟨a4, a2⟩ | exact ⟨HR8.out.a4, HR8.out.a2⟩) (first
              | (go_at_call 71; (with_reducible refine (find_any M tq mc TL kk wt v7.drew HM7.out.drewS (by omega) HBD.out.l40).mono ?_); rintro e v8 ⟨U8, u8, rfl, h8, b8⟩; have B8 := Lib.hid ((Below.refl _ v7).drew.trans b8); have HR8 := Lib.hid (HR7.out.below B8.out); have HU8 := Lib.hid h8.rd))
            rw [HUS.out] at HU8 ⊢
            have HY48 := Lib.hid (HY47.out.below B8.out)
            have HY8 := Lib.hid (HY7.out.below B8.out)
            have HM8 := Lib.hid (HM7.out.below B8.out)
            clear b8 h8 B8 HM7 HR7 a2 a4 HY7 HY47
            have a2 := HR8.out.a2
            have a3 := HR8.out.a3
            have a4 := HR8.out.a4
            go_upto_region 27 with fail
            go_region_held3 (fun w' => (w'.cell? ⟨q + 1 + 1 + 1, t, none⟩ = some (.slice TT tq te) ∧ w'.cell? ⟨q + 1 + 1 + 1 + 1, t, none⟩ = some (.int .i64 kk)) ∧ w'.cell? ⟨q + 1 + 1, t, none⟩ = some (.string wt)) (first | exact ⟨⟨a3, a4⟩, a2⟩ | exact ⟨⟨HR9.out.a3, HR9.out.a4⟩, HR9.out.a2⟩) (first
              | (go_at_call 72; (with_reducible refine (rfind_any TT tq te TL kk wt v8.drew HR8.out.rt.drewS (by omega) HBD.out.l40).mono ?_); rintro e v9 ⟨U9, u9, rfl, h9, b9⟩; have B9 := Lib.hid ((Below.refl _ v8).drew.trans b9); have HR9 := Lib.hid (HR8.out.below B9.out); have HU9 := Lib.hid h9.rd))
            rw [HUS.out] at HU9 ⊢
            have HU89 := Lib.hid (HU8.out.below B9.out)
            have HY49 := Lib.hid (HY48.out.below B9.out)
            have HY9 := Lib.hid (HY8.out.below B9.out)
            have HM9 := Lib.hid (HM8.out.below B9.out)
            clear b9 h9 B9 HM8 HR8 a2 a3 a4 HY8 HY48 HU8 HUS
            have a3 := HR9.out.a3
            go_wp2_with fail
            refine (eq_any Y4 Y5 ys.1.length ys.1.length y4 y5 ys.1 ys.1 v9 HY49.out HY9.out).mono ?_; rintro e v10 ⟨rfl, k10, hw10⟩
            rw [beq_self_eq_true]
            have HU8a : Hid (RdI v10 U8 us.1.length us.1) := Lib.hid (by rw [hw10]; exact HU89.out.drewN k10)
            have HU9a : Hid (RdI v10 U9 us.1.length us.1) := Lib.hid (by rw [hw10]; exact HU9.out.drewN k10)
            have HMa : Hid (RdS v10 M tq TL) := Lib.hid (by rw [hw10]; exact HM9.out)
            have HRa := Lib.hid (HR9.out.below (show Below v9.heap.size v9 v10 by rw [hw10]; exact below_drewN (Below.refl _ _) k10))
            clear hw10 HU89 HU9 HM9 HR9 HY49 HY9 a3
            have a3 := HRa.out.a3
            go_wp2_with fail
            refine (eq_any U8 U9 us.1.length us.1.length u8 u9 us.1 us.1 v10 HU8a.out HU9a.out).mono ?_; rintro e v11 ⟨rfl, k11, hw11⟩
            rw [beq_self_eq_true]
            have HMb : Hid (RdS v11 M tq TL) := Lib.hid (by rw [hw11]; exact HMa.out)
            have HRb := Lib.hid (HRa.out.below (show Below v10.heap.size v10 v11 by rw [hw11]; exact below_drewN (Below.refl _ _) k11))
            clear hw11 HU8a HU9a HMa HRa a3
            have a3 := HRb.out.a3
            go_wp2_with fail
            refine (eqStr_any M TT tq tq mc te TL TL v11 HMb.out HRb.out.rt (by omega) (by omega)).mono ?_; rintro e v12 ⟨rfl, k12, hw12⟩
            rw [decide_eq_true (rfl : TL = TL)]
            have HBN : Hid (Below V.heap.size V v12) := Lib.hid (by rw [hw12]; exact HBE.out.trans ((below_drewN HRb.out.bel k12).mono hszr))
            clear hw12 HMb HRb a3
            go_wp2
            go_roundw
            case rel => exact ⟨t + 1, by omega, by go_num, HBN.out⟩
            case measure => simp [intOf]; omega
          · have HBX := Lib.hid (HBV.out.trans (HBE.out.mono HBV.out.size))
            have ht3 : (3 : Int) ≤ t := by omega
            go_wp2_with fail
            refine (awake_any wr (HSG.out.below HBX.out)).mono ?_; rintro e w8 ⟨rfl, hb8⟩
            have HBF := Lib.hid (HBX.out.trans (hb8.mono HBX.out.size))
            clear hb8
            go_wp2
            go_ret
            exact ⟨rfl, HBF.out⟩
end Go.Proofs.YtooepkpgffpcjaaDoor
