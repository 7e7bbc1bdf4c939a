/- Walks: words and titles: the reference's. -/
import Derived.Test.YtooepkpgffpcjaaDoorMgR
import Derived.Test.YtooepkpgffpcjaaDoorMgM
import Derived.Test.YtooepkpgffpcjaaDoorMgL
import Derived.Test.YtooepkpgffpcjaaDoorMgO
namespace Go.Proofs.YtooepkpgffpcjaaDoor
open Go.RowKit

/-! ### Bytes that are appended, and made a string -/
/-- 'append(s, x)' of a byte, that was laid in a new block first. -/
theorem wpList_appU1 (w : World) {ops : Array Oper} {rest : List Oper} {o : Oper} {a : Act} {Q : Exit → Act → World → Prop} (hgd : o.guard = none) (s x : Operand)
    (ho : o.op = .call { callee := .builtin .append, args := #[s, x], argTypes := #[99, 99] })
    {base n c : Nat} {A : Option Addr} {L : List UInt8} {r : UInt8} {v : Int} (hv : (r.toNat : Int) = v) (t : TypeId) (hs : a.eval s = .slice A n c) (hx : a.eval x = .slice (some ⟨w.heap.size, 0, none⟩) 1 1) (hown : Own w base 5 1 A n c (Lib.byteCells L)) (hnm : n + 1 ≤ 1000000) (hbase : base ≤ w.heap.size)
    (h : ∀ A' c' w', Own w' base 5 1 A' (n + 1) c' (Lib.byteCells (L ++ [r])) → Below base w w' → wpList Tryd.prog ops Q rest (a.put o.dst (.slice A' (n + 1) c')) w') :
    wpList Tryd.prog ops Q (o :: rest) a (w.alloc (.cells #[.int .u8 v] t)) := by
  subst hv
  obtain ⟨i0, hi0, hz0, hz1, hz2⟩ := info_parts byteInfo
  refine wpList_app _ hgd s x 99 ho base 5 i0 _ 1 Tryd.underlying99 hi0 hz0 hz1 hz2 rfl (by decide) A n c (Lib.byteCells L) hs (hown.alloc _) _ 1 1 [.int .u8 (r.toNat : Int)] hx (Rd.one w t _) (fun u hu => by simp at hu; subst hu; rfl) (by omega) (by simp; omega) ?_
  intro A' c' w' h1 h2 h3
  have hg : w.grownBy w' (A.map (·.block)) := grown_trans (World.grownBy_alloc w _ _) h2
  exact h A' c' w' (by rw [← byteCells_snoc]; exact h1) (below_app hown hg hbase)
theorem conv_own {w : World} {base n c : Nat} {A : Option Addr} {L : List UInt8} (h : Own w base 5 1 A n c (Lib.byteCells L)) (h0 : 0 < n) : (convert 99 9 (.slice A n c)).run Tryd.prog w = .ok (.string ⟨L.toArray⟩) w := by
  have hl := h.len
  rw [Lib.byteCells_length] at hl
  obtain ⟨g, rfl, _, _⟩ := h.form h0
  obtain rfl : n = L.length := by omega
  refine run_convert_bytes_back w 99 9 5 ⟨g, 0, none⟩ c L Tryd.underlying99 Tryd.underlying5 Tryd.underlying9 fun j hj => ?_
  rw [add0, h.cellAt j (by omega)]
  simp [Lib.byteCells, hj]

set_option maxHeartbeats 1000000 in
set_option maxRecDepth 100000 in
theorem rspell_any (A : Option Addr) (n c : Nat) (l : List Int) (w : World) (h : RdI w A n l) : Calls Tryd.prog 64 #[.slice A n c] w (TextErr (spellE l) w) := by
  have HC := Lib.hid (refCheck_any A n c l w h)
  by_cases h0 : chk l = 0
  · have HV := Lib.hid (show spellE l = (spellT l, 0) by unfold spellE; rw [if_neg (by omega)])
    have hlen := h.len
    have h9 := (chk_ok h0).2.2.1
    have hn1 : 1 ≤ n := by have := (chk_ok h0).1; omega
    have hn9 : n ≤ 9 := by have := (chk_ok h0).2.1; omega
    have HN := Lib.hid h9
    have HL := Lib.hid hlen
    rw [h0] at HC
    clear h0 h9 hlen
    go_enter Tryd.func64, Tryd.ntmps64
    go_wp2_with fail
    refine HC.out.mono ?_; rintro e w' ⟨rfl, rfl⟩
    go_wp2_with fail
    go_loopw [5, 6] (fun o i wq => ∃ k : Nat, k ≤ n ∧ i = .int .i64 k ∧ ∃ Ao co, o = .slice Ao k co ∧ Own wq w.heap.size 5 1 Ao k co (Lib.byteCells (spellT (l.take k))) ∧ Below w.heap.size w wq) (fun _ i _ => n - (intOf i).toNat)
    case atStart => exact ⟨0, by omega, rfl, none, 0, rfl, Own.nil_ _ _ _ _, Below.refl _ _⟩
    case round =>
      obtain ⟨k, hk, rfl, Ao, co, rfl, hown, hbel⟩ := hrel
      have HO := Lib.hid hown
      have HBW := Lib.hid hbel
      have hsz := hbel.size
      clear hown hbel
      by_cases hlt : k < n
      · obtain ⟨ad, v, rfl, _, hv, _, hcell⟩ := (h.below HBW.out).at_ hlt
        have hv9 := HN.out v (List.mem_of_getElem? hv.out)
        have HT : Hid (spellT (l.take (k + 1)) = spellT (l.take k) ++ [letter v]) := Lib.hid (by rw [take_of_get hv.out]; unfold spellT; rw [List.map_append]; rfl)
        have HLN := Lib.hid (letter_nat hv9.1 hv9.2)
        have hv0 := hv9.1
        have hv1 := hv9.2
        have hk1 : k + 1 ≤ 1000000 := by omega
        clear hv9
        go_wp2_with (at_builtin; go_loud (refine wpList_appU1 _ rfl (.tmp 18) (.tmp 25) rfl (r := letter v) (v := 65 + v) HLN.out _ rfl rfl HO.out hk1 hsz ?_; intro A' c' w3 ko kb; have KO := Lib.hid ko; have KB := Lib.hid (HBW.out.trans kb); clear ko kb))
        go_roundw
        case rel => exact ⟨k + 1, by omega, by go_num, A', c', rfl, by rw [HT.out]; exact KO.out, KB.out⟩
        case measure => simp [intOf]; omega
      · obtain rfl : k = n := by omega
        have HT : Hid (l.take k = l) := Lib.hid (List.take_of_length_le (by have := HL.out; omega))
        rw [HT.out] at HO
        have HCV := Lib.hid (conv_own HO.out (by omega))
        generalize spellT l = T at HO HV HCV
        go_wp2_with fail
        rw [HCV.out]
        simp only [Result.andThen]
        rw [Oper.upon_value]
        go_wp2
        go_ret2
        refine ⟨?_, HBW.out⟩
        rw [HV.out]; rfl
  · have HV := Lib.hid (show spellE l = ([], chk l) by unfold spellE; rw [if_pos h0])
    generalize chk l = z at HC h0 HV
    have g1 : (z == 0) = false := by simpa using h0
    have g2 : (z != 0) = true := by simpa using h0
    clear h0
    go_enter Tryd.func64, Tryd.ntmps64
    go_wp2_with fail
    refine HC.out.mono ?_; rintro e w' ⟨rfl, rfl⟩
    go_wp2
    go_ret2
    exact ⟨by rw [HV.out]; rfl, Below.refl _ _⟩

set_option maxHeartbeats 1000000 in
set_option maxRecDepth 100000 in
theorem rparse_any (s : ByteArray) (w : World) : Calls Tryd.prog 68 #[.string s] w (IntsErr (parseE s.data.toList) w) := by
  have HSZ : Hid (s.data.toList.length = s.size) := Lib.hid (by simp)
  by_cases h0 : s.size = 0
  · have HV := Lib.hid (show parseE s.data.toList = ([], 6) by unfold parseE; rw [if_pos (by rw [HSZ.out]; exact h0)])
    go_enter Tryd.func68, Tryd.ntmps68
    go_wp2
    go_ret2
    rw [HV.out]; exact IntsErr.none_ _ _
  by_cases h9 : 9 < s.size
  · have HV := Lib.hid (show parseE s.data.toList = ([], 8) by unfold parseE; rw [if_neg (by rw [HSZ.out]; exact h0), if_pos (by rw [HSZ.out]; exact h9)])
    go_enter Tryd.func68, Tryd.ntmps68
    go_wp2
    go_ret2
    rw [HV.out]; exact IntsErr.none_ _ _
  · have HV := Lib.hid (show parseE s.data.toList = if chk (partW s.data.toList) ≠ 0 then ([], 3) else (partW s.data.toList, 0) by unfold parseE; rw [if_neg (by rw [HSZ.out]; exact h0), if_neg (by rw [HSZ.out]; exact h9)])
    have g0 : ((s.size : Int) == 0) = false := beq_eq_false_iff_ne.2 (by omega)
    have hpl : (partW s.data.toList).length = s.size := by unfold partW; rw [List.length_map, HSZ.out]
    have HPL := Lib.hid hpl
    clear hpl
    go_enter Tryd.func68, Tryd.ntmps68
    go_wp2_with fail
    go_loopw [4, 5] (fun o i wr => ∃ k : Nat, k ≤ s.size ∧ i = .int .i64 k ∧ ∃ Ao co, o = .slice Ao k co ∧ OwnI wr w.heap.size 3 Ao k co ((partW s.data.toList).take k) ∧ Below w.heap.size w wr) (fun _ i _ => s.size - (intOf i).toNat)
    case atStart => exact ⟨0, by omega, rfl, none, 0, rfl, OwnI.nil_ _ _ _, Below.refl _ _⟩
    case round =>
      obtain ⟨k, hk, rfl, Ao, co, rfl, hown, hbel⟩ := hrel
      have HO := Lib.hid hown
      have HB := Lib.hid hbel
      have hsz := hbel.size
      clear hown hbel
      by_cases hlt : k < s.size
      · have HT : Hid ((partW s.data.toList).take (k + 1) = (partW s.data.toList).take k ++ [(s[k].toNat : Int) - 65]) := Lib.hid (by
          refine take_of_get ?_
          unfold partW
          rw [List.getElem?_map, List.getElem?_eq_getElem (by rw [HSZ.out]; exact hlt)]; rfl)
        have hb : s[k].toNat < 256 := UInt8.toNat_lt _
        obtain ⟨x, hx⟩ : ∃ x, s[k].toNat = x := ⟨_, rfl⟩
        rw [hx] at HT hb
        have hv : I64 ((x : Int) - 65) := I64.small (by omega)
        have hk1 : k + 1 ≤ 1000000 := by omega
        go_wp2_with (at_builtin; go_must (refine wpList_appI1 _ rfl (.tmp 18) (.tmp 24) rfl _ rfl rfl HO.out hv hk1 hsz ?_); intro A' c' w' kk; have KK := Lib.hid kk; clear kk)
        go_roundw
        case rel => exact ⟨k + 1, by omega, by go_num, A', c', rfl, by rw [HT.out]; exact KK.out.own, HB.out.trans KK.out.below⟩
        case measure => simp [intOf]; omega
      · obtain rfl : k = s.size := by omega
        have HT : Hid ((partW s.data.toList).take s.size = partW s.data.toList) := Lib.hid (List.take_of_length_le (by have := HPL.out; omega))
        rw [HT.out] at HO
        have HC := Lib.hid (refCheck_any Ao s.size co (partW s.data.toList) wr HO.out.rd)
        generalize partW s.data.toList = p at HO HC HV HPL
        by_cases hz : chk p = 0
        · rw [if_neg (by omega)] at HV
          rw [hz] at HC
          clear hz
          go_wp2_with fail
          refine HC.out.mono ?_; rintro e w2 ⟨rfl, rfl⟩
          go_wp2
          go_ret2
          rw [HV.out]
          exact ⟨Ao, co, by rw [HPL.out]; rfl, by rw [HPL.out]; exact HO.out, HB.out⟩
        · rw [if_pos hz] at HV
          generalize chk p = z at HC hz
          have g1 : (z == 0) = false := by simpa using hz
          have g2 : (z != 0) = true := by simpa using hz
          clear hz
          go_wp2_with fail
          refine HC.out.mono ?_; rintro e w2 ⟨rfl, rfl⟩
          go_wp2
          go_ret2
          rw [HV.out]
          exact ⟨none, 0, rfl, OwnI.nil_ _ _ _, HB.out⟩

/-! ### Titles -/
theorem low_iff (c : UInt8) : lowers.contains c = (decide (97 ≤ c.toNat) && decide (c.toNat ≤ 122)) := by
  have h : ∀ n, n < 256 → lowers.contains n.toUInt8 = (decide (97 ≤ n) && decide (n ≤ 122)) := by decide +kernel
  have := h c.toNat (UInt8.toNat_lt _)
  rwa [show c.toNat.toUInt8 = c from by simp] at this
theorem mem_take_iff {L : List (List UInt8)} {k : Nat} {S : List UInt8} : S ∈ L.take k ↔ ∃ j, j < k ∧ L[j]? = some S := by
  constructor
  · intro h
    obtain ⟨j, hj, e⟩ := List.getElem_of_mem h
    rw [List.length_take] at hj
    refine ⟨j, by omega, ?_⟩
    rw [List.getElem_take] at e
    rw [List.getElem?_eq_getElem (by omega), e]
  · rintro ⟨j, hj, e⟩
    refine List.mem_of_getElem? (i := j) ?_
    rw [List.getElem?_take, if_pos hj, e]

set_option maxHeartbeats 4000000 in
set_option maxRecDepth 100000 in
theorem checkTitles_any (A : Option Addr) (m c : Nat) (L : List (List UInt8)) (n : Nat) (w : World) (h : RdS w A m L) (hm : m ≤ 100000) (hL : ∀ S ∈ L, S.length ≤ 1000) (hn1 : 1 ≤ n) (hn9 : n ≤ 9) :
    Calls Tryd.prog 112 #[.slice A m c, .int .i64 n] w fun e w' => e = .returned (.int .i64 (titledE L (n : Int))) ∧ w = w' := by
  have HLL := Lib.hid h.2
  have HL1 := Lib.hid hL
  have HR := Lib.hid h
  clear hL h
  obtain ⟨cn, hcn⟩ : ∃ x, countR n = x := ⟨_, rfl⟩
  have HC : Hid (Calls Tryd.prog 93 #[.int .i64 n] w fun e w' => e = .returned (.int .i64 cn) ∧ w = w') := Lib.hid (by rw [← hcn]; exact refcount_any n hn9 w)
  have hce : (countE (n : Int)).1 = cn := by unfold countE; rw [if_neg (by omega), Int.toNat_natCast, hcn]
  by_cases hne : (m : Int) = cn
  · have HV : Hid (titledE L (n : Int) = titledGo [] L) := Lib.hid (by unfold titledE; rw [if_neg (by rw [HLL.out, hce]; omega)])
    subst hne
    clear hcn hce
    go_enter Tryd.func112, Tryd.ntmps112
    go_wp2_with fail
    refine HC.out.mono ?_; rintro e w1 ⟨rfl, rfl⟩
    go_wp2_with fail
    go_loop [5] (fun i => ∃ k : Nat, k ≤ m ∧ i = .int .i64 k ∧ titledGo [] L = titledGo (L.take k) (L.drop k)) (fun i => m - (intOf i).toNat)
    case atStart => exact ⟨0, by omega, rfl, rfl⟩
    case round =>
      obtain ⟨k, hk, rfl, hgo⟩ := hrel
      have HGO := Lib.hid hgo
      clear hgo
      by_cases hkm : k < m
      · obtain ⟨ad, S, rfl, _, hS, hcell⟩ := HR.out.at_ hkm
        have hl1 := strs_bd HL1.out hS.out
        have HTA := Lib.hid (HV.out.trans (HGO.out.trans (titledGo_at hS.out)))
        obtain ⟨s, hs⟩ : ∃ s : ByteArray, (⟨S.toArray⟩ : ByteArray) = s := ⟨_, rfl⟩
        have HSS : Hid (s.data.toList = S ∧ s.size = S.length) := Lib.hid ⟨by rw [← hs], by rw [← hs, size_arr]⟩
        rw [hs] at hcell
        have hss : s.size ≤ 1000 := by rw [HSS.out.2]; exact hl1
        clear hs hl1
        by_cases h1 : s.size < 1
        · have HE : Hid (titledE L (n : Int) = 3) := Lib.hid (by rw [HTA.out, if_pos (by unfold okTitle; rw [decide_eq_false (by rw [← HSS.out.2]; omega)]; rfl)])
          go_wp2_with fail
          go_ret
          exact ⟨by rw [HE.out]; rfl, rfl⟩
        by_cases h20 : 20 < s.size
        · have HE : Hid (titledE L (n : Int) = 3) := Lib.hid (by rw [HTA.out, if_pos (by unfold okTitle; rw [decide_eq_false (show ¬ S.length ≤ 20 by rw [← HSS.out.2]; omega)]; simp)])
          go_wp2_with fail
          go_ret
          exact ⟨by rw [HE.out]; rfl, rfl⟩
        have HOK : Hid (okTitle S = (S.all fun c => lowers.contains c)) := Lib.hid (by unfold okTitle; rw [decide_eq_true (show 1 ≤ S.length by rw [← HSS.out.2]; omega), decide_eq_true (show S.length ≤ 20 by rw [← HSS.out.2]; omega)]; rfl)
        go_wp2_with fail
        go_loop [7] (fun i => ∃ j : Nat, j ≤ s.size ∧ i = .int .i64 j ∧ ∀ x, x < j → lowers.contains (S.getD x 0) = true) (fun i => s.size - (intOf i).toNat)
        case atStart => exact ⟨0, by omega, rfl, fun x hx => by omega⟩
        case round =>
          obtain ⟨j, hj, rfl, hall⟩ := hrel
          have HA := Lib.hid hall
          clear hall
          by_cases hjs : j < s.size
          · obtain ⟨ch, hch⟩ : ∃ ch, s[j] = ch := ⟨_, rfl⟩
            have HCH : Hid (S.getD j 0 = ch) := Lib.hid (by rw [← hch, ← HSS.out.1, List.getD_eq_getElem?_getD, List.getElem?_eq_getElem (by simpa using hjs)]; rfl)
            have HLO := Lib.hid (low_iff ch)
            by_cases hb1 : ch.toNat < 97
            · have HE : Hid (titledE L (n : Int) = 3) := Lib.hid (by
                rw [HTA.out, if_pos]
                rw [HOK.out]
                refine Bool.eq_false_iff.2 fun e => ?_
                have := List.all_eq_true.1 e ch (by rw [← HCH.out, List.getD_eq_getElem?_getD, List.getElem?_eq_getElem (by rw [← HSS.out.2]; exact hjs)]; exact List.getElem_mem _)
                rw [HLO.out, decide_eq_false (by omega)] at this
                cases this)
              have hb1I : (ch.toNat : Int) < 97 := by omega
              go_wp2_with fail
              go_ret
              exact ⟨by rw [HE.out]; rfl, rfl⟩
            · by_cases hb2 : 122 < ch.toNat
              · have HE : Hid (titledE L (n : Int) = 3) := Lib.hid (by
                  rw [HTA.out, if_pos]
                  rw [HOK.out]
                  refine Bool.eq_false_iff.2 fun e => ?_
                  have := List.all_eq_true.1 e ch (by rw [← HCH.out, List.getD_eq_getElem?_getD, List.getElem?_eq_getElem (by rw [← HSS.out.2]; exact hjs)]; exact List.getElem_mem _)
                  rw [HLO.out, decide_eq_false (show ¬ ch.toNat ≤ 122 by omega)] at this
                  simp at this)
                have hb2I : (122 : Int) < ch.toNat := by omega
                have hb1I : (97 : Int) ≤ ch.toNat := by omega
                go_wp2_with fail
                go_ret
                exact ⟨by rw [HE.out]; rfl, rfl⟩
              · have HYES : Hid (lowers.contains ch = true) := Lib.hid (by rw [HLO.out, decide_eq_true (by omega), decide_eq_true (by omega)]; rfl)
                have hb2I : (ch.toNat : Int) ≤ 122 := by omega
                have hb1I : (97 : Int) ≤ ch.toNat := by omega
                go_wp2_with fail
                go_round
                case rel => exact ⟨j + 1, by omega, by go_num, fun x hx => by
                  by_cases e : x = j
                  · subst e; rw [HCH.out]; exact HYES.out
                  · exact HA.out x (by omega)⟩
                case measure => simp [intOf]; omega
          · have HALL : Hid (okTitle S = true) := Lib.hid (by
              rw [HOK.out, List.all_eq_true]
              intro x hx
              obtain ⟨i, hi, e⟩ := List.getElem_of_mem hx
              have := HA.out i (by have := HSS.out.2; omega)
              rwa [List.getD_eq_getElem?_getD, List.getElem?_eq_getElem hi, e] at this)
            have HTB := Lib.hid (HTA.out.trans (if_neg (by rw [HALL.out]; simp)))
            clear HA HTA HOK HALL
            go_wp2_with fail
            go_loop [8] (fun i => ∃ q : Nat, q ≤ k ∧ i = .int .i64 q ∧ ∀ x, x < q → L[x]? ≠ some S) (fun i => k - (intOf i).toNat)
            case atStart => exact ⟨0, by omega, rfl, fun x hx => by omega⟩
            case round =>
              obtain ⟨q, hq, rfl, hno⟩ := hrel
              have HN := Lib.hid hno
              clear hno
              by_cases hqk : q < k
              · obtain ⟨ad2, S2, e2, _, hS2, hcell2⟩ := HR.out.at_ (show q < m by omega)
                injection e2 with e2
                subst e2
                obtain ⟨s2, hs2⟩ : ∃ s2 : ByteArray, (⟨S2.toArray⟩ : ByteArray) = s2 := ⟨_, rfl⟩
                have HSS2 : Hid (s2.data.toList = S2) := Lib.hid (by rw [← hs2])
                rw [hs2] at hcell2
                have hqe := str_iff s2 s
                clear hs2
                by_cases he : s2.data.toList = s.data.toList
                · rw [decide_eq_true he] at hqe
                  have HE : Hid (titledE L (n : Int) = 9) := Lib.hid (by rw [HTB.out, if_pos (mem_take_iff.2 ⟨q, hqk, by rw [hS2.out, ← HSS2.out, he, HSS.out.1]⟩)])
                  clear he
                  go_wp2_with fail
                  go_ret
                  exact ⟨by rw [HE.out]; rfl, rfl⟩
                · rw [decide_eq_false he] at hqe
                  have HNE := Lib.hid he
                  clear he
                  go_wp2_with fail
                  go_round
                  case rel => exact ⟨q + 1, by omega, by go_num, fun x hx => by
                    by_cases e : x = q
                    · subst e; rw [hS2.out]; intro e; injection e with e; exact HNE.out (by rw [HSS2.out, e, HSS.out.1])
                    · exact HN.out x (by omega)⟩
                  case measure => simp [intOf]; omega
              · have HNI := Lib.hid (HTB.out.trans (if_neg (fun hm => by obtain ⟨x, hx, e⟩ := mem_take_iff.1 hm; exact HN.out x (by omega) e)))
                go_wp2_with fail
                go_round
                case rel => exact ⟨k + 1, by omega, by go_num, by rw [← HV.out]; exact HNI.out⟩
                case measure => simp [intOf]; omega
      · obtain rfl : k = m := by omega
        have HE : Hid (titledE L (n : Int) = 0) := Lib.hid (by rw [HV.out, HGO.out, List.drop_of_length_le (by rw [HLL.out]; omega)]; rfl)
        go_wp2
        go_ret
        exact ⟨by rw [HE.out]; rfl, rfl⟩
  · have HV : Hid (titledE L (n : Int) = 3) := Lib.hid (by unfold titledE; rw [if_pos (by rw [HLL.out, hce]; omega)])
    clear hcn hce
    go_enter Tryd.func112, Tryd.ntmps112
    go_wp2_with fail
    refine HC.out.mono ?_; rintro e w1 ⟨rfl, rfl⟩
    go_wp2
    go_ret
    exact ⟨by rw [HV.out]; rfl, rfl⟩

set_option maxHeartbeats 1000000 in
set_option maxRecDepth 100000 in
theorem rtitle_any (A B : Option Addr) (m c n d : Nat) (L : List (List UInt8)) (p : List Int) (w : World) (h : RdS w A m L) (hp : RdI w B n p) (hnd : n ≤ d) (hm : m ≤ 100000) (hL : ∀ S ∈ L, S.length ≤ 1000) :
    Calls Tryd.prog 70 #[.slice A m c, .slice B n d] w (TextErr (titleE L p) w) := by
  have HC := Lib.hid (refCheck_any B n d p w hp)
  have hlen := hp.len
  by_cases h0 : chk p = 0
  · by_cases h5 : 5 < n
    · have HV := Lib.hid (show titleE L p = ([], 8) by unfold titleE; rw [if_neg (by omega), if_pos (by omega)])
      rw [h0] at HC
      clear h0 hlen
      go_enter Tryd.func70, Tryd.ntmps70
      go_wp2_with fail
      refine HC.out.mono ?_; rintro e w' ⟨rfl, rfl⟩
      go_wp2
      go_ret2
      exact TextErr.mk_ HV.out (Below.refl _ _)
    · have hn1 : 1 ≤ n := by have := (chk_ok h0).1; omega
      have HT := Lib.hid (checkTitles_any A m c L n w h hm hL hn1 (by omega))
      have HR := Lib.hid (fun W (hW : RdI W B n p) => refRank_any B n d p W hW hnd)
      have HRE : Hid (rankE p = (rnk p, 0)) := Lib.hid (by unfold rankE; rw [if_neg (by omega)])
      have hrk := rnk_lt h0 (by omega)
      by_cases ht : titledE L (n : Int) = 0
      · have hml : (m : Int) = countR n := by
          have := titled_len ht
          unfold countE at this
          rw [if_neg (by omega), Int.toNat_natCast] at this
          have := h.2
          omega
        rw [hlen] at hrk
        obtain ⟨r, hr⟩ : ∃ r : Nat, rnk p = r := ⟨(rnk p).toNat, by omega⟩
        have hrm : r < m := by omega
        have HV := Lib.hid (show titleE L p = (L.getD r [], 0) by unfold titleE; rw [if_neg (by omega), if_neg (by omega), hlen, if_neg (by omega), hr, Int.toNat_natCast])
        rw [h0] at HC
        rw [ht] at HT
        rw [hr] at HRE
        clear h0 hlen hrk hr ht hml
        go_enter Tryd.func70, Tryd.ntmps70
        go_wp2_with fail
        refine HC.out.mono ?_; rintro e w' ⟨rfl, rfl⟩
        go_wp2_with fail
        refine HT.out.mono ?_; rintro e w1 ⟨rfl, rfl⟩
        go_wp2_with fail
        refine (HR.out w hp).mono ?_; rintro e w2 ⟨rfl, b2⟩
        rw [HRE.out]
        have HB2 := Lib.hid b2
        obtain ⟨ad, S, rfl, _, hS, hcell⟩ := (h.below b2).at_ hrm
        clear b2
        go_wp2
        go_ret2
        refine ⟨?_, HB2.out⟩
        rw [HV.out, List.getD_eq_getElem?_getD, hS.out]; rfl
      · have HV := Lib.hid (show titleE L p = ([], titledE L (n : Int)) by unfold titleE; rw [if_neg (by omega), if_neg (by omega), hlen, if_pos ht])
        generalize titledE L (n : Int) = z at HT HV ht
        have g1 : (z == 0) = false := by simpa using ht
        have g2 : (z != 0) = true := by simpa using ht
        rw [h0] at HC
        clear h0 hlen hrk ht
        go_enter Tryd.func70, Tryd.ntmps70
        go_wp2_with fail
        refine HC.out.mono ?_; rintro e w' ⟨rfl, rfl⟩
        go_wp2_with fail
        refine HT.out.mono ?_; rintro e w1 ⟨rfl, rfl⟩
        go_wp2
        go_ret2
        exact TextErr.mk_ HV.out (Below.refl _ _)
  · have HV := Lib.hid (show titleE L p = ([], chk p) by unfold titleE; rw [if_pos h0])
    generalize chk p = z at HC h0 HV
    have g1 : (z == 0) = false := by simpa using h0
    have g2 : (z != 0) = true := by simpa using h0
    clear h0 hlen
    go_enter Tryd.func70, Tryd.ntmps70
    go_wp2_with fail
    refine HC.out.mono ?_; rintro e w' ⟨rfl, rfl⟩
    go_wp2
    go_ret2
    exact TextErr.mk_ HV.out (Below.refl _ _)

set_option maxHeartbeats 1000000 in
set_option maxRecDepth 100000 in
theorem rfind_any (A : Option Addr) (m c : Nat) (L : List (List UInt8)) (n : Int) (t : ByteArray) (w : World) (h : RdS w A m L) (hm : m ≤ 100000) (hL : ∀ S ∈ L, S.length ≤ 1000) :
    Calls Tryd.prog 72 #[.slice A m c, .int .i64 n, .string t] w (IntsErr (findE L n t.data.toList) w) := by
  by_cases hn : n < 1 ∨ 5 < n
  · have HV := Lib.hid (show findE L n t.data.toList = ([], 2) by unfold findE; rw [if_pos hn])
    rcases hn with hn | hn
    · go_enter Tryd.func72, Tryd.ntmps72
      go_wp2
      go_ret2
      rw [HV.out]; exact IntsErr.none_ _ _
    · have hn2 : ¬ n < 1 := by omega
      go_enter Tryd.func72, Tryd.ntmps72
      go_wp2
      go_ret2
      rw [HV.out]; exact IntsErr.none_ _ _
  · obtain ⟨k, rfl⟩ : ∃ k : Nat, n = k := ⟨n.toNat, by omega⟩
    have hk1 : 1 ≤ k := by omega
    have hk5 : k ≤ 5 := by omega
    have HT := Lib.hid (checkTitles_any A m c L k w h hm hL hk1 (by omega))
    have HV0 := Lib.hid (show findE L (k : Int) t.data.toList = if titledE L (k : Int) ≠ 0 then ([], titledE L (k : Int)) else if idxT L t.data.toList < 0 then ([], 7) else unrankE (k : Int) (idxT L t.data.toList) by unfold findE; rw [if_neg hn])
    by_cases ht : titledE L (k : Int) = 0
    · have HV1 := Lib.hid (HV0.out.trans (if_neg (by omega)))
      rw [ht] at HT
      have HLL := Lib.hid h.2
      have HR := Lib.hid h
      clear ht hn HV0 h
      go_enter Tryd.func72, Tryd.ntmps72
      go_wp2_with fail
      refine HT.out.mono ?_; rintro e w1 ⟨rfl, rfl⟩
      go_wp2_with fail
      go_loop [9] (fun i => ∃ q : Nat, q ≤ m ∧ i = .int .i64 q ∧ (∀ j, j < q → L[j]? ≠ some t.data.toList)) (fun i => m - (intOf i).toNat)
      case atStart => exact ⟨0, by omega, rfl, fun j hj => absurd hj (by omega)⟩
      case round =>
        obtain ⟨q, hq, rfl, hno⟩ := hrel
        have HN := Lib.hid hno
        clear hno
        by_cases hlt : q < m
        · obtain ⟨ad, S, rfl, _, hS, hcell⟩ := HR.out.at_ hlt
          obtain ⟨s, hs⟩ : ∃ s : ByteArray, (⟨S.toArray⟩ : ByteArray) = s := ⟨_, rfl⟩
          have HSS : Hid (s.data.toList = S) := Lib.hid (by rw [← hs])
          rw [hs] at hcell
          have hq1 := str_iff s t
          clear hs
          by_cases he : s.data.toList = t.data.toList
          · rw [decide_eq_true he] at hq1
            have HI := Lib.hid (idxT_at (L := L) (t := t.data.toList) (k := q) (by rw [hS.out, ← HSS.out, he]) HN.out)
            have HV : Hid (findE L (k : Int) t.data.toList = unrankE (k : Int) (q : Int)) := Lib.hid (by rw [HV1.out, HI.out, if_neg (by omega)])
            clear he
            go_wp2_with fail
            refine (refUnrank_any (k : Int) (q : Int) w).mono ?_; rintro e w3 ⟨A3, c3, rfl, h3, b3⟩
            have HO := Lib.hid h3
            have HB3 := Lib.hid b3
            clear h3 b3
            go_wp2
            go_ret2
            rw [HV.out]; exact ⟨A3, c3, rfl, HO.out, HB3.out⟩
          · rw [decide_eq_false he] at hq1
            have HE := Lib.hid he
            clear he
            go_wp2_with fail
            go_round
            case rel => exact ⟨q + 1, by omega, by go_num, fun j hj => by
              by_cases e : j = q
              · subst e; rw [hS.out]; intro e; injection e with e; exact HE.out (by rw [HSS.out]; exact e)
              · exact HN.out j (by omega)⟩
            case measure => simp [intOf]; omega
        · have HI := Lib.hid (idxT_none (L := L) (t := t.data.toList) (fun j hj => HN.out j (by have := HLL.out; omega)))
          have HV : Hid (findE L (k : Int) t.data.toList = ([], 7)) := Lib.hid (by rw [HV1.out, HI.out, if_pos (by omega)])
          go_wp2
          go_ret2
          rw [HV.out]; exact IntsErr.none_ _ _
    · have HV := Lib.hid (HV0.out.trans (if_pos ht))
      generalize titledE L (k : Int) = z at HT HV ht
      have g1 : (z == 0) = false := by simpa using ht
      have g2 : (z != 0) = true := by simpa using ht
      clear ht hn HV0
      go_enter Tryd.func72, Tryd.ntmps72
      go_wp2_with fail
      refine HT.out.mono ?_; rintro e w1 ⟨rfl, rfl⟩
      go_wp2
      go_ret2
      rw [HV.out]; exact IntsErr.none_ _ _
end Go.Proofs.YtooepkpgffpcjaaDoor
