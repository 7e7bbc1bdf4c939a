/- Walks: words and titles: the reference's. Walks: the reference's Levels, over, bar, draw, Draw. Walks: the reference's draw and Draw. Walk: the reference's linked. Walks: the reference's Draw and Read. -/
import Derived.Test.YtooepkpgffpcjaaDoorMgR
import Derived.Test.YtooepkpgffpcjaaDoorMgM
import Derived.Test.YtooepkpgffpcjaaDoorMgL
import Derived.Test.YtooepkpgffpcjaaDoorMgO
import Derived.Test.YtooepkpgffpcjaaDoorMgQ
namespace Go.Proofs.YtooepkpgffpcjaaDoor
open Go.RowKit

/-! ### Bytes that are appended, and made a string -/
/-- 'append(s, x)' of a byte, that was laid in a new block first. -/
theorem wpList_appU1 (w : World) {ops : Array Oper} {rest : List Oper} {o : Oper} {a : Act} {Q : Exit → Act → World → Prop} (hgd : o.guard = none) (s x : Operand)
    (ho : o.op = .call { callee := .builtin .append, args := #[s, x], argTypes := #[99, 99] })
    {base n c : Nat} {A : Option Addr} {L : List UInt8} {r : UInt8} {v : Int} (hv : (r.toNat : Int) = v) (t : TypeId) (hs : a.eval s = .slice A n c) (hx : a.eval x = .slice (some ⟨w.heap.size, 0, none⟩) 1 1) (hown : Own w base 5 1 A n c (Lib.byteCells L)) (hnm : n + 1 ≤ 1000000) (hbase : base ≤ w.heap.size)
    (h : ∀ A' c' w', Own w' base 5 1 A' (n + 1) c' (Lib.byteCells (L ++ [r])) → Below base w w' → wpList Tryd.prog ops Q rest (a.put o.dst (.slice A' (n + 1) c')) w') :
    wpList Tryd.prog ops Q (o :: rest) a (w.alloc (.cells #[.int .u8 v] t)) := by
  subst hv
  obtain ⟨i0, hi0, hz0, hz1, hz2⟩ := info_parts byteInfo
  refine wpList_app _ hgd s x 99 ho base 5 i0 _ 1 Tryd.underlying99 hi0 hz0 hz1 hz2 rfl (by decide) A n c (Lib.byteCells L) hs (hown.alloc _) _ 1 1 [.int .u8 (r.toNat : Int)] hx (Rd.one w t _) (fun u hu => by simp at hu; subst hu; rfl) (by omega) (by simp; omega) ?_
  intro A' c' w' h1 h2 h3
  have hg : w.grownBy w' (A.map (·.block)) := grown_trans (World.grownBy_alloc w _ _) h2
  exact h A' c' w' (by rw [← byteCells_snoc]; exact h1) (below_app hown hg hbase)
theorem conv_own {w : World} {base n c : Nat} {A : Option Addr} {L : List UInt8} (h : Own w base 5 1 A n c (Lib.byteCells L)) (h0 : 0 < n) : (convert 99 9 (.slice A n c)).run Tryd.prog w = .ok (.string ⟨L.toArray⟩) w := by
  have hl := h.len
  rw [Lib.byteCells_length] at hl
  obtain ⟨g, rfl, _, _⟩ := h.form h0
  obtain rfl : n = L.length := by omega
  refine run_convert_bytes_back w 99 9 5 ⟨g, 0, none⟩ c L Tryd.underlying99 Tryd.underlying5 Tryd.underlying9 fun j hj => ?_
  rw [add0, h.cellAt j (by omega)]
  simp [Lib.byteCells, hj]

set_option maxHeartbeats 1000000 in
set_option maxRecDepth 100000 in
theorem rspell_any (A : Option Addr) (n c : Nat) (l : List Int) (w : World) (h : RdI w A n l) : Calls Tryd.prog 64 #[.slice A n c] w (TextErr (spellE l) w) := by
  have HC := Lib.hid (refCheck_any A n c l w h)
  by_cases h0 : chk l = 0
  · have HV := Lib.hid (show spellE l = (spellT l, 0) by unfold spellE; rw [if_neg (by omega)])
    have hlen := h.len
    have h9 := (chk_ok h0).2.2.1
    have hn1 : 1 ≤ n := by have := (chk_ok h0).1; omega
    have hn9 : n ≤ 9 := by have := (chk_ok h0).2.1; omega
    have HN := Lib.hid h9
    have HL := Lib.hid hlen
    rw [h0] at HC
    clear h0 h9 hlen
    go_enter Tryd.func64, Tryd.ntmps64
    go_wp2_with fail
    refine HC.out.mono ?_; rintro e w' ⟨rfl, rfl⟩
    go_wp2_with fail
    go_loopw [5, 6] (fun o i wq => ∃ k : Nat, k ≤ n ∧ i = .int .i64 k ∧ ∃ Ao co, o = .slice Ao k co ∧ Own wq w.heap.size 5 1 Ao k co (Lib.byteCells (spellT (l.take k))) ∧ Below w.heap.size w wq) (fun _ i _ => n - (intOf i).toNat)
    case atStart => exact ⟨0, by omega, rfl, none, 0, rfl, Own.nil_ _ _ _ _, Below.refl _ _⟩
    case round =>
      obtain ⟨k, hk, rfl, Ao, co, rfl, hown, hbel⟩ := hrel
      have HO := Lib.hid hown
      have HBW := Lib.hid hbel
      have hsz := hbel.size
      clear hown hbel
      by_cases hlt : k < n
      · obtain ⟨ad, v, rfl, _, hv, _, hcell⟩ := (h.below HBW.out).at_ hlt
        have hv9 := HN.out v (List.mem_of_getElem? hv.out)
        have HT : Hid (spellT (l.take (k + 1)) = spellT (l.take k) ++ [letter v]) := Lib.hid (by rw [take_of_get hv.out]; unfold spellT; rw [List.map_append]; rfl)
        have HLN := Lib.hid (letter_nat hv9.1 hv9.2)
        have hv0 := hv9.1
        have hv1 := hv9.2
        have hk1 : k + 1 ≤ 1000000 := by omega
        clear hv9
        go_wp2_with (at_builtin; go_loud (refine wpList_appU1 _ rfl (.tmp 18) (.tmp 25) rfl (r := letter v) (v := 65 + v) HLN.out _ rfl rfl HO.out hk1 hsz ?_; intro A' c' w3 ko kb; have KO := Lib.hid ko; have KB := Lib.hid (HBW.out.trans kb); clear ko kb))
        go_roundw
        case rel => exact ⟨k + 1, by omega, by go_num, A', c', rfl, by rw [HT.out]; exact KO.out, KB.out⟩
        case measure => simp [intOf]; omega
      · obtain rfl : k = n := by omega
        have HT : Hid (l.take k = l) := Lib.hid (List.take_of_length_le (by have := HL.out; omega))
        rw [HT.out] at HO
        have HCV := Lib.hid (conv_own HO.out (by omega))
        generalize spellT l = T at HO HV HCV
        go_wp2_with fail
        rw [HCV.out]
        simp only [Result.andThen]
        rw [Oper.upon_value]
        go_wp2
        go_ret2
        refine ⟨?_, HBW.out⟩
        rw [HV.out]; rfl
  · have HV := Lib.hid (show spellE l = ([], chk l) by unfold spellE; rw [if_pos h0])
    generalize chk l = z at HC h0 HV
    have g1 : (z == 0) = false := by simpa using h0
    have g2 : (z != 0) = true := by simpa using h0
    clear h0
    go_enter Tryd.func64, Tryd.ntmps64
    go_wp2_with fail
    refine HC.out.mono ?_; rintro e w' ⟨rfl, rfl⟩
    go_wp2
    go_ret2
    exact ⟨by rw [HV.out]; rfl, Below.refl _ _⟩

set_option maxHeartbeats 1000000 in
set_option maxRecDepth 100000 in
theorem rparse_any (s : ByteArray) (w : World) : Calls Tryd.prog 68 #[.string s] w (IntsErr (parseE s.data.toList) w) := by
  have HSZ : Hid (s.data.toList.length = s.size) := Lib.hid (by simp)
  by_cases h0 : s.size = 0
  · have HV := Lib.hid (show parseE s.data.toList = ([], 6) by unfold parseE; rw [if_pos (by rw [HSZ.out]; exact h0)])
    go_enter Tryd.func68, Tryd.ntmps68
    go_wp2
    go_ret2
    rw [HV.out]; exact IntsErr.none_ _ _
  by_cases h9 : 9 < s.size
  · have HV := Lib.hid (show parseE s.data.toList = ([], 8) by unfold parseE; rw [if_neg (by rw [HSZ.out]; exact h0), if_pos (by rw [HSZ.out]; exact h9)])
    go_enter Tryd.func68, Tryd.ntmps68
    go_wp2
    go_ret2
    rw [HV.out]; exact IntsErr.none_ _ _
  · have HV := Lib.hid (show parseE s.data.toList = if chk (partW s.data.toList) ≠ 0 then ([], 3) else (partW s.data.toList, 0) by unfold parseE; rw [if_neg (by rw [HSZ.out]; exact h0), if_neg (by rw [HSZ.out]; exact h9)])
    have g0 : ((s.size : Int) == 0) = false := beq_eq_false_iff_ne.2 (by omega)
    have hpl : (partW s.data.toList).length = s.size := by unfold partW; rw [List.length_map, HSZ.out]
    have HPL := Lib.hid hpl
    clear hpl
    go_enter Tryd.func68, Tryd.ntmps68
    go_wp2_with fail
    go_loopw [4, 5] (fun o i wr => ∃ k : Nat, k ≤ s.size ∧ i = .int .i64 k ∧ ∃ Ao co, o = .slice Ao k co ∧ OwnI wr w.heap.size 3 Ao k co ((partW s.data.toList).take k) ∧ Below w.heap.size w wr) (fun _ i _ => s.size - (intOf i).toNat)
    case atStart => exact ⟨0, by omega, rfl, none, 0, rfl, OwnI.nil_ _ _ _, Below.refl _ _⟩
    case round =>
      obtain ⟨k, hk, rfl, Ao, co, rfl, hown, hbel⟩ := hrel
      have HO := Lib.hid hown
      have HB := Lib.hid hbel
      have hsz := hbel.size
      clear hown hbel
      by_cases hlt : k < s.size
      · have HT : Hid ((partW s.data.toList).take (k + 1) = (partW s.data.toList).take k ++ [(s[k].toNat : Int) - 65]) := Lib.hid (by
          refine take_of_get ?_
          unfold partW
          rw [List.getElem?_map, List.getElem?_eq_getElem (by rw [HSZ.out]; exact hlt)]; rfl)
        have hb : s[k].toNat < 256 := UInt8.toNat_lt _
        obtain ⟨x, hx⟩ : ∃ x, s[k].toNat = x := ⟨_, rfl⟩
        rw [hx] at HT hb
        have hv : I64 ((x : Int) - 65) := I64.small (by omega)
        have hk1 : k + 1 ≤ 1000000 := by omega
        go_wp2_with (at_builtin; go_must (refine wpList_appI1 _ rfl (.tmp 18) (.tmp 24) rfl _ rfl rfl HO.out hv hk1 hsz ?_); intro A' c' w' kk; have KK := Lib.hid kk; clear kk)
        go_roundw
        case rel => exact ⟨k + 1, by omega, by go_num, A', c', rfl, by rw [HT.out]; exact KK.out.own, HB.out.trans KK.out.below⟩
        case measure => simp [intOf]; omega
      · obtain rfl : k = s.size := by omega
        have HT : Hid ((partW s.data.toList).take s.size = partW s.data.toList) := Lib.hid (List.take_of_length_le (by have := HPL.out; omega))
        rw [HT.out] at HO
        have HC := Lib.hid (refCheck_any Ao s.size co (partW s.data.toList) wr HO.out.rd)
        generalize partW s.data.toList = p at HO HC HV HPL
        by_cases hz : chk p = 0
        · rw [if_neg (by omega)] at HV
          rw [hz] at HC
          clear hz
          go_wp2_with fail
          refine HC.out.mono ?_; rintro e w2 ⟨rfl, rfl⟩
          go_wp2
          go_ret2
          rw [HV.out]
          exact ⟨Ao, co, by rw [HPL.out]; rfl, by rw [HPL.out]; exact HO.out, HB.out⟩
        · rw [if_pos hz] at HV
          generalize chk p = z at HC hz
          have g1 : (z == 0) = false := by simpa using hz
          have g2 : (z != 0) = true := by simpa using hz
          clear hz
          go_wp2_with fail
          refine HC.out.mono ?_; rintro e w2 ⟨rfl, rfl⟩
          go_wp2
          go_ret2
          rw [HV.out]
          exact ⟨none, 0, rfl, OwnI.nil_ _ _ _, HB.out⟩

/-! ### Titles -/
theorem low_iff (c : UInt8) : lowers.contains c = (decide (97 ≤ c.toNat) && decide (c.toNat ≤ 122)) := by
  have h : ∀ n, n < 256 → lowers.contains n.toUInt8 = (decide (97 ≤ n) && decide (n ≤ 122)) := by decide +kernel
  have := h c.toNat (UInt8.toNat_lt _)
  rwa [show c.toNat.toUInt8 = c from by simp] at this
theorem mem_take_iff {L : List (List UInt8)} {k : Nat} {S : List UInt8} : S ∈ L.take k ↔ ∃ j, j < k ∧ L[j]? = some S := by
  constructor
  · intro h
    obtain ⟨j, hj, e⟩ := List.getElem_of_mem h
    rw [List.length_take] at hj
    refine ⟨j, by omega, ?_⟩
    rw [List.getElem_take] at e
    rw [List.getElem?_eq_getElem (by omega), e]
  · rintro ⟨j, hj, e⟩
    refine List.mem_of_getElem? (i := j) ?_
    rw [List.getElem?_take, if_pos hj, e]

set_option maxHeartbeats 4000000 in
set_option maxRecDepth 100000 in
theorem checkTitles_any (A : Option Addr) (m c : Nat) (L : List (List UInt8)) (n : Nat) (w : World) (h : RdS w A m L) (hm : m ≤ 100000) (hL : ∀ S ∈ L, S.length ≤ 1000) (hn1 : 1 ≤ n) (hn9 : n ≤ 9) :
    Calls Tryd.prog 112 #[.slice A m c, .int .i64 n] w fun e w' => e = .returned (.int .i64 (titledE L (n : Int))) ∧ w = w' := by
  have HLL := Lib.hid h.2
  have HL1 := Lib.hid hL
  have HR := Lib.hid h
  clear hL h
  obtain ⟨cn, hcn⟩ : ∃ x, countR n = x := ⟨_, rfl⟩
  have HC : Hid (Calls Tryd.prog 93 #[.int .i64 n] w fun e w' => e = .returned (.int .i64 cn) ∧ w = w') := Lib.hid (by rw [← hcn]; exact refcount_any n hn9 w)
  have hce : (countE (n : Int)).1 = cn := by unfold countE; rw [if_neg (by omega), Int.toNat_natCast, hcn]
  by_cases hne : (m : Int) = cn
  · have HV : Hid (titledE L (n : Int) = titledGo [] L) := Lib.hid (by unfold titledE; rw [if_neg (by rw [HLL.out, hce]; omega)])
    subst hne
    clear hcn hce
    go_enter Tryd.func112, Tryd.ntmps112
    go_wp2_with fail
    refine HC.out.mono ?_; rintro e w1 ⟨rfl, rfl⟩
    go_wp2_with fail
    go_loop [5] (fun i => ∃ k : Nat, k ≤ m ∧ i = .int .i64 k ∧ titledGo [] L = titledGo (L.take k) (L.drop k)) (fun i => m - (intOf i).toNat)
    case atStart => exact ⟨0, by omega, rfl, rfl⟩
    case round =>
      obtain ⟨k, hk, rfl, hgo⟩ := hrel
      have HGO := Lib.hid hgo
      clear hgo
      by_cases hkm : k < m
      · obtain ⟨ad, S, rfl, _, hS, hcell⟩ := HR.out.at_ hkm
        have hl1 := strs_bd HL1.out hS.out
        have HTA := Lib.hid (HV.out.trans (HGO.out.trans (titledGo_at hS.out)))
        obtain ⟨s, hs⟩ : ∃ s : ByteArray, (⟨S.toArray⟩ : ByteArray) = s := ⟨_, rfl⟩
        have HSS : Hid (s.data.toList = S ∧ s.size = S.length) := Lib.hid ⟨by rw [← hs], by rw [← hs, size_arr]⟩
        rw [hs] at hcell
        have hss : s.size ≤ 1000 := by rw [HSS.out.2]; exact hl1
        clear hs hl1
        by_cases h1 : s.size < 1
        · have HE : Hid (titledE L (n : Int) = 3) := Lib.hid (by rw [HTA.out, if_pos (by unfold okTitle; rw [decide_eq_false (by rw [← HSS.out.2]; omega)]; rfl)])
          go_wp2_with fail
          go_ret
          exact ⟨by rw [HE.out]; rfl, rfl⟩
        by_cases h20 : 20 < s.size
        · have HE : Hid (titledE L (n : Int) = 3) := Lib.hid (by rw [HTA.out, if_pos (by unfold okTitle; rw [decide_eq_false (show ¬ S.length ≤ 20 by rw [← HSS.out.2]; omega)]; simp)])
          go_wp2_with fail
          go_ret
          exact ⟨by rw [HE.out]; rfl, rfl⟩
        have HOK : Hid (okTitle S = (S.all fun c => lowers.contains c)) := Lib.hid (by unfold okTitle; rw [decide_eq_true (show 1 ≤ S.length by rw [← HSS.out.2]; omega), decide_eq_true (show S.length ≤ 20 by rw [← HSS.out.2]; omega)]; rfl)
        go_wp2_with fail
        go_loop [7] (fun i => ∃ j : Nat, j ≤ s.size ∧ i = .int .i64 j ∧ ∀ x, x < j → lowers.contains (S.getD x 0) = true) (fun i => s.size - (intOf i).toNat)
        case atStart => exact ⟨0, by omega, rfl, fun x hx => by omega⟩
        case round =>
          obtain ⟨j, hj, rfl, hall⟩ := hrel
          have HA := Lib.hid hall
          clear hall
          by_cases hjs : j < s.size
          · obtain ⟨ch, hch⟩ : ∃ ch, s[j] = ch := ⟨_, rfl⟩
            have HCH : Hid (S.getD j 0 = ch) := Lib.hid (by rw [← hch, ← HSS.out.1, List.getD_eq_getElem?_getD, List.getElem?_eq_getElem (by simpa using hjs)]; rfl)
            have HLO := Lib.hid (low_iff ch)
            by_cases hb1 : ch.toNat < 97
            · have HE : Hid (titledE L (n : Int) = 3) := Lib.hid (by
                rw [HTA.out, if_pos]
                rw [HOK.out]
                refine Bool.eq_false_iff.2 fun e => ?_
                have := List.all_eq_true.1 e ch (by rw [← HCH.out, List.getD_eq_getElem?_getD, List.getElem?_eq_getElem (by rw [← HSS.out.2]; exact hjs)]; exact List.getElem_mem _)
                rw [HLO.out, decide_eq_false (by omega)] at this
                cases this)
              have hb1I : (ch.toNat : Int) < 97 := by omega
              go_wp2_with fail
              go_ret
              exact ⟨by rw [HE.out]; rfl, rfl⟩
            · by_cases hb2 : 122 < ch.toNat
              · have HE : Hid (titledE L (n : Int) = 3) := Lib.hid (by
                  rw [HTA.out, if_pos]
                  rw [HOK.out]
                  refine Bool.eq_false_iff.2 fun e => ?_
                  have := List.all_eq_true.1 e ch (by rw [← HCH.out, List.getD_eq_getElem?_getD, List.getElem?_eq_getElem (by rw [← HSS.out.2]; exact hjs)]; exact List.getElem_mem _)
                  rw [HLO.out, decide_eq_false (show ¬ ch.toNat ≤ 122 by omega)] at this
                  simp at this)
                have hb2I : (122 : Int) < ch.toNat := by omega
                have hb1I : (97 : Int) ≤ ch.toNat := by omega
                go_wp2_with fail
                go_ret
                exact ⟨by rw [HE.out]; rfl, rfl⟩
              · have HYES : Hid (lowers.contains ch = true) := Lib.hid (by rw [HLO.out, decide_eq_true (by omega), decide_eq_true (by omega)]; rfl)
                have hb2I : (ch.toNat : Int) ≤ 122 := by omega
                have hb1I : (97 : Int) ≤ ch.toNat := by omega
                go_wp2_with fail
                go_round
                case rel => exact ⟨j + 1, by omega, by go_num, fun x hx => by
                  by_cases e : x = j
                  · subst e; rw [HCH.out]; exact HYES.out
                  · exact HA.out x (by omega)⟩
                case measure => simp [intOf]; omega
          · have HALL : Hid (okTitle S = true) := Lib.hid (by
              rw [HOK.out, List.all_eq_true]
              intro x hx
              obtain ⟨i, hi, e⟩ := List.getElem_of_mem hx
              have := HA.out i (by have := HSS.out.2; omega)
              rwa [List.getD_eq_getElem?_getD, List.getElem?_eq_getElem hi, e] at this)
            have HTB := Lib.hid (HTA.out.trans (if_neg (by rw [HALL.out]; simp)))
            clear HA HTA HOK HALL
            go_wp2_with fail
            go_loop [8] (fun i => ∃ q : Nat, q ≤ k ∧ i = .int .i64 q ∧ ∀ x, x < q → L[x]? ≠ some S) (fun i => k - (intOf i).toNat)
            case atStart => exact ⟨0, by omega, rfl, fun x hx => by omega⟩
            case round =>
              obtain ⟨q, hq, rfl, hno⟩ := hrel
              have HN := Lib.hid hno
              clear hno
              by_cases hqk : q < k
              · obtain ⟨ad2, S2, e2, _, hS2, hcell2⟩ := HR.out.at_ (show q < m by omega)
                injection e2 with e2
                subst e2
                obtain ⟨s2, hs2⟩ : ∃ s2 : ByteArray, (⟨S2.toArray⟩ : ByteArray) = s2 := ⟨_, rfl⟩
                have HSS2 : Hid (s2.data.toList = S2) := Lib.hid (by rw [← hs2])
                rw [hs2] at hcell2
                have hqe := str_iff s2 s
                clear hs2
                by_cases he : s2.data.toList = s.data.toList
                · rw [decide_eq_true he] at hqe
                  have HE : Hid (titledE L (n : Int) = 9) := Lib.hid (by rw [HTB.out, if_pos (mem_take_iff.2 ⟨q, hqk, by rw [hS2.out, ← HSS2.out, he, HSS.out.1]⟩)])
                  clear he
                  go_wp2_with fail
                  go_ret
                  exact ⟨by rw [HE.out]; rfl, rfl⟩
                · rw [decide_eq_false he] at hqe
                  have HNE := Lib.hid he
                  clear he
                  go_wp2_with fail
                  go_round
                  case rel => exact ⟨q + 1, by omega, by go_num, fun x hx => by
                    by_cases e : x = q
                    · subst e; rw [hS2.out]; intro e; injection e with e; exact HNE.out (by rw [HSS2.out, e, HSS.out.1])
                    · exact HN.out x (by omega)⟩
                  case measure => simp [intOf]; omega
              · have HNI := Lib.hid (HTB.out.trans (if_neg (fun hm => by obtain ⟨x, hx, e⟩ := mem_take_iff.1 hm; exact HN.out x (by omega) e)))
                go_wp2_with fail
                go_round
                case rel => exact ⟨k + 1, by omega, by go_num, by rw [← HV.out]; exact HNI.out⟩
                case measure => simp [intOf]; omega
      · obtain rfl : k = m := by omega
        have HE : Hid (titledE L (n : Int) = 0) := Lib.hid (by rw [HV.out, HGO.out, List.drop_of_length_le (by rw [HLL.out]; omega)]; rfl)
        go_wp2
        go_ret
        exact ⟨by rw [HE.out]; rfl, rfl⟩
  · have HV : Hid (titledE L (n : Int) = 3) := Lib.hid (by unfold titledE; rw [if_pos (by rw [HLL.out, hce]; omega)])
    clear hcn hce
    go_enter Tryd.func112, Tryd.ntmps112
    go_wp2_with fail
    refine HC.out.mono ?_; rintro e w1 ⟨rfl, rfl⟩
    go_wp2
    go_ret
    exact ⟨by rw [HV.out]; rfl, rfl⟩

set_option maxHeartbeats 1000000 in
set_option maxRecDepth 100000 in
theorem rtitle_any (A B : Option Addr) (m c n d : Nat) (L : List (List UInt8)) (p : List Int) (w : World) (h : RdS w A m L) (hp : RdI w B n p) (hnd : n ≤ d) (hm : m ≤ 100000) (hL : ∀ S ∈ L, S.length ≤ 1000) :
    Calls Tryd.prog 70 #[.slice A m c, .slice B n d] w (TextErr (titleE L p) w) := by
  have HC := Lib.hid (refCheck_any B n d p w hp)
  have hlen := hp.len
  by_cases h0 : chk p = 0
  · by_cases h5 : 5 < n
    · have HV := Lib.hid (show titleE L p = ([], 8) by unfold titleE; rw [if_neg (by omega), if_pos (by omega)])
      rw [h0] at HC
      clear h0 hlen
      go_enter Tryd.func70, Tryd.ntmps70
      go_wp2_with fail
      refine HC.out.mono ?_; rintro e w' ⟨rfl, rfl⟩
      go_wp2
      go_ret2
      exact TextErr.mk_ HV.out (Below.refl _ _)
    · have hn1 : 1 ≤ n := by have := (chk_ok h0).1; omega
      have HT := Lib.hid (checkTitles_any A m c L n w h hm hL hn1 (by omega))
      have HR := Lib.hid (fun W (hW : RdI W B n p) => refRank_any B n d p W hW hnd)
      have HRE : Hid (rankE p = (rnk p, 0)) := Lib.hid (by unfold rankE; rw [if_neg (by omega)])
      have hrk := rnk_lt h0 (by omega)
      by_cases ht : titledE L (n : Int) = 0
      · have hml : (m : Int) = countR n := by
          have := titled_len ht
          unfold countE at this
          rw [if_neg (by omega), Int.toNat_natCast] at this
          have := h.2
          omega
        rw [hlen] at hrk
        obtain ⟨r, hr⟩ : ∃ r : Nat, rnk p = r := ⟨(rnk p).toNat, by omega⟩
        have hrm : r < m := by omega
        have HV := Lib.hid (show titleE L p = (L.getD r [], 0) by unfold titleE; rw [if_neg (by omega), if_neg (by omega), hlen, if_neg (by omega), hr, Int.toNat_natCast])
        rw [h0] at HC
        rw [ht] at HT
        rw [hr] at HRE
        clear h0 hlen hrk hr ht hml
        go_enter Tryd.func70, Tryd.ntmps70
        go_wp2_with fail
        refine HC.out.mono ?_; rintro e w' ⟨rfl, rfl⟩
        go_wp2_with fail
        refine HT.out.mono ?_; rintro e w1 ⟨rfl, rfl⟩
        go_wp2_with fail
        refine (HR.out w hp).mono ?_; rintro e w2 ⟨rfl, b2⟩
        rw [HRE.out]
        have HB2 := Lib.hid b2
        obtain ⟨ad, S, rfl, _, hS, hcell⟩ := (h.below b2).at_ hrm
        clear b2
        go_wp2
        go_ret2
        refine ⟨?_, HB2.out⟩
        rw [HV.out, List.getD_eq_getElem?_getD, hS.out]; rfl
      · have HV := Lib.hid (show titleE L p = ([], titledE L (n : Int)) by unfold titleE; rw [if_neg (by omega), if_neg (by omega), hlen, if_pos ht])
        generalize titledE L (n : Int) = z at HT HV ht
        have g1 : (z == 0) = false := by simpa using ht
        have g2 : (z != 0) = true := by simpa using ht
        rw [h0] at HC
        clear h0 hlen hrk ht
        go_enter Tryd.func70, Tryd.ntmps70
        go_wp2_with fail
        refine HC.out.mono ?_; rintro e w' ⟨rfl, rfl⟩
        go_wp2_with fail
        refine HT.out.mono ?_; rintro e w1 ⟨rfl, rfl⟩
        go_wp2
        go_ret2
        exact TextErr.mk_ HV.out (Below.refl _ _)
  · have HV := Lib.hid (show titleE L p = ([], chk p) by unfold titleE; rw [if_pos h0])
    generalize chk p = z at HC h0 HV
    have g1 : (z == 0) = false := by simpa using h0
    have g2 : (z != 0) = true := by simpa using h0
    clear h0 hlen
    go_enter Tryd.func70, Tryd.ntmps70
    go_wp2_with fail
    refine HC.out.mono ?_; rintro e w' ⟨rfl, rfl⟩
    go_wp2
    go_ret2
    exact TextErr.mk_ HV.out (Below.refl _ _)

set_option maxHeartbeats 1000000 in
set_option maxRecDepth 100000 in
theorem rfind_any (A : Option Addr) (m c : Nat) (L : List (List UInt8)) (n : Int) (t : ByteArray) (w : World) (h : RdS w A m L) (hm : m ≤ 100000) (hL : ∀ S ∈ L, S.length ≤ 1000) :
    Calls Tryd.prog 72 #[.slice A m c, .int .i64 n, .string t] w (IntsErr (findE L n t.data.toList) w) := by
  by_cases hn : n < 1 ∨ 5 < n
  · have HV := Lib.hid (show findE L n t.data.toList = ([], 2) by unfold findE; rw [if_pos hn])
    rcases hn with hn | hn
    · go_enter Tryd.func72, Tryd.ntmps72
      go_wp2
      go_ret2
      rw [HV.out]; exact IntsErr.none_ _ _
    · have hn2 : ¬ n < 1 := by omega
      go_enter Tryd.func72, Tryd.ntmps72
      go_wp2
      go_ret2
      rw [HV.out]; exact IntsErr.none_ _ _
  · obtain ⟨k, rfl⟩ : ∃ k : Nat, n = k := ⟨n.toNat, by omega⟩
    have hk1 : 1 ≤ k := by omega
    have hk5 : k ≤ 5 := by omega
    have HT := Lib.hid (checkTitles_any A m c L k w h hm hL hk1 (by omega))
    have HV0 := Lib.hid (show findE L (k : Int) t.data.toList = if titledE L (k : Int) ≠ 0 then ([], titledE L (k : Int)) else if idxT L t.data.toList < 0 then ([], 7) else unrankE (k : Int) (idxT L t.data.toList) by unfold findE; rw [if_neg hn])
    by_cases ht : titledE L (k : Int) = 0
    · have HV1 := Lib.hid (HV0.out.trans (if_neg (by omega)))
      rw [ht] at HT
      have HLL := Lib.hid h.2
      have HR := Lib.hid h
      clear ht hn HV0 h
      go_enter Tryd.func72, Tryd.ntmps72
      go_wp2_with fail
      refine HT.out.mono ?_; rintro e w1 ⟨rfl, rfl⟩
      go_wp2_with fail
      go_loop [9] (fun i => ∃ q : Nat, q ≤ m ∧ i = .int .i64 q ∧ (∀ j, j < q → L[j]? ≠ some t.data.toList)) (fun i => m - (intOf i).toNat)
      case atStart => exact ⟨0, by omega, rfl, fun j hj => absurd hj (by omega)⟩
      case round =>
        obtain ⟨q, hq, rfl, hno⟩ := hrel
        have HN := Lib.hid hno
        clear hno
        by_cases hlt : q < m
        · obtain ⟨ad, S, rfl, _, hS, hcell⟩ := HR.out.at_ hlt
          obtain ⟨s, hs⟩ : ∃ s : ByteArray, (⟨S.toArray⟩ : ByteArray) = s := ⟨_, rfl⟩
          have HSS : Hid (s.data.toList = S) := Lib.hid (by rw [← hs])
          rw [hs] at hcell
          have hq1 := str_iff s t
          clear hs
          by_cases he : s.data.toList = t.data.toList
          · rw [decide_eq_true he] at hq1
            have HI := Lib.hid (idxT_at (L := L) (t := t.data.toList) (k := q) (by rw [hS.out, ← HSS.out, he]) HN.out)
            have HV : Hid (findE L (k : Int) t.data.toList = unrankE (k : Int) (q : Int)) := Lib.hid (by rw [HV1.out, HI.out, if_neg (by omega)])
            clear he
            go_wp2_with fail
            refine (refUnrank_any (k : Int) (q : Int) w).mono ?_; rintro e w3 ⟨A3, c3, rfl, h3, b3⟩
            have HO := Lib.hid h3
            have HB3 := Lib.hid b3
            clear h3 b3
            go_wp2
            go_ret2
            rw [HV.out]; exact ⟨A3, c3, rfl, HO.out, HB3.out⟩
          · rw [decide_eq_false he] at hq1
            have HE := Lib.hid he
            clear he
            go_wp2_with fail
            go_round
            case rel => exact ⟨q + 1, by omega, by go_num, fun j hj => by
              by_cases e : j = q
              · subst e; rw [hS.out]; intro e; injection e with e; exact HE.out (by rw [HSS.out]; exact e)
              · exact HN.out j (by omega)⟩
            case measure => simp [intOf]; omega
        · have HI := Lib.hid (idxT_none (L := L) (t := t.data.toList) (fun j hj => HN.out j (by have := HLL.out; omega)))
          have HV : Hid (findE L (k : Int) t.data.toList = ([], 7)) := Lib.hid (by rw [HV1.out, HI.out, if_pos (by omega)])
          go_wp2
          go_ret2
          rw [HV.out]; exact IntsErr.none_ _ _
    · have HV := Lib.hid (HV0.out.trans (if_pos ht))
      generalize titledE L (k : Int) = z at HT HV ht
      have g1 : (z == 0) = false := by simpa using ht
      have g2 : (z != 0) = true := by simpa using ht
      clear ht hn HV0
      go_enter Tryd.func72, Tryd.ntmps72
      go_wp2_with fail
      refine HT.out.mono ?_; rintro e w1 ⟨rfl, rfl⟩
      go_wp2
      go_ret2
      rw [HV.out]; exact IntsErr.none_ _ _
end Go.Proofs.YtooepkpgffpcjaaDoor

namespace Go.Proofs.YtooepkpgffpcjaaDoor
open Go.RowKit

set_option maxHeartbeats 1000000 in
theorem rLevels_any (A : Option Addr) (n c : Nat) (l : List Int) (w : World) (h : RdI w A n l) : Calls Tryd.prog 58 #[.slice A n c] w (IntsErr (levE l) w) := by
  have HC := Lib.hid (refCheck_any A n c l w h)
  by_cases h0 : chk l = 0
  · have HV : Hid (levE l = (levL l, 0)) := Lib.hid (by unfold levE; rw [if_neg (by omega)])
    have HL := Lib.hid (rlevels_any A n c l w h h0)
    rw [h0] at HC
    clear h0 h
    generalize levL l = L at HV HL
    go_enter Tryd.func58, Tryd.ntmps58
    go_wp2_with fail
    refine HC.out.mono ?_; rintro e w' ⟨rfl, rfl⟩
    go_wp2_with fail
    refine HL.out.mono ?_; rintro e w1 ⟨A1, c1, rfl, h1, b1⟩
    have H1 := Lib.hid h1
    have B1 := Lib.hid b1
    clear h1 b1
    go_wp2
    go_ret2
    rw [HV.out]; exact ⟨A1, c1, rfl, H1.out, B1.out⟩
  · have HV : Hid (levE l = ([], chk l)) := Lib.hid (by unfold levE; rw [if_pos h0])
    generalize chk l = z at HC h0 HV
    have g1 : (z == 0) = false := by simpa using h0
    have g2 : (z != 0) = true := by simpa using h0
    clear h0
    go_enter Tryd.func58, Tryd.ntmps58
    go_wp2_with fail
    refine HC.out.mono ?_; rintro e w' ⟨rfl, rfl⟩
    go_wp2
    go_ret2
    rw [HV.out]; exact IntsErr.none_ _ _

/-! ### Whether a bar lies over a place -/
def overB (p : List Int) (row a b : Int) : Bool := (List.range (nBlk p)).any fun k => decide ((barJ p k).2.2 = row) && (decide ((barJ p k).1 ≤ a) && decide (b ≤ (barJ p k).2.1))
theorem overB_iff {p : List Int} {row a b : Int} : overB p row a b = true ↔ ∃ k, k < nBlk p ∧ (barJ p k).2.2 = row ∧ (barJ p k).1 ≤ a ∧ b ≤ (barJ p k).2.1 := by
  unfold overB
  rw [List.any_eq_true]
  constructor
  · rintro ⟨k, hk, e⟩
    simp only [Bool.and_eq_true, decide_eq_true_eq] at e
    exact ⟨k, List.mem_range.1 hk, e.1, e.2.1, e.2.2⟩
  · rintro ⟨k, hk, e1, e2, e3⟩
    exact ⟨k, List.mem_range.2 hk, by simp [e1, e2, e3]⟩
theorem overB_no {p : List Int} {row a b : Int} (h : ∀ k, k < nBlk p → ¬ ((barJ p k).2.2 = row ∧ (barJ p k).1 ≤ a ∧ b ≤ (barJ p k).2.1)) : overB p row a b = false := by
  cases e : overB p row a b with
  | false => rfl
  | true =>
    obtain ⟨k, hk, r⟩ := overB_iff.1 e
    exact absurd r (h k hk)
set_option maxHeartbeats 2000000 in
set_option maxRecDepth 100000 in
theorem over_any (A B : Option Addr) (n c m d : Nat) (p : List Int) (row a b : Int) (w : World) (h : RdI w A n p) (h0 : chk p = 0) (hl : RdI w B m (levL p)) :
    Calls Tryd.prog 122 #[.slice A n c, .slice B m d, .int .i64 row, .int .i64 a, .int .i64 b] w fun e w' => e = .returned (.bool (overB p row a b)) ∧ w = w' := by
  have hml : m = nBlk p := by rw [← hl.len, levL_len]
  have hnb9 := (nBlk_eq h0).2
  have HF := Lib.hid (fun (j f t lv : Nat) (hB : BarAt p j f t lv) => first_any A n c p w h hB)
  have HL := Lib.hid (fun (j f t lv : Nat) (hB : BarAt p j f t lv) => last_any A n c p w h hB)
  have HAT := Lib.hid (fun (j : Nat) (hj : j < nBlk p) => barJ_at h0 hj)
  have HG := Lib.hid (fun (j : Nat) (hj : j < nBlk p) => levL_get hj)
  have HNO := Lib.hid (fun hh => overB_no (p := p) (row := row) (a := a) (b := b) hh)
  have HYES := Lib.hid (fun k hk h1 h2 h3 => overB_iff.2 (⟨k, hk, h1, h2, h3⟩ : ∃ k, k < nBlk p ∧ (barJ p k).2.2 = row ∧ (barJ p k).1 ≤ a ∧ b ≤ (barJ p k).2.1))
  rw [← hml] at hnb9 HAT HG HNO HYES
  clear hml h0 h
  go_enter Tryd.func122, Tryd.ntmps122
  go_wp2_with fail
  go_loop [11] (fun i => ∃ k : Nat, k ≤ m ∧ i = .int .i64 k ∧ ∀ j, j < k → ¬ ((barJ p j).2.2 = row ∧ (barJ p j).1 ≤ a ∧ b ≤ (barJ p j).2.1)) (fun i => m - (intOf i).toNat)
  case atStart => exact ⟨0, by omega, rfl, fun j hj => by omega⟩
  case round =>
    obtain ⟨k, hk, rfl, hno⟩ := hrel
    have HN := Lib.hid hno
    clear hno
    by_cases hkm : k < m
    · obtain ⟨f, t, lv, hj, hBA⟩ := HAT.out k hkm
      have HBA := Lib.hid hBA
      have HY := Lib.hid (HYES.out k hkm)
      rw [hj] at HY
      simp only at HY
      have HJ := Lib.hid hj
      obtain ⟨ad, v, rfl, _, hv, _, hcell⟩ := hl.at_ hkm
      have hvl : v = (lv : Int) := by
        have h1 := HG.out k hkm
        rw [hv.out, hj] at h1
        injection h1
      subst hvl
      clear hj hBA hv
      have hnext : ¬ ((lv : Int) = row ∧ (f : Int) ≤ a ∧ b ≤ (t : Int)) → ∀ j, j < k + 1 → ¬ ((barJ p j).2.2 = row ∧ (barJ p j).1 ≤ a ∧ b ≤ (barJ p j).2.1) := fun hx j hj => by
        by_cases e : j = k
        · subst e; rw [HJ.out]; exact hx
        · exact HN.out j (by omega)
      have HNX := Lib.hid hnext
      clear hnext
      by_cases h1 : (lv : Int) = row
      · have g1 : ((lv : Int) == row) = true := beq_iff_eq.2 h1
        have H1 := Lib.hid h1
        clear h1
        go_wp2_with fail
        refine (HF.out k f t lv HBA.out).mono ?_; rintro e w1 ⟨rfl, rfl⟩
        by_cases h2 : (f : Int) ≤ a
        · go_wp2_with fail
          refine (HL.out k f t lv HBA.out).mono ?_; rintro e w1 ⟨rfl, rfl⟩
          by_cases h3 : b ≤ (t : Int)
          · have HE := Lib.hid (HY.out H1.out h2 h3)
            go_wp2
            go_ret
            exact ⟨ret_bool HE.out.symm, rfl⟩
          · go_wp2_with fail
            go_round
            case rel => exact ⟨k + 1, by omega, by go_num, HNX.out fun hx => by have := hx.2.2; omega⟩
            case measure => simp [intOf]; omega
        · go_wp2_with fail
          go_round
          case rel => exact ⟨k + 1, by omega, by go_num, HNX.out fun hx => by have := hx.2.1; omega⟩
          case measure => simp [intOf]; omega
      · have g1 : ((lv : Int) == row) = false := beq_eq_false_iff_ne.2 h1
        have H1 := Lib.hid h1
        clear h1
        go_wp2_with fail
        go_round
        case rel => exact ⟨k + 1, by omega, by go_num, HNX.out fun hx => H1.out hx.1⟩
        case measure => simp [intOf]; omega
    · obtain rfl : k = m := by omega
      have HE := Lib.hid (HNO.out HN.out)
      go_wp2
      go_ret
      exact ⟨ret_bool HE.out.symm, rfl⟩

/-! ### A packet's sign -/
theorem passes_iff {L : List Bar} {n row i : Int} (m : Nat) (hm : m ≤ L.length) : (pgTo L n row i m).1 = true ↔ ∃ (k : Nat) (b : Bar), k < m ∧ L[k]? = some b ∧ b.2.2 = row ∧ (k : Int) ≠ n ∧ b.1 < i ∧ i < b.2.1 := by
  induction m with
  | zero => simp [pgTo]
  | succ m ih =>
    obtain ⟨b, hb⟩ := getB (l := L) rfl (show m < L.length by omega)
    rw [pgTo_succ hb]
    have ih' := ih (by omega)
    unfold pgBar
    constructor
    · intro h
      by_cases e : b.2.2 = row
      · rw [if_pos e] at h
        simp only [Bool.or_eq_true, Bool.and_eq_true, decide_eq_true_eq] at h
        rcases h with h | h
        · obtain ⟨k, c, hk, r⟩ := ih'.1 h
          exact ⟨k, c, by omega, r⟩
        · exact ⟨m, b, by omega, hb, e, h.1.1, h.1.2, h.2⟩
      · rw [if_neg e] at h
        obtain ⟨k, c, hk, r⟩ := ih'.1 h
        exact ⟨k, c, by omega, r⟩
    · rintro ⟨k, c, hk, hc, e, h0, h1, h2⟩
      by_cases ek : k = m
      · subst ek
        rw [hb] at hc
        injection hc with hc
        subst hc
        rw [if_pos e]
        simp [h0, h1, h2]
      · have := ih'.2 ⟨k, c, by omega, hc, e, h0, h1, h2⟩
        split <;> simp [this]
theorem pass_eq {p : List Int} (h : chk p = 0) {i j f t lv row : Nat} (hj : p.getD i 0 = j) (hB : BarAt p j f t lv) (hne : row ≠ lv) : (pgTo (barsTo p p.length) (p.getD i 0) (row : Int) (i : Int) (barsTo p p.length).length).1 = overB p row ((i : Int) - 1) ((i : Int) + 1) := by
  refine bool_eq_of_iff ?_
  rw [passes_iff _ (Nat.le_refl _), overB_iff]
  constructor
  · rintro ⟨k, b, hk, hb, e, h0, h1, h2⟩
    have : barJ p k = b := by unfold barJ; rw [getD_of_get hb]
    exact ⟨k, hk, by rw [this]; exact e, by rw [this]; omega, by rw [this]; omega⟩
  · rintro ⟨k, hk, e, h1, h2⟩
    obtain ⟨f', t', lv', hk', hB'⟩ := barJ_at h hk
    rw [hk'] at e h1 h2
    simp only at e h1 h2
    refine ⟨k, _, hk, hB'.get, by simp only; omega, fun e9 => hne ?_, by simp only; omega, by simp only; omega⟩
    rw [hj] at e9
    obtain rfl : k = j := by omega
    have e2 := hB.get.symm.trans hB'.get
    injection e2 with e2
    injection e2 with _ e4
    injection e4 with _ e5
    omega
theorem goes_over {p : List Int} (h : chk p = 0) (row i : Nat) : goesL p row i = overB p row (i : Int) ((i : Int) + 1) := by
  refine bool_eq_of_iff ?_
  rw [goesL_iff h, overB_iff]
  constructor
  · rintro ⟨j, f, t, hB, h1, h2⟩
    have hj : j < nBlk p := (List.getElem?_eq_some_iff.1 hB.get).1
    have : barJ p j = ((f : Int), (t : Int), (row : Int)) := by unfold barJ; rw [getD_of_get hB.get]
    exact ⟨j, hj, by rw [this], by rw [this]; simp only; omega, by rw [this]; simp only; omega⟩
  · rintro ⟨k, hk, e, h1, h2⟩
    obtain ⟨f', t', lv', hk', hB'⟩ := barJ_at h hk
    rw [hk'] at e h1 h2
    simp only at e h1 h2
    obtain rfl : lv' = row := by omega
    exact ⟨k, f', t', hB', by omega, by omega⟩
theorem signT_is {p : List Int} (h : chk p = 0) {i j f t lv row : Nat} (hj : p.getD i 0 = j) (hB : BarAt p j f t lv) :
    ((signT p (barsTo p p.length) row i).toNat : Int) = if row < lv then (if overB p row ((i : Int) - 1) ((i : Int) + 1) then 45 else 32) else if row = lv then (if f < t then 111 else 124) else if overB p row ((i : Int) - 1) ((i : Int) + 1) then 120 else 124 := by
  unfold signT
  simp only
  have hown : (barsTo p p.length).getD (p.getD i 0).toNat (0, 0, 0) = ((f : Int), (t : Int), (lv : Int)) := by rw [hj, Int.toNat_natCast, getD_of_get hB.get]
  rw [hown]
  simp only
  by_cases c1 : row < lv
  · rw [if_pos (by omega), if_pos c1, pass_eq h hj hB (by omega)]
    cases overB p row ((i : Int) - 1) ((i : Int) + 1) <;> decide
  · rw [if_neg (by omega), if_neg c1]
    by_cases c2 : row = lv
    · rw [if_pos (by omega), if_pos c2]
      by_cases c3 : f < t
      · rw [if_pos c3, decide_eq_true (by omega)]; decide
      · rw [if_neg c3, decide_eq_false (by omega)]; decide
    · rw [if_neg (by omega), if_neg c2, pass_eq h hj hB c2]
      cases overB p row ((i : Int) - 1) ((i : Int) + 1) <;> decide

set_option maxHeartbeats 2000000 in
set_option maxRecDepth 100000 in
theorem bar_any (A B : Option Addr) (n c m d : Nat) (p : List Int) (i row : Nat) (w : World) (h : RdI w A n p) (h0 : chk p = 0) (hl : RdI w B m (levL p)) (hi : i < n) (hr : row ≤ 100) :
    Calls Tryd.prog 121 #[.slice A n c, .slice B m d, .int .i64 i, .int .i64 row] w fun e w' => e = .returned (.int .u8 ((signT p (barsTo p p.length) row i).toNat : Int)) ∧ ∃ k, w' = w.drewN k := by
  have hn9 : n ≤ 9 := by have := (chk_ok h0).2.1; have := h.len; omega
  have hml : m = nBlk p := by rw [← hl.len, levL_len]
  obtain ⟨j, f, t, lv, hj, hB⟩ := barAt_of h0 (show i < p.length by have := h.len; omega)
  have hjm : j < m := by rw [hml]; exact (List.getElem?_eq_some_iff.1 hB.get).1
  have HO := Lib.hid (over_any A B n c m d p row ((i : Int) - 1) ((i : Int) + 1) w h h0 hl)
  have HS := Lib.hid (signT_is h0 (row := row) hj hB)
  have HF : Hid (∀ W, RdI W A n p → Calls Tryd.prog 120 #[.slice A n c, .int .i64 j] W fun e w' => e = .returned (.int .i64 f) ∧ w' = W) := Lib.hid (fun W hW => (first_any A n c p W hW hB).mono fun _ _ x => ⟨x.1, x.2.symm⟩)
  have HL : Hid (∀ W, RdI W A n p → Calls Tryd.prog 119 #[.slice A n c, .int .i64 j] W fun e w' => e = .returned (.int .i64 t) ∧ w' = W) := Lib.hid (fun W hW => (last_any A n c p W hW hB).mono fun _ _ x => ⟨x.1, x.2.symm⟩)
  obtain ⟨ad, v, rfl, _, hv, _, hcell⟩ := h.at_ hi
  have hvj : v = (j : Int) := by rw [← hj]; exact (getD_of_get hv.out).symm
  subst hvj
  obtain ⟨bd, u, rfl, _, hu, _, hcell2⟩ := hl.at_ hjm
  have hul : u = (lv : Int) := by
    have h1 := levL_get (p := p) (j := j) (by omega)
    rw [hu.out] at h1
    injection h1 with h1
    rw [h1]; unfold barJ; rw [getD_of_get hB.get]
  subst hul
  have hHR := Lib.hid h
  generalize overB p row ((i : Int) - 1) ((i : Int) + 1) = pa at HO HS
  generalize ((signT p (barsTo p p.length) row i).toNat : Int) = res at HS ⊢
  clear hv hu hj hB hml h hl h0
  by_cases c1 : row < lv
  · have c1I : (row : Int) < lv := by omega
    rw [if_pos c1] at HS
    cases pa
    · go_enter Tryd.func121, Tryd.ntmps121
      go_wp2_with fail
      refine HO.out.mono ?_; rintro e w1 ⟨rfl, rfl⟩
      go_wp2
      go_ret
      exact ⟨by rw [HS.out]; rfl, 0, rfl⟩
    · go_enter Tryd.func121, Tryd.ntmps121
      go_wp2_with fail
      refine HO.out.mono ?_; rintro e w1 ⟨rfl, rfl⟩
      go_wp2
      go_ret
      exact ⟨by rw [HS.out]; rfl, 0, rfl⟩
  · rw [if_neg c1] at HS
    have c1I : (lv : Int) ≤ row := by omega
    by_cases c2 : row = lv
    · subst c2
      rw [if_pos rfl] at HS
      by_cases c3 : f < t
      · have c3I : (f : Int) < t := by omega
        rw [if_pos c3] at HS
        go_enter Tryd.func121, Tryd.ntmps121
        go_wp2_with fail
        refine HO.out.mono ?_; rintro e w1 ⟨rfl, rfl⟩
        go_wp2_with fail
        go_quiet (first
          | (go_at_call 120; exact Calls.quiet_of_same (HF.out _ (hHR.out.drewN _)))
          | (go_at_call 119; exact Calls.quiet_of_same (HL.out _ (hHR.out.drewN _))))
        go_wp2
        go_ret
        exact ⟨by rw [HS.out]; rfl, _, rfl⟩
      · have c3I : (t : Int) ≤ f := by omega
        rw [if_neg c3] at HS
        go_enter Tryd.func121, Tryd.ntmps121
        go_wp2_with fail
        refine HO.out.mono ?_; rintro e w1 ⟨rfl, rfl⟩
        go_wp2_with fail
        go_quiet (first
          | (go_at_call 120; exact Calls.quiet_of_same (HF.out _ (hHR.out.drewN _)))
          | (go_at_call 119; exact Calls.quiet_of_same (HL.out _ (hHR.out.drewN _))))
        go_wp2
        go_ret
        exact ⟨by rw [HS.out]; rfl, _, rfl⟩
    · have c2I : ((row : Int) == (lv : Int)) = false := beq_eq_false_iff_ne.2 (by omega)
      have c4I : (lv : Int) < row := by omega
      rw [if_neg c2] at HS
      cases pa
      · go_enter Tryd.func121, Tryd.ntmps121
        go_wp2_with fail
        refine HO.out.mono ?_; rintro e w1 ⟨rfl, rfl⟩
        go_wp2_with fail
        go_quiet (fail)
        go_wp2
        go_ret
        exact ⟨by rw [HS.out]; rfl, _, rfl⟩
      · go_enter Tryd.func121, Tryd.ntmps121
        go_wp2_with fail
        refine HO.out.mono ?_; rintro e w1 ⟨rfl, rfl⟩
        go_wp2_with fail
        go_quiet (fail)
        go_wp2
        go_ret
        exact ⟨by rw [HS.out]; rfl, _, rfl⟩
end Go.Proofs.YtooepkpgffpcjaaDoor

namespace Go.Proofs.YtooepkpgffpcjaaDoor
open Go.RowKit

/-- so many rows, and so many packets of the next one -/
def outTo (p : List Int) (r k : Nat) : List UInt8 := textTo p (barsTo p p.length) r ++ rowTo p (barsTo p p.length) ((r : Int) + 1) k
def stageTo (p : List Int) (r k : Nat) : List UInt8 := if k = p.length then textTo p (barsTo p p.length) (r + 1) else outTo p r k
def sgP (p : List Int) (r k : Nat) : UInt8 := signT p (barsTo p p.length) ((r : Int) + 1) k
theorem stageTo_zero {p : List Int} (h : 1 ≤ p.length) (r : Nat) : stageTo p r 0 = textTo p (barsTo p p.length) r := by
  unfold stageTo outTo; rw [if_neg (by omega)]; simp [rowTo]
theorem stageTo_last {p : List Int} {r k : Nat} (hk : k + 1 = p.length) : stageTo p r (k + 1) = (stageTo p r k ++ [sgP p r k]) ++ [10] := by
  unfold stageTo
  rw [if_pos hk, if_neg (by omega), textTo_succ]
  unfold outTo sgP
  rw [← hk, rowTo_succ]
  unfold cellT
  rw [if_neg (by omega)]
  simp
theorem stageTo_next {p : List Int} (h : chk p = 0) {r k : Nat} (hk : k + 1 < p.length) : stageTo p r (k + 1) = (stageTo p r k ++ [sgP p r k]) ++ [if overB p ((r : Int) + 1) (k : Int) ((k : Int) + 1) then 45 else 32] := by
  have hg := goes_over h (r + 1) k
  rw [Int.natCast_add] at hg
  unfold stageTo
  rw [if_neg (by omega), if_neg (by omega)]
  unfold outTo sgP
  rw [rowTo_succ]
  unfold cellT
  rw [if_pos hk]
  have : sgn 0 (pgTo (barsTo p p.length) (p.getD k 0) ((r : Int) + 1) k (barsTo p p.length).length).2 = if overB p ((r : Int) + 1) (k : Int) ((k : Int) + 1) then 45 else 32 := by
    show sgn 0 (pgTo _ _ _ _ _).2 = _
    have h2 : (pgTo (barsTo p p.length) (p.getD k 0) ((r : Int) + 1) k (barsTo p p.length).length).2 = overB p ((r : Int) + 1) (k : Int) ((k : Int) + 1) := by
      unfold goesL at hg
      rw [Int.natCast_add] at hg
      exact hg
    rw [h2]
    cases overB p ((r : Int) + 1) (k : Int) ((k : Int) + 1) <;> decide
  rw [this]
  simp
theorem stageTo_size {p : List Int} (h : chk p = 0) {r k : Nat} (hr : r ≤ 10) (hk : k ≤ p.length) : (stageTo p r k).length ≤ 220 := by
  have hn := chk_ok h
  unfold stageTo
  split
  · rw [textTo_len1 _ hn.1]
    have : (r + 1) * (2 * p.length) ≤ 11 * 18 := Nat.mul_le_mul (by omega) (by omega)
    omega
  · unfold outTo
    rw [List.length_append, textTo_len1 _ hn.1]
    have h1 : r * (2 * p.length) ≤ 10 * 18 := Nat.mul_le_mul (by omega) (by omega)
    have h2 := rowTo_len p (barsTo p p.length) ((r : Int) + 1) k
    omega
theorem deepTake {l : List Int} {k : Nat} {v : Int} (h : l[k]? = some v) : (l.take (k + 1)).foldl max 0 = max ((l.take k).foldl max 0) v := by rw [take_of_get h, List.foldl_append]; rfl
theorem deep_bd {l : List Int} (h : ∀ v ∈ l, 0 ≤ v ∧ v ≤ 100) (k : Nat) : 0 ≤ (l.take k).foldl max 0 ∧ (l.take k).foldl max 0 ≤ 100 := by
  have key : ∀ (l : List Int) (a : Int), 0 ≤ a → a ≤ 100 → (∀ v ∈ l, 0 ≤ v ∧ v ≤ 100) → 0 ≤ l.foldl max a ∧ l.foldl max a ≤ 100 := by
    intro l
    induction l with
    | nil => intro a h1 h2 _; exact ⟨h1, h2⟩
    | cons x l ih =>
      intro a h1 h2 h3
      have := h3 x (by simp)
      exact ih (max a x) (by omega) (by omega) (fun v hv => h3 v (by simp [hv]))
  exact key _ 0 (by omega) (by omega) (fun v hv => h v (List.mem_of_mem_take hv))
theorem levL_bd {p : List Int} (h : chk p = 0) : ∀ v ∈ levL p, 0 ≤ v ∧ v ≤ 100 := by
  intro v hv
  obtain ⟨j, hj, e⟩ := List.getElem_of_mem hv
  rw [levL_len] at hj
  have h1 := levL_get hj
  rw [List.getElem?_eq_getElem (by rw [levL_len]; exact hj), e] at h1
  injection h1 with h1
  obtain ⟨f, t, lv, hJ, hB⟩ := barJ_at h hj
  obtain ⟨hinv, _⟩ := barsTo_inv h p.length (Nat.le_refl _)
  have h8 := (hinv.bd j _ hB.get).2.2.2.2.2
  have h9 := (nBlk_eq h).2
  rw [hJ] at h1
  simp only at h1 h8
  omega

set_option maxHeartbeats 4000000 in
set_option maxRecDepth 100000 in
theorem rdraw_any (A : Option Addr) (n c : Nat) (p : List Int) (w : World) (h : RdI w A n p) (h0 : chk p = 0) : Calls Tryd.prog 102 #[.slice A n c] w fun e w' => e = .returned (.string ⟨(drawT p).toArray⟩) ∧ Below w.heap.size w w' := by
  have hn := h.len
  have hn1 : 1 ≤ n := by have := (chk_ok h0).1; omega
  have hn9 : n ≤ 9 := by have := (chk_ok h0).2.1; omega
  have hmb := most_bd h0
  obtain ⟨mo, hmo⟩ : ∃ mo : Nat, mostOf (barsTo p p.length) = mo := ⟨(mostOf (barsTo p p.length)).toNat, by omega⟩
  have hmo9 : mo ≤ 9 := by omega
  have HDP : Hid ((levL p).foldl max 0 = mo) := Lib.hid (by unfold levL; rw [deep_most, hmo])
  have HDT : Hid (drawT p = textTo p (barsTo p p.length) (mo + 1)) := Lib.hid (by show textTo p _ _ = _; rw [hmo, Int.toNat_natCast])
  have HLV := Lib.hid (rlevels_any A n c p w h h0)
  have HLB := Lib.hid (levL_bd h0)
  have HBR : Hid (∀ W B m d (i r : Nat), RdI W A n p → RdI W B m (levL p) → i < n → r ≤ 99 → Calls Tryd.prog 121 #[.slice A n c, .slice B m d, .int .i64 i, .int .i64 ((r : Int) + 1)] W fun e w' => e = .returned (.int .u8 ((sgP p r i).toNat : Int)) ∧ ∃ k, w' = W.drewN k) := Lib.hid (fun W B m d i r h1 h2 h3 h4 => by
    have := bar_any A B n c m d p i (r + 1) W h1 h0 h2 h3 (by omega)
    rw [Int.natCast_add] at this
    exact this)
  have HOV : Hid (∀ W B m d (row a b : Int), RdI W A n p → RdI W B m (levL p) → Calls Tryd.prog 122 #[.slice A n c, .slice B m d, .int .i64 row, .int .i64 a, .int .i64 b] W fun e w' => e = .returned (.bool (overB p row a b)) ∧ W = w') := Lib.hid (fun W B m d row a b h1 h2 => over_any A B n c m d p row a b W h1 h0 h2)
  have HZ := Lib.hid (fun r => stageTo_zero (p := p) (by omega) r)
  have HLA := Lib.hid (fun (r k : Nat) (hk : k + 1 = n) => stageTo_last (p := p) (r := r) (k := k) (by omega))
  have HNX := Lib.hid (fun (r k : Nat) (hk : k + 1 < n) => stageTo_next h0 (r := r) (k := k) (by omega))
  have HSZ := Lib.hid (fun (r k : Nat) (hr : r ≤ 10) (hk : k ≤ n) => stageTo_size h0 (r := r) (k := k) hr (by omega))
  have HEN : Hid (∀ r, stageTo p r n = textTo p (barsTo p p.length) (r + 1)) := Lib.hid (fun r => by unfold stageTo; rw [if_pos (by omega)])
  have HR := Lib.hid h
  have HTL : Hid (∀ r, (textTo p (barsTo p p.length) r).length = r * (2 * n)) := Lib.hid (fun r => by rw [textTo_len1 _ (by omega), hn])
  have hnb9 : (levL p).length ≤ 9 := by rw [levL_len]; exact (nBlk_eq h0).2
  clear hmo hmb h h0 hn
  have HZL : Hid (textTo p (barsTo p p.length) 0 = []) := Lib.hid rfl
  generalize drawT p = D at HDT ⊢
  generalize textTo p (barsTo p p.length) = TX at HDT HZ HEN HTL HZL
  go_enter Tryd.func102, Tryd.ntmps102
  go_wp2_with fail
  refine HLV.out.mono ?_; rintro e w1 ⟨B, bc, rfl, hB, b1⟩
  obtain ⟨m, hm⟩ : ∃ m, (levL p).length = m := ⟨_, rfl⟩
  rw [hm] at hB hnb9 ⊢
  have HM := Lib.hid hm
  have HL1 := Lib.hid hB.rd
  have HB1 := Lib.hid b1
  have HR1 := Lib.hid (HR.out.below b1)
  clear hB b1 hm
  go_wp2_with fail
  go_loopw [4, 5] (fun de i wr => ∃ k : Nat, k ≤ m ∧ i = .int .i64 k ∧ de = .int .i64 (((levL p).take k).foldl max 0) ∧ wr = w1) (fun _ i _ => m - (intOf i).toNat)
  case atStart => exact ⟨0, by omega, rfl, rfl, rfl⟩
  case round =>
    obtain ⟨k, hk, rfl, rfl, rfl⟩ := hrel
    have hbd := deep_bd HLB.out k
    by_cases hkm : k < m
    · obtain ⟨ad, v, rfl, _, hv, _, hcell⟩ := HL1.out.at_ hkm
      have hvb := HLB.out v (List.mem_of_getElem? hv.out)
      have HDK := Lib.hid (deepTake hv.out)
      generalize ((levL p).take k).foldl max 0 = de at hbd HDK ⊢
      have hbd0 := hbd.1
      have hbd1 := hbd.2
      have hv0 := hvb.1
      have hv1 := hvb.2
      clear hbd hvb
      go_wp2_with fail
      go_roundw
      case rel => exact ⟨k + 1, by omega, by go_num, by rw [HDK.out, ← maxI], trivial⟩
      case measure => simp [intOf]; omega
    · obtain rfl : k = m := by omega
      have HDE : Hid (((levL p).take k).foldl max 0 = (mo : Int)) := Lib.hid (by rw [List.take_of_length_le (by rw [HM.out]; omega)]; exact HDP.out)
      rw [HDE.out]
      clear hbd
      obtain ⟨w2, rfl⟩ : ∃ w2 : World, w2 = wr := ⟨_, rfl⟩
      go_wp2_with fail
      go_loopw [6, 7] (fun o rw_ wq => ∃ r : Nat, r ≤ mo + 1 ∧ rw_ = .int .i64 ((r : Int) + 1) ∧ ∃ (q : Nat) (Ao : Option Addr) (co : Nat), o = .slice Ao q co ∧ Own wq w2.heap.size 5 1 Ao q co (Lib.byteCells (TX r)) ∧ Below w2.heap.size w2 wq) (fun _ rw_ _ => mo + 2 - (intOf rw_).toNat)
      case atStart => exact ⟨0, by omega, rfl, 0, none, 0, rfl, by have := HZL.out; rw [this]; exact Own.nil_ _ _ _ _, Below.refl _ _⟩
      case round =>
        obtain ⟨r, hr, rfl, q, Ao, co, rfl, hown, hbel⟩ := hrel
        have HO := Lib.hid hown
        have HW := Lib.hid hbel
        clear hown hbel
        by_cases hrm : r < mo + 1
        · have hrI : (r : Int) + 1 ≤ (mo : Int) + 1 := by omega
          have HO0 : Hid (Own wr w2.heap.size 5 1 Ao q co (Lib.byteCells (stageTo p r 0))) := Lib.hid (by rw [HZ.out r]; exact HO.out)
          clear HO
          go_wp2_with fail
          go_loopw [6, 8] (fun o i wq => ∃ k2 : Nat, k2 ≤ n ∧ i = .int .i64 k2 ∧ ∃ (q : Nat) (Ao : Option Addr) (co : Nat), o = .slice Ao q co ∧ Own wq w2.heap.size 5 1 Ao q co (Lib.byteCells (stageTo p r k2)) ∧ Below w2.heap.size w2 wq) (fun _ i _ => n - (intOf i).toNat)
          case atStart => exact ⟨0, by omega, rfl, q, Ao, co, rfl, HO0.out, HW.out⟩
          case round =>
            obtain ⟨i, hi, rfl, q, Ao, co, rfl, hown, hbel⟩ := hrel
            have HO := Lib.hid hown
            have HWi := Lib.hid hbel
            have hq := hown.len
            rw [Lib.byteCells_length] at hq
            have hqs : q ≤ 220 := by have := HSZ.out r i (by omega) hi; omega
            clear hown hbel HO0 HW hq
            by_cases hin : i < n
            · by_cases hlast : i + 1 = n
              · have gl : ((i : Int) == (n : Int) - 1) = true := beq_iff_eq.2 (by omega)
                have HLA2 := Lib.hid (HLA.out r i hlast)
                clear hlast
                go_wp2_with fail
                refine (HBR.out wr B k bc i r (HR1.out.below HWi.out) (HL1.out.below HWi.out) hin (by omega)).mono ?_; rintro e w3 ⟨rfl, d3, hw3⟩
                have HO3 : Hid (Own w3 w2.heap.size 5 1 Ao q co (Lib.byteCells (stageTo p r i))) := Lib.hid (by rw [hw3]; exact HO.out.drewN d3)
                have HW3 : Hid (Below w2.heap.size w2 w3) := Lib.hid (by rw [hw3]; exact below_drewN HWi.out d3)
                have hsz3 := HW3.out.size
                clear hw3 HO HWi
                go_wp2_with (at_builtin; go_loud (first
                  | (refine wpList_appU1 _ rfl (.tmp 35) (.tmp 41) rfl (r := sgP p r i) rfl _ rfl rfl HO3.out (by omega) hsz3 ?_; intro A4 c4 w4 ko kb; have HO4 := Lib.hid ko; have HW4 := Lib.hid (HW3.out.trans kb); have hsz4 := HW4.out.size; clear ko kb)
                  | (refine wpList_appU1 _ rfl (.tmp 52) (.tmp 53) rfl (r := 10) rfl _ rfl rfl HO4.out (by omega) hsz4 ?_; intro A5 c5 w5 ko kb; have HO5 := Lib.hid ko; have HW5 := Lib.hid (HW4.out.trans kb); clear ko kb)))
                go_roundw
                case rel => exact ⟨i + 1, by omega, by go_num, q + 1 + 1, A5, c5, rfl, by rw [HLA2.out]; exact HO5.out, HW5.out⟩
                case measure => simp [intOf]; omega
              · have gl : ((i : Int) == (n : Int) - 1) = false := beq_eq_false_iff_ne.2 (by omega)
                have HNX2 := Lib.hid (HNX.out r i (by omega))
                clear hlast
                go_wp2_with fail
                refine (HBR.out wr B k bc i r (HR1.out.below HWi.out) (HL1.out.below HWi.out) hin (by omega)).mono ?_; rintro e w3 ⟨rfl, d3, hw3⟩
                have HO3 : Hid (Own w3 w2.heap.size 5 1 Ao q co (Lib.byteCells (stageTo p r i))) := Lib.hid (by rw [hw3]; exact HO.out.drewN d3)
                have HW3 : Hid (Below w2.heap.size w2 w3) := Lib.hid (by rw [hw3]; exact below_drewN HWi.out d3)
                have hsz3 := HW3.out.size
                clear hw3 HO HWi
                go_wp2_with (at_builtin; go_loud (
                  refine wpList_appU1 _ rfl (.tmp 35) (.tmp 41) rfl (r := sgP p r i) rfl _ rfl rfl HO3.out (by omega) hsz3 ?_; intro A4 c4 w4 ko kb; have HO4 := Lib.hid ko; have HW4 := Lib.hid (HW3.out.trans kb); have hsz4 := HW4.out.size; clear ko kb))
                refine (HOV.out w4 B k bc ((r : Int) + 1) i ((i : Int) + 1) (HR1.out.below HW4.out) (HL1.out.below HW4.out)).mono ?_; rintro e w6 ⟨rfl, hw6⟩
                have HO6 : Hid (Own w6 w2.heap.size 5 1 A4 (q + 1) c4 (Lib.byteCells (stageTo p r i ++ [sgP p r i]))) := Lib.hid (by rw [← hw6]; exact HO4.out)
                have HW6 : Hid (Below w2.heap.size w2 w6) := Lib.hid (by rw [← hw6]; exact HW4.out)
                have hsz6 := HW6.out.size
                clear hw6 HO4 HW4 hsz4
                generalize overB p ((r : Int) + 1) (i : Int) ((i : Int) + 1) = ov at HNX2 ⊢
                cases ov
                · go_wp2_with (at_builtin; go_loud (
                    refine wpList_appU1 _ rfl (.tmp 43) (.tmp 44) rfl (r := 32) rfl _ rfl rfl HO6.out (by omega) hsz6 ?_; intro A5 c5 w5 ko kb; have HO5 := Lib.hid ko; have HW5 := Lib.hid (HW6.out.trans kb); clear ko kb))
                  go_roundw
                  case rel => exact ⟨i + 1, by omega, by go_num, q + 1 + 1, A5, c5, rfl, by rw [HNX2.out]; exact HO5.out, HW5.out⟩
                  case measure => simp [intOf]; omega
                · go_wp2_with (at_builtin; go_loud (
                    refine wpList_appU1 _ rfl (.tmp 63) (.tmp 64) rfl (r := 45) rfl _ rfl rfl HO6.out (by omega) hsz6 ?_; intro A5 c5 w5 ko kb; have HO5 := Lib.hid ko; have HW5 := Lib.hid (HW6.out.trans kb); clear ko kb))
                  go_roundw
                  case rel => exact ⟨i + 1, by omega, by go_num, q + 1 + 1, A5, c5, rfl, by rw [HNX2.out]; exact HO5.out, HW5.out⟩
                  case measure => simp [intOf]; omega
            · obtain rfl : i = n := by omega
              have HO' : Hid (Own wr w2.heap.size 5 1 Ao q co (Lib.byteCells (TX (r + 1)))) := Lib.hid (by rw [← HEN.out r]; exact HO.out)
              clear HO
              go_wp2_with fail
              go_roundw
              case rel => exact ⟨r + 1, by omega, by go_num, q, Ao, co, rfl, HO'.out, HWi.out⟩
              case measure => simp [intOf]; omega
        · obtain rfl : r = mo + 1 := by omega
          have hl := HO.out.len
          rw [Lib.byteCells_length, HTL.out (mo + 1)] at hl
          have hq1 : 0 < q := by
            have : 1 * (2 * 1) ≤ (mo + 1) * (2 * n) := Nat.mul_le_mul (by omega) (by omega)
            omega
          have HCV := Lib.hid (conv_own HO.out hq1)
          clear hl hq1
          go_wp2_with fail
          rw [HCV.out]
          simp only [Result.andThen]
          rw [Oper.upon_value]
          go_wp2
          go_ret
          refine ⟨?_, HB1.out.trans (HW.out.mono HB1.out.size)⟩
          rw [HDT.out]; rfl
end Go.Proofs.YtooepkpgffpcjaaDoor

namespace Go.Proofs.YtooepkpgffpcjaaDoor
open Go.RowKit

theorem u8_ne {c d : UInt8} (h : c ≠ d) : ((c.toNat : Int) != (d.toNat : Int)) = true := by
  rw [bne_iff_ne]
  intro e
  exact h (UInt8.toNat_inj.1 (by omega))
def iotaTo (n k : Nat) : List Int := (List.range n).map fun i => if i < k then (i : Int) else 0
theorem iotaTo_set {n k : Nat} (hk : k < n) : iotaTo n (k + 1) = (iotaTo n k).set k k := by
  apply List.ext_getElem
  · simp [iotaTo]
  · intro i h1 h2
    simp only [iotaTo, List.length_map, List.length_range] at h1
    simp only [iotaTo, List.getElem_map, List.getElem_range, List.getElem_set]
    by_cases e : k = i
    · rw [if_pos (by omega), if_pos e, e]
    · rw [if_neg e]
      by_cases e2 : i < k
      · rw [if_pos (by omega), if_pos e2]
      · rw [if_neg (by omega), if_neg e2]
theorem iotaTo_full (n : Nat) : iotaTo n n = (List.range n).map Int.ofNat := by
  unfold iotaTo
  refine List.map_congr_left fun i hi => ?_
  rw [if_pos (List.mem_range.1 hi)]; rfl
theorem iotaTo_zero (n : Nat) : iotaTo n 0 = List.replicate n 0 := by
  unfold iotaTo
  simp [List.map_const']
theorem iotaTo_bd {n k : Nat} (hn : n ≤ 1000) : (iotaTo n k).length = n ∧ ∀ v ∈ iotaTo n k, I64 v := by
  refine ⟨by simp [iotaTo], fun v hv => ?_⟩
  unfold iotaTo at hv
  obtain ⟨i, hi, rfl⟩ := List.mem_map.1 hv
  have := List.mem_range.1 hi
  split <;> exact I64.small (by omega)

set_option maxHeartbeats 4000000 in
set_option maxRecDepth 100000 in
theorem linked_any (s : ByteArray) (n : Nat) (w : World) (h1 : 1 ≤ n) (h9 : n ≤ 9) (hs : s.size ≤ 400) : Calls Tryd.prog 108 #[.string s, .int .i64 n] w fun e w' => ∃ A c, e = .returned (.slice A n c) ∧ OwnI w' w.heap.size 3 A n c (linkF s.data.toList n (s.size / (2 * n))) ∧ Below w.heap.size w w' := by
  obtain ⟨t, ht⟩ : ∃ t, s.data.toList = t := ⟨_, rfl⟩
  have HAT : Hid (∀ (i : Nat) (h : i < s.size), s[i] = t.getD i 0) := Lib.hid (fun i h => by
    subst ht
    rw [List.getD_eq_getElem?_getD, List.getElem?_eq_getElem (by simpa using h)]; rfl)
  obtain ⟨R, hR⟩ : ∃ R, s.size / (2 * n) = R := ⟨_, rfl⟩
  have HRL : Hid (∀ r : Nat, r * (2 * n) + 2 * n ≤ s.size ↔ r < R) := Lib.hid (fun r => by
    rw [← hR, Nat.lt_iff_add_one_le, Nat.le_div_iff_mul_le (by omega), Nat.add_mul, Nat.one_mul])
  rw [ht, hR]
  obtain ⟨i0, hi0, hz0, hz1, hz2⟩ := info_parts intInfo
  clear ht hR
  go_enter Tryd.func108, Tryd.ntmps108
  go_upto_region 2 with (at_make; go_must (refine wpList_make_full w rfl (.tmp 10) (.tmp 10) 22 rfl w.heap.size 3 i0 (.int .i64 0) 1 Tryd.underlying22 hi0 hz0 hz1 .i64 .i64 n n n rfl rfl rfl rfl (by rw [hz2]; omega) (by unfold maxLen; omega) (Nat.le_refl _) ?_); intro w3 hown hg3)
  have HO3 : Hid (OwnI w3 w.heap.size 3 (some ⟨w.heap.size, 0, none⟩) n n (iotaTo n 0)) := by
    refine ⟨⟨?_, by omega⟩, (iotaTo_bd (by omega)).2⟩
    rw [show (madeCells (Value.int .i64 0).cells (n * 1)).toList = ints (iotaTo n 0) from by rw [Nat.mul_one]; show (madeCells #[Value.int .i64 0] n).toList = _; rw [toList_madeCells_one, iotaTo_zero]; simp [ints]] at hown
    exact hown
  have HB3 := Lib.hid ((Below.refl w.heap.size w).grown hg3 (Nat.le_refl _) (by simp))
  clear hown hg3 hi0 hz0 hz1 hz2 i0
  go_wp2_with fail
  go_loopw [6] (fun i wr => ∃ k : Nat, k ≤ n ∧ i = .int .i64 k ∧ OwnI wr w.heap.size 3 (some ⟨w.heap.size, 0, none⟩) n n (iotaTo n k) ∧ Below w.heap.size w wr) (fun i _ => n - (intOf i).toNat)
  case atStart => exact ⟨0, by omega, rfl, HO3.out, HB3.out⟩
  case round =>
    obtain ⟨k, hk, rfl, hown, hbel⟩ := hrel
    have HO := Lib.hid hown
    have HB := Lib.hid hbel
    clear hown hbel HO3 HB3
    by_cases hkn : k < n
    · obtain ⟨u, hu⟩ : ∃ u, (iotaTo n k)[k]? = some u := ⟨_, get_getD (by simp [iotaTo]; omega)⟩
      have hc2 := HO.out.cellAt hu
      have hfz := HO.out.frozenAt k
      have HO2 : Hid (OwnI (wr.setCell ⟨w.heap.size, k, none⟩ (.int .i64 k)) w.heap.size 3 (some ⟨w.heap.size, 0, none⟩) n n (iotaTo n (k + 1))) := Lib.hid (by rw [iotaTo_set hkn]; exact HO.out.stored k (I64.small (by omega)))
      have HB2 := Lib.hid (HB.out.setCell (p := ⟨w.heap.size, k, none⟩) (Nat.le_refl _) (.int .i64 k))
      clear hu
      go_wp2_with fail
      go_roundw
      case rel => exact ⟨k + 1, by omega, by go_num, HO2.out, HB2.out⟩
      case measure => simp [intOf]; omega
    · obtain rfl : k = n := by omega
      have HO4 : Hid (OwnI wr w.heap.size 3 (some ⟨w.heap.size, 0, none⟩) k k (linkF t k 0)) := Lib.hid (by
        show OwnI _ _ _ _ _ _ ((List.range k).map Int.ofNat)
        rw [← iotaTo_full]; exact HO.out)
      clear HO
      go_wp2_with fail
      go_loopw [7] (fun a wr => ∃ r at_ : Nat, r ≤ R ∧ r * (2 * k) = at_ ∧ at_ ≤ s.size ∧ a = .int .i64 at_ ∧ OwnI wr w.heap.size 3 (some ⟨w.heap.size, 0, none⟩) k k (linkF t k r) ∧ Below w.heap.size w wr) (fun a _ => s.size - (intOf a).toNat)
      case atStart => exact ⟨0, 0, by omega, by omega, by omega, rfl, HO4.out, HB.out⟩
      case round =>
        obtain ⟨r, at_, hr, hat, hatl, rfl, hown, hbel⟩ := hrel
        have HRA := Lib.hid hat
        have HO := Lib.hid hown
        have HB := Lib.hid hbel
        have hrl := HRL.out r
        rw [hat] at hrl
        clear hown hbel hat HO4
        by_cases hlt : r < R
        · have hfit : at_ + 2 * k ≤ s.size := hrl.2 hlt
          have HLS : Hid (linkF t k (r + 1) = (linkTo t at_ (linkF t k r) k).1) := Lib.hid (by rw [linkF_succ, HRA.out])
          have HLL := Lib.hid (linkF_len t k r)
          generalize linkF t k r = lab at HO HLS HLL
          clear hrl
          go_wp2_with fail
          go_loopw [8, 9] (fun fr i wr => ∃ (q : Nat) (lk : List Int) (f : Int), q ≤ k ∧ i = .int .i64 q ∧ fr = .int .i64 f ∧ linkTo t at_ lab q = (lk, f) ∧ -1 ≤ f ∧ f < q ∧ OwnI wr w.heap.size 3 (some ⟨w.heap.size, 0, none⟩) k k lk ∧ Below w.heap.size w wr) (fun _ i _ => k - (intOf i).toNat)
          case atStart => exact ⟨0, lab, -1, by omega, rfl, rfl, rfl, by omega, by omega, HO.out, HB.out⟩
          case round =>
            obtain ⟨i, lk, f, hi, rfl, rfl, hlk, hf0, hf1, hown, hbel⟩ := hrel
            have HLK := Lib.hid hlk
            have HO := Lib.hid hown
            have HBL := Lib.hid hbel
            have HLE := Lib.hid hown.len
            clear hlk hown hbel
            by_cases hin : i < k
            · by_cases hi0 : i = 0
              · subst hi0
                obtain rfl : f = -1 := by omega
                have hjs : at_ < s.size := by omega
                have hsj := HAT.out at_ hjs
                generalize hcj : t.getD at_ 0 = cj at hsj
                have HCJ := Lib.hid hcj
                clear hcj hf0 hf1 hi
                by_cases h2 : cj = 111
                · have g2 : ((cj.toNat : Int) != 111) = false := by rw [h2]; rfl
                  have HE : Hid (linkTo t at_ lab 1 = (lk, 0)) := Lib.hid (by rw [linkTo_succ, HLK.out]; unfold linkStep; simp only [Nat.mul_zero, Nat.add_zero]; rw [HCJ.out]; simp [h2])
                  clear h2
                  go_wp2_with fail
                  go_roundw
                  case rel => exact ⟨1, lk, 0, by omega, by go_num, rfl, HE.out, by omega, by omega, HO.out, HBL.out⟩
                  case measure => simp [intOf]; omega
                · have g2 : ((cj.toNat : Int) != 111) = true := u8_ne (d := 111) h2
                  have HE : Hid (linkTo t at_ lab 1 = (lk, -1)) := Lib.hid (by rw [linkTo_succ, HLK.out]; unfold linkStep; simp only [Nat.mul_zero, Nat.add_zero]; rw [HCJ.out]; simp [h2])
                  clear h2
                  go_wp2_with fail
                  go_roundw
                  case rel => exact ⟨1, lk, -1, by omega, by go_num, rfl, HE.out, by omega, by omega, HO.out, HBL.out⟩
                  case measure => simp [intOf]; omega
              · have hipos0 : 0 < i := by omega
                obtain ⟨j, hj⟩ : ∃ j, at_ + 2 * i = j := ⟨_, rfl⟩
                have hjI : (at_ : Int) + 2 * (i : Int) = (j : Int) := by omega
                have hjs : j < s.size := by omega
                have hsj := HAT.out j hjs
                generalize hcj : t.getD j 0 = cj at hsj
                have HJ := Lib.hid hj
                have HCJ := Lib.hid hcj
                clear hj hcj
                obtain ⟨v, hv⟩ : ∃ v, j = v + 1 := ⟨j - 1, by have := HJ.out; omega⟩
                have hvI : (j : Int) - 1 = (v : Int) := by omega
                have hvs : v < s.size := by omega
                have hsv := HAT.out v hvs
                generalize hcv : t.getD v 0 = cv at hsv
                have hcv2 : t.getD (j - 1) 0 = cv := by rw [hv]; exact hcv
                have hipos : 0 < i := by omega
                clear hcv hv hi0
                by_cases h1 : cv = 45
                · have HG : Hid (¬ (0 < i ∧ t.getD (j - 1) 0 ≠ 45)) := Lib.hid (by rw [hcv2, h1]; simp)
                  have g1 : ((cv.toNat : Int) != 45) = false := by rw [h1]; rfl
                  clear h1 hcv2
                  by_cases h2 : cj = 111
                  · have g2 : ((cj.toNat : Int) != 111) = false := by rw [h2]; rfl
                    have HE : Hid (linkTo t at_ lab (i + 1) = (if 0 ≤ f then lk.set i (lk.getD f.toNat 0) else lk, (i : Int))) := Lib.hid (by rw [linkTo_succ, HLK.out]; unfold linkStep; rw [HJ.out, HCJ.out, if_neg HG.out]; simp only [h2, ne_eq, not_true_eq_false, if_false])
                    clear h2
                    by_cases h3 : 0 ≤ f
                    · obtain ⟨f, rfl⟩ : ∃ f' : Nat, f = f' := ⟨f.toNat, by omega⟩
                      obtain ⟨v, hv⟩ : ∃ v, lk[f]? = some v := ⟨_, get_getD (by have := HLE.out; omega)⟩
                      obtain ⟨u, hu⟩ : ∃ u, lk[i]? = some u := ⟨_, get_getD (by have := HLE.out; omega)⟩
                      have hfi : f < k := by omega
                      have hc1 := HO.out.cellAt hv
                      have hc2 := HO.out.cellAt hu
                      have hfz := HO.out.frozenAt i
                      have HSE : Hid (linkTo t at_ lab (i + 1) = (lk.set i v, (i : Int))) := Lib.hid (by rw [HE.out, if_pos h3, Int.toNat_natCast, getD_of_get hv])
                      have HO2 := Lib.hid (HO.out.stored i (HO.out.2 v (List.mem_of_getElem? hv)))
                      have HB2 := Lib.hid (HBL.out.setCell (p := ⟨w.heap.size, i, none⟩) (Nat.le_refl _) (.int .i64 v))
                      clear hv hu
                      go_wp2_with fail
                      go_roundw
                      case rel => exact ⟨i + 1, lk.set i v, (i : Int), by omega, by go_num, rfl, HSE.out, by omega, by omega, HO2.out, HB2.out⟩
                      case measure => simp [intOf]; omega
                    · go_wp2_with fail
                      go_roundw
                      case rel => exact ⟨i + 1, lk, (i : Int), by omega, by go_num, rfl, by rw [HE.out]; simp [h3], by omega, by omega, HO.out, HBL.out⟩
                      case measure => simp [intOf]; omega
                  · have g2 : ((cj.toNat : Int) != 111) = true := u8_ne (d := 111) h2
                    have HE : Hid (linkTo t at_ lab (i + 1) = (lk, f)) := Lib.hid (by rw [linkTo_succ, HLK.out]; unfold linkStep; rw [HJ.out, HCJ.out, if_neg HG.out]; simp only [h2, ne_eq, not_false_eq_true, if_true])
                    clear h2
                    go_wp2_with fail
                    go_roundw
                    case rel => exact ⟨i + 1, lk, f, by omega, by go_num, rfl, HE.out, by omega, by omega, HO.out, HBL.out⟩
                    case measure => simp [intOf]; omega
                · have HG : Hid (0 < i ∧ t.getD (j - 1) 0 ≠ 45) := Lib.hid ⟨hipos, by rw [hcv2]; exact h1⟩
                  have g1 : ((cv.toNat : Int) != 45) = true := u8_ne (d := 45) h1
                  clear h1 hcv2
                  by_cases h2 : cj = 111
                  · have g2 : ((cj.toNat : Int) != 111) = false := by rw [h2]; rfl
                    have HE : Hid (linkTo t at_ lab (i + 1) = (if 0 ≤ (-1 : Int) then lk.set i (lk.getD (-1 : Int).toNat 0) else lk, (i : Int))) := Lib.hid (by rw [linkTo_succ, HLK.out]; unfold linkStep; rw [HJ.out, HCJ.out, if_pos HG.out]; simp only [h2, ne_eq, not_true_eq_false, if_false])
                    clear h2
                    have h3 : ¬ (0 ≤ (-1 : Int)) := by omega
                    · go_wp2_with fail
                      go_roundw
                      case rel => exact ⟨i + 1, lk, (i : Int), by omega, by go_num, rfl, by rw [HE.out]; simp [h3], by omega, by omega, HO.out, HBL.out⟩
                      case measure => simp [intOf]; omega
                  · have g2 : ((cj.toNat : Int) != 111) = true := u8_ne (d := 111) h2
                    have HE : Hid (linkTo t at_ lab (i + 1) = (lk, (-1 : Int))) := Lib.hid (by rw [linkTo_succ, HLK.out]; unfold linkStep; rw [HJ.out, HCJ.out, if_pos HG.out]; simp only [h2, ne_eq, not_false_eq_true, if_true])
                    clear h2
                    go_wp2_with fail
                    go_roundw
                    case rel => exact ⟨i + 1, lk, (-1 : Int), by omega, by go_num, rfl, HE.out, by omega, by omega, HO.out, HBL.out⟩
                    case measure => simp [intOf]; omega
            · obtain rfl : i = k := by omega
              have HO5 : Hid (OwnI wr w.heap.size 3 (some ⟨w.heap.size, 0, none⟩) i i (linkF t i (r + 1))) := Lib.hid (by rw [HLS.out, HLK.out]; exact HO.out)
              clear HO
              go_wp2_with fail
              go_roundw
              case rel => exact ⟨r + 1, at_ + 2 * i, by omega, by have := HRA.out; rw [Nat.add_mul]; omega, by omega, by go_num, HO5.out, HBL.out⟩
              case measure => simp [intOf]; omega
        · obtain rfl : r = R := by omega
          have hno : ¬ at_ + 2 * k ≤ s.size := fun e => hlt (hrl.1 e)
          clear hrl hlt
          go_wp2
          go_ret
          exact ⟨_, _, rfl, HO.out, HB.out⟩
end Go.Proofs.YtooepkpgffpcjaaDoor

namespace Go.Proofs.YtooepkpgffpcjaaDoor
open Go.RowKit

set_option maxHeartbeats 1000000 in
theorem rDraw_any (A : Option Addr) (n c : Nat) (l : List Int) (w : World) (h : RdI w A n l) : Calls Tryd.prog 59 #[.slice A n c] w (TextErr (drawE l) w) := by
  have HC := Lib.hid (refCheck_any A n c l w h)
  by_cases h0 : chk l = 0
  · have HV := Lib.hid (show drawE l = (drawT l, 0) by unfold drawE; rw [if_neg (by omega)])
    have HR := Lib.hid (rdraw_any A n c l w h h0)
    rw [h0] at HC
    clear h0 h
    generalize drawT l = T at HV HR
    go_enter Tryd.func59, Tryd.ntmps59
    go_wp2_with fail
    refine HC.out.mono ?_; rintro e w' ⟨rfl, rfl⟩
    go_wp2_with fail
    refine HR.out.mono ?_; rintro e w' ⟨rfl, hb⟩
    have HB := Lib.hid hb
    clear hb
    go_wp2
    go_ret2
    refine ⟨?_, HB.out⟩
    rw [HV.out]; rfl
  · have HV := Lib.hid (show drawE l = ([], chk l) by unfold drawE; rw [if_pos h0])
    generalize chk l = z at HC h0 HV
    have g1 : (z == 0) = false := by simpa using h0
    have g2 : (z != 0) = true := by simpa using h0
    clear h0 h
    go_enter Tryd.func59, Tryd.ntmps59
    go_wp2_with fail
    refine HC.out.mono ?_; rintro e w' ⟨rfl, rfl⟩
    go_wp2
    go_ret2
    refine ⟨?_, Below.refl _ _⟩
    rw [HV.out]; rfl

theorem wideF_le (t : List UInt8) : wideF t ≤ t.length := by
  induction t with
  | nil => simp [wideF]
  | cons c l ih => unfold wideF; rw [List.length_cons]; split <;> omega
theorem wideF_ne (t : List UInt8) : ∀ k, k < wideF t → t.getD k 0 ≠ 10 := by
  induction t with
  | nil => intro k hk; simp [wideF] at hk
  | cons c l ih =>
    intro k hk
    unfold wideF at hk
    by_cases h : c = 10
    · rw [if_pos h] at hk; omega
    · rw [if_neg h] at hk
      cases k with
      | zero => simpa using h
      | succ k => simpa using ih k (by omega)
theorem wideF_eq (t : List UInt8) (h : wideF t < t.length) : t.getD (wideF t) 0 = 10 := by
  induction t with
  | nil => simp [wideF] at h
  | cons c l ih =>
    unfold wideF at h ⊢
    by_cases e : c = 10
    · rw [if_pos e]; simpa using e
    · rw [if_neg e] at h ⊢
      simpa using ih (by simpa using h)

set_option maxHeartbeats 2000000 in
set_option maxRecDepth 100000 in
theorem rRead_any (s : ByteArray) (w : World) (hs : s.size ≤ 9223372036854775807) : Calls Tryd.prog 62 #[.string s] w (IntsErr (readP s.data.toList) w) := by
  rw [← read_eq]
  have HV : Hid (readR s.data.toList = _) := Lib.hid (by unfold readR; rfl)
  by_cases hlong : 400 < s.size
  · have HE : Hid (readR s.data.toList = ([], 5)) := Lib.hid (by unfold readR; rw [if_pos (by simpa using hlong)])
    go_enter Tryd.func62, Tryd.ntmps62
    go_wp2
    go_ret2
    rw [HE.out]; exact IntsErr.none_ _ _
  · rw [if_neg (by simpa using hlong)] at HV
    have hsz : s.size ≤ 400 := by omega
    have HLK := Lib.hid (fun (n : Nat) (h1 : 1 ≤ n) (h9 : n ≤ 9) => linked_any s n w h1 h9 hsz)
    have HLL := Lib.hid (fun n r => linkF_len s.data.toList n r)
    have hwl : wideF s.data.toList ≤ s.size := by have := wideF_le s.data.toList; simpa using this
    have HWN := Lib.hid (wideF_ne s.data.toList)
    have HWE : Hid (wideF s.data.toList < s.size → s.data.toList.getD (wideF s.data.toList) 0 = 10) := Lib.hid (fun h => wideF_eq s.data.toList (by simpa using h))
    have HAT : Hid (∀ (i : Nat) (h : i < s.size), s[i] = s.data.toList.getD i 0) := Lib.hid (fun i h => by
      rw [List.getD_eq_getElem?_getD, List.getElem?_eq_getElem (by simpa using h)]; rfl)
    have HDL : Hid (s.data.toList.length = s.size) := Lib.hid (by simp)
    have HARR : Hid (∀ l : List UInt8, ((⟨l.toArray⟩ : ByteArray) = s ↔ l = s.data.toList)) := Lib.hid (fun l => ⟨fun e => by rw [← e], fun e => by rw [e]⟩)
    rw [HDL.out] at HV
    generalize s.data.toList = t at HV HLK HLL hwl HWN HWE HAT HDL HARR ⊢
    generalize wideF t = W at HV hwl HWN HWE
    clear hlong hs
    go_enter Tryd.func62, Tryd.ntmps62
    go_wp2_with fail
    go_loop [4] (fun i => ∃ k : Nat, k ≤ W ∧ i = .int .i64 k) (fun i => W - (intOf i).toNat)
    case atStart => exact ⟨0, by omega, rfl⟩
    case round =>
      obtain ⟨k, hk, rfl⟩ := hrel
      by_cases hkW : k < W
      · have hks : k < s.size := by omega
        have hsk := HAT.out k hks
        have hne := HWN.out k hkW
        generalize t.getD k 0 = ck at hsk hne
        have g1 : ((ck.toNat : Int) != 10) = true := u8_ne (d := 10) hne
        clear hne
        go_wp2_with fail
        go_round
        case rel => exact ⟨k + 1, by omega, by go_num⟩
        case measure => simp [intOf]; omega
      · obtain rfl : k = W := by omega
        by_cases hks : k < s.size
        · have hsk := HAT.out k hks
          have h10 := HWE.out hks
          generalize t.getD k 0 = ck at hsk h10
          have g1 : ((ck.toNat : Int) != 10) = false := by rw [h10]; rfl
          clear h10
          obtain ⟨N, hN⟩ : ∃ N, (k + 1) / 2 = N := ⟨_, rfl⟩
          have hNI : Int.tdiv ((k : Int) + 1) 2 = (N : Int) := by rw [Int.tdiv_eq_ediv_of_nonneg (by omega)]; omega
          rw [hN] at HV
          have hN3 : N ≤ 300 := by omega
          clear hN
          by_cases h9 : N < 1 ∨ 9 < N
          · have HE : Hid (readR t = ([], 3)) := Lib.hid (by rw [HV.out, if_pos h9])
            rcases h9 with h9 | h9
            · go_wp2_with fail
              go_ret2
              rw [HE.out]; exact IntsErr.none_ _ _
            · go_wp2_with fail
              go_ret2
              rw [HE.out]; exact IntsErr.none_ _ _
          · have hN1 : 1 ≤ N := by omega
            have hN9 : N ≤ 9 := by omega
            rw [if_neg h9] at HV
            have HL := Lib.hid (HLK.out N hN1 hN9)
            have HLN := Lib.hid (HLL.out N (s.size / (2 * N)))
            generalize linkF t N (s.size / (2 * N)) = lf at HV HL HLN
            have HPL : Hid ((ofL lf).length = N) := Lib.hid (by rw [ofL_length]; exact HLN.out)
            have HCK : Hid (chk (ofL lf) = 0) := Lib.hid (chk_ofL (by rw [HLN.out]; omega) (by rw [HLN.out]; omega))
            clear h9
            go_wp2_with fail
            refine HL.out.mono ?_; rintro e w1 ⟨A, c, rfl, ho, hb⟩
            have HO := Lib.hid ho
            have HB := Lib.hid hb
            clear ho hb
            go_wp2_with fail
            refine (refof_any A N c lf w1 HO.out.rd (by omega)).mono ?_; rintro e w2 ⟨A2, c2, rfl, ho, hb⟩
            rw [HPL.out] at ho ⊢
            have HO2 := Lib.hid (ho.mono HB.out.size)
            have HB2 := Lib.hid (HB.out.trans (hb.mono HB.out.size))
            clear ho hb HO HB
            generalize ofL lf = p at HV HPL HCK HO2
            go_wp2_with fail
            refine (rdraw_any A2 N c2 p w2 HO2.out.rd HCK.out).mono ?_; rintro e w3 ⟨rfl, hb⟩
            have HO3 := Lib.hid (HO2.out.below hb)
            have HB3 := Lib.hid (HB2.out.trans (hb.mono HB2.out.size))
            clear hb HO2 HB2
            by_cases hq : drawT p = t
            · have hs3 : (⟨(drawT p).toArray⟩ : ByteArray) = s := (HARR.out _).2 hq
              rw [if_pos hq] at HV
              rw [hs3]
              clear hq hs3
              go_wp2_with fail
              go_ret2
              rw [HV.out]
              exact ⟨A2, c2, by rw [HPL.out]; rfl, by rw [HPL.out]; exact HO3.out, HB3.out⟩
            · rw [if_neg hq] at HV
              have hs3 := str_ne (show (⟨(drawT p).toArray⟩ : ByteArray) ≠ s from fun e => hq ((HARR.out _).1 e))
              generalize (⟨(drawT p).toArray⟩ : ByteArray) = t2 at hs3 ⊢
              clear hq
              go_wp2_with fail
              go_ret2
              rw [HV.out]
              exact IntsErr.noneB HB3.out
        · obtain rfl : k = s.size := by omega
          obtain ⟨N, hN⟩ : ∃ N, (s.size + 1) / 2 = N := ⟨_, rfl⟩
          have hNI : Int.tdiv ((s.size : Int) + 1) 2 = (N : Int) := by rw [Int.tdiv_eq_ediv_of_nonneg (by omega)]; omega
          rw [hN] at HV
          have hN3 : N ≤ 300 := by omega
          clear hN
          by_cases h9 : N < 1 ∨ 9 < N
          · have HE : Hid (readR t = ([], 3)) := Lib.hid (by rw [HV.out, if_pos h9])
            rcases h9 with h9 | h9
            · go_wp2_with fail
              go_ret2
              rw [HE.out]; exact IntsErr.none_ _ _
            · go_wp2_with fail
              go_ret2
              rw [HE.out]; exact IntsErr.none_ _ _
          · have hN1 : 1 ≤ N := by omega
            have hN9 : N ≤ 9 := by omega
            rw [if_neg h9] at HV
            have HL := Lib.hid (HLK.out N hN1 hN9)
            have HLN := Lib.hid (HLL.out N (s.size / (2 * N)))
            generalize linkF t N (s.size / (2 * N)) = lf at HV HL HLN
            have HPL : Hid ((ofL lf).length = N) := Lib.hid (by rw [ofL_length]; exact HLN.out)
            have HCK : Hid (chk (ofL lf) = 0) := Lib.hid (chk_ofL (by rw [HLN.out]; omega) (by rw [HLN.out]; omega))
            clear h9
            go_wp2_with fail
            refine HL.out.mono ?_; rintro e w1 ⟨A, c, rfl, ho, hb⟩
            have HO := Lib.hid ho
            have HB := Lib.hid hb
            clear ho hb
            go_wp2_with fail
            refine (refof_any A N c lf w1 HO.out.rd (by omega)).mono ?_; rintro e w2 ⟨A2, c2, rfl, ho, hb⟩
            rw [HPL.out] at ho ⊢
            have HO2 := Lib.hid (ho.mono HB.out.size)
            have HB2 := Lib.hid (HB.out.trans (hb.mono HB.out.size))
            clear ho hb HO HB
            generalize ofL lf = p at HV HPL HCK HO2
            go_wp2_with fail
            refine (rdraw_any A2 N c2 p w2 HO2.out.rd HCK.out).mono ?_; rintro e w3 ⟨rfl, hb⟩
            have HO3 := Lib.hid (HO2.out.below hb)
            have HB3 := Lib.hid (HB2.out.trans (hb.mono HB2.out.size))
            clear hb HO2 HB2
            by_cases hq : drawT p = t
            · have hs3 : (⟨(drawT p).toArray⟩ : ByteArray) = s := (HARR.out _).2 hq
              rw [if_pos hq] at HV
              rw [hs3]
              clear hq hs3
              go_wp2_with fail
              go_ret2
              rw [HV.out]
              exact ⟨A2, c2, by rw [HPL.out]; rfl, by rw [HPL.out]; exact HO3.out, HB3.out⟩
            · rw [if_neg hq] at HV
              have hs3 := str_ne (show (⟨(drawT p).toArray⟩ : ByteArray) ≠ s from fun e => hq ((HARR.out _).1 e))
              generalize (⟨(drawT p).toArray⟩ : ByteArray) = t2 at hs3 ⊢
              clear hq
              go_wp2_with fail
              go_ret2
              rw [HV.out]
              exact IntsErr.noneB HB3.out
end Go.Proofs.YtooepkpgffpcjaaDoor
