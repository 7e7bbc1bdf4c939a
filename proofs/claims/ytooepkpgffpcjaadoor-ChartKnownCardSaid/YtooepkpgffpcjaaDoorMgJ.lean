/- Walks: Draw, Rank, of, awake: the chapter's examples that every statement asks for. Walk: the levels of blocks. Walks: Spell and Parse: words of partitions, the program's. What every statement of this seat leaves. -/
import Derived.Test.YtooepkpgffpcjaaDoorMgI
import Derived.Test.YtooepkpgffpcjaaDoorMgC
import Derived.Test.YtooepkpgffpcjaaDoorMgB
namespace Go.Proofs.YtooepkpgffpcjaaDoor
open Go.RowKit

/-- Rank: the number, and the error -/
def rankE (l : List Int) : Int × Int := if chk l ≠ 0 then (0, chk l) else (rnk l, 0)
set_option maxHeartbeats 400000 in
theorem Rank_any (A : Option Addr) (n c : Nat) (l : List Int) (w : World) (h : RdI w A n l) : Calls Tryd.prog 43 #[.slice A n c] w (IntErr (rankE l) w) := by
  have HC := Lib.hid (check_any A n c l w h)
  by_cases h0 : chk l = 0
  · have HV := Lib.hid (show rankE l = (rnk l, 0) by unfold rankE; rw [if_neg (by omega)])
    have HR := Lib.hid (rank_any A n c l w h h0)
    rw [h0] at HC
    clear h0
    go_enter Tryd.func43, Tryd.ntmps43
    go_wp2_with fail
    refine HC.out.mono ?_; rintro e w' ⟨rfl, rfl⟩
    go_wp2_with fail
    refine HR.out.mono ?_; rintro e w' ⟨rfl, hb⟩
    have HB := Lib.hid hb
    clear hb
    go_wp2
    go_ret2
    refine ⟨?_, HB.out⟩
    rw [HV.out]; rfl
  · have HV := Lib.hid (show rankE l = (0, chk l) by unfold rankE; rw [if_pos h0])
    generalize chk l = z at HC h0 HV
    have g1 : (z == 0) = false := by simpa using h0
    have g2 : (z != 0) = true := by simpa using h0
    clear h0
    go_enter Tryd.func43, Tryd.ntmps43
    go_wp2_with fail
    refine HC.out.mono ?_; rintro e w' ⟨rfl, rfl⟩
    go_wp2
    go_ret2
    refine ⟨?_, Below.refl _ _⟩
    rw [HV.out]; rfl

/-- The answer of a function that gives a text and an error. -/
def TextErr (x : List UInt8 × Int) (w : World) (e : Ending) (w' : World) : Prop := e = .returned (.tuple #[.string ⟨x.1.toArray⟩, .int .i64 x.2]) ∧ Below w.heap.size w w'
/-- Draw: the chart, and the error -/
def drawE (l : List Int) : List UInt8 × Int := if chk l ≠ 0 then ([], chk l) else (drawT l, 0)
set_option maxHeartbeats 400000 in
theorem Draw_any (A : Option Addr) (n c : Nat) (l : List Int) (w : World) (h : RdI w A n l) (hc : n ≤ c) (hs : Signs w) : Calls Tryd.prog 25 #[.slice A n c] w (TextErr (drawE l) w) := by
  have HC := Lib.hid (check_any A n c l w h)
  by_cases h0 : chk l = 0
  · have HV := Lib.hid (show drawE l = (drawT l, 0) by unfold drawE; rw [if_neg (by omega)])
    have HR := Lib.hid (draw_any A n c l w h hc h0 hs)
    rw [h0] at HC
    clear h0 hs
    generalize drawT l = T at HV HR
    go_enter Tryd.func25, Tryd.ntmps25
    go_wp2_with fail
    refine HC.out.mono ?_; rintro e w' ⟨rfl, rfl⟩
    go_wp2_with fail
    refine HR.out.mono ?_; rintro e w' ⟨rfl, hb⟩
    have HB := Lib.hid hb
    clear hb
    go_wp2
    go_ret2
    refine ⟨?_, HB.out⟩
    rw [HV.out]; rfl
  · have HV := Lib.hid (show drawE l = ([], chk l) by unfold drawE; rw [if_pos h0])
    generalize chk l = z at HC h0 HV
    have g1 : (z == 0) = false := by simpa using h0
    have g2 : (z != 0) = true := by simpa using h0
    clear h0 hs
    go_enter Tryd.func25, Tryd.ntmps25
    go_wp2_with fail
    refine HC.out.mono ?_; rintro e w' ⟨rfl, rfl⟩
    go_wp2
    go_ret2
    refine ⟨?_, Below.refl _ _⟩
    rw [HV.out]; rfl

/-- the partition of a word -/
def ofW (s : ByteArray) : List Int := s.data.toList.map fun c => ((c.toNat : Int) - 65) % 256
theorem ofW_take (s : ByteArray) (k : Nat) (h : k < s.size) : (ofW s).take (k + 1) = (ofW s).take k ++ [((s[k].toNat : Int) - 65) % 256] := by
  refine take_of_get ?_
  unfold ofW
  rw [List.getElem?_map, List.getElem?_eq_getElem (by simpa using h)]
  rfl
theorem mod_bd (z : Int) : I64 (z % 256) := I64.small (by omega)
set_option maxHeartbeats 400000 in
theorem of_any (s : ByteArray) (w : World) (hs : s.size ≤ 1000) : Calls Tryd.prog 74 #[.string s] w (Copied (ofW s) w) := by
  go_enter Tryd.func74, Tryd.ntmps74
  go_wp2_with fail
  go_loopw [3, 4] (fun o i wr => ∃ k : Nat, k ≤ s.size ∧ i = .int .i64 k ∧ ∃ Ao co, o = .slice Ao k co ∧ OwnI wr w.heap.size 3 Ao k co ((ofW s).take k) ∧ Below w.heap.size w wr) (fun _ i _ => s.size - (intOf i).toNat)
  case atStart => exact ⟨0, by omega, rfl, none, 0, rfl, OwnI.nil_ _ _ _, Below.refl _ _⟩
  case round =>
    obtain ⟨k, hk, rfl, Ao, co, rfl, hown, hbel⟩ := hrel
    have HO := Lib.hid hown
    have HB := Lib.hid hbel
    have hsz := hbel.size
    clear hown hbel
    by_cases hlt : k < s.size
    · have HT := Lib.hid (ofW_take s k hlt)
      have hv := mod_bd ((s[k].toNat : Int) - 65)
      have hk1 : k + 1 ≤ 1000000 := by omega
      go_wp2_with (at_builtin; go_must (refine wpList_appI1 _ rfl (.tmp 11) (.tmp 17) rfl _ rfl rfl HO.out hv hk1 hsz ?_); intro A' c' w' kk; have KK := Lib.hid kk; clear kk)
      go_roundw
      case rel => exact ⟨k + 1, by omega, by go_num, A', c', rfl, by rw [HT.out]; exact KK.out.own, HB.out.trans KK.out.below⟩
      case measure => simp [intOf]; omega
    · have hl : (ofW s).length = s.size := by simp [ofW]
      have HT : Hid ((ofW s).take k = ofW s ∧ (ofW s).length = k) := ⟨List.take_of_length_le (by omega), by omega⟩
      rw [HT.out.1] at HO
      clear hl
      go_wp2
      go_ret
      refine ⟨Ao, co, ?_, ?_, HB.out⟩
      · rw [HT.out.2]; rfl
      · rw [HT.out.2]; exact HO.out

theorem OwnI.cap {w : World} {base n c : Nat} {e : TypeId} {A : Option Addr} {l : List Int} (h : OwnI w base e A n c l) : n ≤ c := by
  rcases h.1.1.2 with ⟨h1, h2⟩ | ⟨g, cap, cur, hv, _, _, hn, _⟩
  · injection h1; omega
  · injection hv with _ _ h3; omega
theorem of_ABAB (w : World) : Calls Tryd.prog 74 #[.string ⟨#[65, 66, 65, 66]⟩] w (Copied [0, 1, 0, 1] w) := of_any ⟨#[65, 66, 65, 66]⟩ w (by decide)
theorem of_ABAC (w : World) : Calls Tryd.prog 74 #[.string ⟨#[65, 66, 65, 67]⟩] w (Copied [0, 1, 0, 2] w) := of_any ⟨#[65, 66, 65, 67]⟩ w (by decide)
theorem of_AABB (w : World) : Calls Tryd.prog 74 #[.string ⟨#[65, 65, 66, 66]⟩] w (Copied [0, 0, 1, 1] w) := of_any ⟨#[65, 65, 66, 66]⟩ w (by decide)
def abab : List UInt8 := [111, 45, 45, 45, 111, 32, 32, 10, 124, 32, 111, 45, 120, 45, 111, 10, 124, 32, 124, 32, 124, 32, 124, 10]
theorem draw_ABAB : drawE [0, 1, 0, 1] = (abab, 0) := by decide +kernel
theorem rank_ABAC : rankE [0, 1, 0, 2] = (7, 0) := by decide +kernel
theorem moves_AABB : movesP [0, 0, 1, 1] [0, 1, 0, 1] = (2, 0) := by decide +kernel

set_option maxHeartbeats 1000000 in
theorem awake_any (w : World) (hs : Signs w) : Calls Tryd.prog 19 #[] w fun e w' => e = .returned (.bool true) ∧ Below w.heap.size w w' := by
  have HSG := Lib.hid hs
  clear hs
  go_enter Tryd.func19, Tryd.ntmps19
  go_wp2_with fail
  refine (of_ABAB w).mono ?_; rintro e w1 ⟨A1, c1, rfl, ho1, hb1⟩
  have HO1 := Lib.hid ho1
  have HB1 := Lib.hid hb1
  clear ho1 hb1
  go_wp2_with fail
  refine (Draw_any A1 4 c1 [0, 1, 0, 1] w1 HO1.out.rd HO1.out.cap (HSG.out.below HB1.out)).mono ?_; rintro e w2 ⟨rfl, hb2⟩
  rw [draw_ABAB]
  have HB2 := Lib.hid (HB1.out.trans (hb2.mono HB1.out.size))
  clear hb2 HO1 HB1
  go_wp2_with fail
  refine (of_ABAC w2).mono ?_; rintro e w3 ⟨A3, c3, rfl, ho3, hb3⟩
  have HO3 := Lib.hid ho3
  have HB3 := Lib.hid (HB2.out.trans (hb3.mono HB2.out.size))
  clear ho3 hb3 HB2
  go_wp2_with fail
  refine (Rank_any A3 4 c3 [0, 1, 0, 2] w3 HO3.out.rd).mono ?_; rintro e w4 ⟨rfl, hb4⟩
  rw [rank_ABAC]
  have HB4 := Lib.hid (HB3.out.trans (hb4.mono HB3.out.size))
  clear hb4 HO3 HB3
  go_wp2_with fail
  refine (of_AABB w4).mono ?_; rintro e w5 ⟨A5, c5, rfl, ho5, hb5⟩
  have HO5 := Lib.hid ho5
  have HB5 := Lib.hid (HB4.out.trans (hb5.mono HB4.out.size))
  clear ho5 hb5 HB4
  go_wp2_with fail
  refine (of_ABAB w5).mono ?_; rintro e w6 ⟨A6, c6, rfl, ho6, hb6⟩
  have HO6 := Lib.hid ho6
  have HO5' := Lib.hid (HO5.out.below hb6)
  have HB6 := Lib.hid (HB5.out.trans (hb6.mono HB5.out.size))
  clear ho6 hb6 HB5 HO5
  go_wp2_with fail
  refine (moves_any A5 A6 4 4 c5 c6 [0, 0, 1, 1] [0, 1, 0, 1] w6 HO5'.out.rd HO6.out.rd).mono ?_; rintro e w7 ⟨rfl, hb7⟩
  rw [moves_AABB]
  have HB7 := Lib.hid (HB6.out.trans (hb7.mono HB6.out.size))
  clear hb7 HO5' HO6 HB6
  go_wp2
  go_ret
  exact ⟨rfl, HB7.out⟩
end Go.Proofs.YtooepkpgffpcjaaDoor

namespace Go.Proofs.YtooepkpgffpcjaaDoor
open Go.RowKit

def levL (l : List Int) : List Int := (barsTo l l.length).map (·.2.2)
/-- Levels' answer -/
def levE (l : List Int) : List Int × Int := if chk l ≠ 0 then ([], chk l) else (levL l, 0)
theorem RdB.block {w : World} {A : Option Addr} {n : Nat} {L : List Bar} (h : RdB w A n L) {k : Nat} (hk : k < n) : ∃ g b, A = some ⟨g, 0, none⟩ ∧ g < w.heap.size ∧ Hid (L[k]? = some b) ∧ w.cell? ⟨g, k * 3, none⟩ = some (.int .i64 b.1) ∧ w.cell? ⟨g, k * 3 + 1, none⟩ = some (.int .i64 b.2.1) ∧ w.cell? ⟨g, k * 3 + 2, none⟩ = some (.int .i64 b.2.2) := by
  obtain ⟨g, rfl, hg, hc⟩ := h.2.2 (by omega)
  obtain ⟨b, hb⟩ := getB h.1 hk
  have h3 := barCells_get L k b hb
  exact ⟨g, b, rfl, hg, hb, hc _ _ h3.1, hc _ _ h3.2.1, hc _ _ h3.2.2⟩

set_option maxHeartbeats 1000000 in
set_option maxRecDepth 100000 in
theorem levels_any (A : Option Addr) (n c : Nat) (l : List Int) (w : World) (h : RdI w A n l) (hc : n ≤ c) : Calls Tryd.prog 26 #[.slice A n c] w (IntsErr (levE l) w) := by
  have HC := Lib.hid (check_any A n c l w h)
  by_cases h0 : chk l = 0
  · have hln := h.len
    have HV : Hid (levE l = (levL l, 0)) := Lib.hid (by unfold levE; rw [if_neg (by omega)])
    have HB := Lib.hid (bars_any A n c l w h hc h0)
    obtain ⟨hinv, hbl⟩ := barsTo_inv h0 n (by omega)
    have hm9 : (barsTo l n).length ≤ 9 := by have := blk_le9 h0; rw [List.take_of_length_le (by omega)] at hbl; omega
    have HLV : Hid (levL l = (barsTo l n).map (·.2.2)) := Lib.hid (by unfold levL; rw [hln])
    rw [h0] at HC
    generalize barsTo l n = L at HB hm9 HLV hinv hbl
    have HI := Lib.hid hinv
    clear h0 hln hbl hinv h
    obtain ⟨m, hm⟩ : ∃ m, L.length = m := ⟨_, rfl⟩
    have HM := Lib.hid hm
    rw [hm] at hm9
    clear hm
    go_enter Tryd.func26, Tryd.ntmps26
    go_wp2_with fail
    refine HC.out.mono ?_; rintro e w' ⟨rfl, rfl⟩
    go_wp2_with fail
    refine HB.out.mono ?_; rintro e w1 ⟨AL, cL, rfl, hown, hbel⟩
    rw [HM.out] at hown ⊢
    have HR1 := Lib.hid (RdB.of_own hown (by omega))
    have HB1 := Lib.hid hbel
    clear hown hbel
    go_wp2_with fail
    go_loopw [5, 16] (fun o i wr => ∃ k : Nat, k ≤ m ∧ i = .int .i64 k ∧ ∃ Ao co, o = .slice Ao k co ∧ OwnI wr w1.heap.size 3 Ao k co ((L.take k).map (·.2.2)) ∧ Below w1.heap.size w1 wr) (fun _ i _ => m - (intOf i).toNat)
    case atStart => exact ⟨0, by omega, rfl, none, 0, rfl, OwnI.nil_ _ _ _, Below.refl _ _⟩
    case round =>
      obtain ⟨k, hk, rfl, Ao, co, rfl, hown, hb1⟩ := hrel
      by_cases hlt : k < m
      · obtain ⟨g, b, rfl, hg, hb, c0, c1, c2⟩ := (HR1.out.below hb1).block hlt
        obtain ⟨x, y, z⟩ := b
        simp only at c0 c1 c2
        have hbd := HI.out.bd k _ hb.out
        simp only at hbd
        have HT : Hid ((L.take (k + 1)).map (·.2.2) = (L.take k).map (·.2.2) ++ [z]) := Lib.hid (by rw [take_of_get hb.out, List.map_append]; rfl)
        have HBK := Lib.hid (Blk.new wr 85 #[.int .i64 x, .int .i64 y, .int .i64 z])
        have HO := Lib.hid (hown.alloc (.cells #[.int .i64 x, .int .i64 y, .int .i64 z] 85))
        have HB3 := Lib.hid (hb1.trans ((Below.refl _ _).alloc hb1.size (.cells #[.int .i64 x, .int .i64 y, .int .i64 z] 85)))
        have HZ := Lib.hid (I64.small (v := z) (by omega))
        clear hown hb1 hbd
        go_upto_region 8 with fail
        generalize wr.alloc (.cells #[.int .i64 x, .int .i64 y, .int .i64 z] 85) = W1 at HBK HO HB3 ⊢
        generalize wr.heap.size = gp at HBK ⊢
        have k2 := (blk3 HBK.out).2.2
        have hsz := HB3.out.size
        go_wp2_with (at_builtin; go_must (refine wpList_appI1 _ rfl (.tmp 20) (.tmp 23) rfl _ rfl rfl HO.out (v := z) HZ.out (by omega) hsz ?_); intro A' c' w' kk; have KK := Lib.hid kk; clear kk)
        go_roundw
        case rel => exact ⟨k + 1, by omega, by go_num, A', c', rfl, by rw [HT.out]; exact KK.out.own, HB3.out.trans KK.out.below⟩
        case measure => simp [intOf]; omega
      · obtain rfl : k = m := by omega
        have HF : Hid ((L.take k).map (·.2.2) = levL l) := Lib.hid (by rw [HLV.out, List.take_of_length_le (by have := HM.out; omega)])
        have HFL : Hid ((levL l).length = k) := Lib.hid (by rw [HLV.out, List.length_map, HM.out])
        rw [HF.out] at hown
        have HO := Lib.hid (hown.mono HB1.out.size)
        have HBB := Lib.hid (HB1.out.trans (hb1.mono HB1.out.size))
        clear hown hb1
        go_wp2
        go_ret2
        rw [HV.out]
        refine ⟨Ao, co, ?_, ?_, HBB.out⟩
        · show _ = _; rw [HFL.out]; rfl
        · show OwnI _ _ _ _ (levL l).length _ _; rw [HFL.out]; exact HO.out
  · have HV : Hid (levE l = ([], chk l)) := Lib.hid (by unfold levE; rw [if_pos h0])
    generalize chk l = z at HC h0 HV
    have g1 : (z == 0) = false := by simpa using h0
    have g2 : (z != 0) = true := by simpa using h0
    clear h0
    go_enter Tryd.func26, Tryd.ntmps26
    go_wp2_with fail
    refine HC.out.mono ?_; rintro e w' ⟨rfl, rfl⟩
    go_wp2
    go_ret2
    rw [HV.out]; exact IntsErr.none_ _ _
end Go.Proofs.YtooepkpgffpcjaaDoor

namespace Go.Proofs.YtooepkpgffpcjaaDoor
open Go.RowKit

/-- the word of a partition -/
def letter (v : Int) : UInt8 := (65 + v.toNat).toUInt8
def spellT (l : List Int) : List UInt8 := l.map letter
def spellE (l : List Int) : List UInt8 × Int := if chk l ≠ 0 then ([], chk l) else (spellT l, 0)
theorem letter_nat {v : Int} (h0 : 0 ≤ v) (h9 : v < 9) : ((letter v).toNat : Int) = 65 + v := by
  unfold letter
  rw [show (65 + v.toNat).toUInt8.toNat = (65 + v.toNat) % 256 from by simp]
  omega
/-- the partition of a word -/
def partW (t : List UInt8) : List Int := t.map fun c => (c.toNat : Int) - 65
def parseE (t : List UInt8) : List Int × Int := if t.length = 0 then ([], 6) else if 9 < t.length then ([], 8) else if chk (partW t) ≠ 0 then ([], 3) else (partW t, 0)
theorem partW_spell {l : List Int} (h : ∀ v ∈ l, 0 ≤ v ∧ v < 9) : partW (spellT l) = l := by
  unfold partW spellT
  rw [List.map_map]
  conv => rhs; rw [← List.map_id l]
  refine List.map_congr_left fun v hv => ?_
  have := h v hv
  simp only [Function.comp]
  rw [letter_nat this.1 this.2]; simp; omega

set_option maxHeartbeats 1000000 in
set_option maxRecDepth 100000 in
theorem spell_any (A : Option Addr) (n c : Nat) (l : List Int) (w : World) (h : RdI w A n l) : Calls Tryd.prog 66 #[.slice A n c] w (TextErr (spellE l) w) := by
  have HC := Lib.hid (check_any A n c l w h)
  by_cases h0 : chk l = 0
  · have HV := Lib.hid (show spellE l = (spellT l, 0) by unfold spellE; rw [if_neg (by omega)])
    have hlen := h.len
    have h9 := (chk_ok h0).2.2.1
    have hn1 : 1 ≤ n := by have := (chk_ok h0).1; omega
    have hn9 : n ≤ 9 := by have := (chk_ok h0).2.1; omega
    have HN := Lib.hid h9
    have HL := Lib.hid hlen
    rw [h0] at HC
    clear h0 h9 hlen
    go_enter Tryd.func66, Tryd.ntmps66
    go_wp2_with fail
    refine HC.out.mono ?_; rintro e w' ⟨rfl, rfl⟩
    go_wp2_with fail
    go_loopw [15] (fun i wq => ∃ k : Nat, k ≤ n ∧ i = .int .i64 k ∧ Bld w.heap.size w.heap.size (Lib.byteCells (spellT (l.take k))) wq ∧ Below w.heap.size w wq) (fun i _ => n - (intOf i).toNat)
    case atStart => exact ⟨0, by omega, rfl, Lib.fresh_isBuilder _ _ _, (Below.refl _ _).alloc (Nat.le_refl _) _⟩
    case round =>
      obtain ⟨k, hk, rfl, hbld, hbel⟩ := hrel
      have HBD := Lib.hid hbld
      have HBW := Lib.hid hbel
      clear hbld hbel
      by_cases hlt : k < n
      · obtain ⟨ad, v, rfl, _, hv, _, hcell⟩ := (h.below HBW.out).at_ hlt
        have hv9 := HN.out v (List.mem_of_getElem? hv.out)
        have HT : Hid (spellT (l.take (k + 1)) = spellT (l.take k) ++ [letter v]) := Lib.hid (by rw [take_of_get hv.out]; unfold spellT; rw [List.map_append]; rfl)
        have HLN := Lib.hid (letter_nat hv9.1 hv9.2)
        have hv0 := hv9.1
        have hv1 := hv9.2
        have hlk : (spellT (l.take k)).length + 1 ≤ 1000000 := by unfold spellT; rw [List.length_map, List.length_take]; omega
        clear hv9
        go_wp2_with fail
        refine (writeByte_any w.heap.size w.heap.size (Lib.byteCells (spellT (l.take k))) (65 + v) wr HBD.out (by rw [Lib.byteCells_length]; exact hlk) HBW.out.size).mono ?_; rintro e w2 ⟨rfl, hb2, hbb⟩
        rw [← HLN.out, byteCells_snoc, ← HT.out] at hb2
        have HB2 := Lib.hid hb2
        have HBB := Lib.hid (HBW.out.trans hbb)
        clear hb2 hbb
        go_wp2
        go_roundw
        case rel => exact ⟨k + 1, by omega, by go_num, HB2.out, HBB.out⟩
        case measure => simp [intOf]; omega
      · obtain rfl : k = n := by omega
        have HT : Hid (l.take k = l) := Lib.hid (List.take_of_length_le (by have := HL.out; omega))
        rw [HT.out] at HBD
        have hne : spellT l ≠ [] := fun e => by have := congrArg List.length e; unfold spellT at this; rw [List.length_map, HL.out] at this; simp at this; omega
        generalize spellT l = T at HBD HV hne
        go_wp2_with fail
        refine (builderString_any w.heap.size w.heap.size T wr HBD.out hne).mono ?_; rintro e w2 ⟨rfl, hb2⟩
        have HB2 := Lib.hid (HBW.out.trans hb2)
        clear hb2
        go_wp2
        go_ret2
        refine ⟨?_, HB2.out⟩
        rw [HV.out]; rfl
  · have HV := Lib.hid (show spellE l = ([], chk l) by unfold spellE; rw [if_pos h0])
    generalize chk l = z at HC h0 HV
    have g1 : (z == 0) = false := by simpa using h0
    have g2 : (z != 0) = true := by simpa using h0
    clear h0
    go_enter Tryd.func66, Tryd.ntmps66
    go_wp2_with fail
    refine HC.out.mono ?_; rintro e w' ⟨rfl, rfl⟩
    go_wp2
    go_ret2
    exact ⟨by rw [HV.out]; rfl, Below.refl _ _⟩
end Go.Proofs.YtooepkpgffpcjaaDoor

namespace Go.Proofs.YtooepkpgffpcjaaDoor
open Go.RowKit

theorem refused_any (e : Int) (w : World) : Calls Tryd.prog 30 #[.int .i64 e] w fun en w' => en = .returned (.bool (e != 0)) ∧ w = w' := by
  go_enter Tryd.func30, Tryd.ntmps30
  go_wp2
  go_ret
  exact ⟨rfl, rfl⟩
/-- what a statement leaves -/
def Held (w : World) (e : Ending) (w' : World) : Prop := e = .returned (.bool true) ∧ Below w.heap.size w w'
end Go.Proofs.YtooepkpgffpcjaaDoor
