/- Walk: the levels of blocks. -/
import Derived.Test.YtooepkpgffpcjaaDoorAwake
import Derived.Test.YtooepkpgffpcjaaDoorOf
namespace Go.Proofs.YtooepkpgffpcjaaDoor
open Go.RowKit

def levL (l : List Int) : List Int := (barsTo l l.length).map (·.2.2)
/-- Levels' answer -/
def levE (l : List Int) : List Int × Int := if chk l ≠ 0 then ([], chk l) else (levL l, 0)
theorem RdB.block {w : World} {A : Option Addr} {n : Nat} {L : List Bar} (h : RdB w A n L) {k : Nat} (hk : k < n) : ∃ g b, A = some ⟨g, 0, none⟩ ∧ g < w.heap.size ∧ Hid (L[k]? = some b) ∧ w.cell? ⟨g, k * 3, none⟩ = some (.int .i64 b.1) ∧ w.cell? ⟨g, k * 3 + 1, none⟩ = some (.int .i64 b.2.1) ∧ w.cell? ⟨g, k * 3 + 2, none⟩ = some (.int .i64 b.2.2) := by
  obtain ⟨g, rfl, hg, hc⟩ := h.2.2 (by omega)
  obtain ⟨b, hb⟩ := getB h.1 hk
  have h3 := barCells_get L k b hb
  exact ⟨g, b, rfl, hg, hb, hc _ _ h3.1, hc _ _ h3.2.1, hc _ _ h3.2.2⟩

set_option maxHeartbeats 1000000 in
set_option maxRecDepth 100000 in
theorem levels_any (A : Option Addr) (n c : Nat) (l : List Int) (w : World) (h : RdI w A n l) (hc : n ≤ c) : Calls Tryd.prog 26 #[.slice A n c] w (IntsErr (levE l) w) := by
  have HC := Lib.hid (check_any A n c l w h)
  by_cases h0 : chk l = 0
  · have hln := h.len
    have HV : Hid (levE l = (levL l, 0)) := Lib.hid (by unfold levE; rw [if_neg (by omega)])
    have HB := Lib.hid (bars_any A n c l w h hc h0)
    obtain ⟨hinv, hbl⟩ := barsTo_inv h0 n (by omega)
    have hm9 : (barsTo l n).length ≤ 9 := by have := blk_le9 h0; rw [List.take_of_length_le (by omega)] at hbl; omega
    have HLV : Hid (levL l = (barsTo l n).map (·.2.2)) := Lib.hid (by unfold levL; rw [hln])
    rw [h0] at HC
    generalize barsTo l n = L at HB hm9 HLV hinv hbl
    have HI := Lib.hid hinv
    clear h0 hln hbl hinv h
    obtain ⟨m, hm⟩ : ∃ m, L.length = m := ⟨_, rfl⟩
    have HM := Lib.hid hm
    rw [hm] at hm9
    clear hm
    go_enter Tryd.func26, Tryd.ntmps26
    go_wp2_with fail
    refine HC.out.mono ?_; rintro e w' ⟨rfl, rfl⟩
    go_wp2_with fail
    refine HB.out.mono ?_; rintro e w1 ⟨AL, cL, rfl, hown, hbel⟩
    rw [HM.out] at hown ⊢
    have HR1 := Lib.hid (RdB.of_own hown (by omega))
    have HB1 := Lib.hid hbel
    clear hown hbel
    go_wp2_with fail
    go_loopw [5, 16] (fun o i wr => ∃ k : Nat, k ≤ m ∧ i = .int .i64 k ∧ ∃ Ao co, o = .slice Ao k co ∧ OwnI wr w1.heap.size 3 Ao k co ((L.take k).map (·.2.2)) ∧ Below w1.heap.size w1 wr) (fun _ i _ => m - (intOf i).toNat)
    case atStart => exact ⟨0, by omega, rfl, none, 0, rfl, OwnI.nil_ _ _ _, Below.refl _ _⟩
    case round =>
      obtain ⟨k, hk, rfl, Ao, co, rfl, hown, hb1⟩ := hrel
      by_cases hlt : k < m
      · obtain ⟨g, b, rfl, hg, hb, c0, c1, c2⟩ := (HR1.out.below hb1).block hlt
        obtain ⟨x, y, z⟩ := b
        simp only at c0 c1 c2
        have hbd := HI.out.bd k _ hb.out
        simp only at hbd
        have HT : Hid ((L.take (k + 1)).map (·.2.2) = (L.take k).map (·.2.2) ++ [z]) := Lib.hid (by rw [take_of_get hb.out, List.map_append]; rfl)
        have HBK := Lib.hid (Blk.new wr 85 #[.int .i64 x, .int .i64 y, .int .i64 z])
        have HO := Lib.hid (hown.alloc (.cells #[.int .i64 x, .int .i64 y, .int .i64 z] 85))
        have HB3 := Lib.hid (hb1.trans ((Below.refl _ _).alloc hb1.size (.cells #[.int .i64 x, .int .i64 y, .int .i64 z] 85)))
        have HZ := Lib.hid (I64.small (v := z) (by omega))
        clear hown hb1 hbd
        go_upto_region 8 with fail
        generalize wr.alloc (.cells #[.int .i64 x, .int .i64 y, .int .i64 z] 85) = W1 at HBK HO HB3 ⊢
        generalize wr.heap.size = gp at HBK ⊢
        have k2 := (blk3 HBK.out).2.2
        have hsz := HB3.out.size
        go_wp2_with (at_builtin; go_must (refine wpList_appI1 _ rfl (.tmp 20) (.tmp 23) rfl _ rfl rfl HO.out (v := z) HZ.out (by omega) hsz ?_); intro A' c' w' kk; have KK := Lib.hid kk; clear kk)
        go_roundw
        case rel => exact ⟨k + 1, by omega, by go_num, A', c', rfl, by rw [HT.out]; exact KK.out.own, HB3.out.trans KK.out.below⟩
        case measure => simp [intOf]; omega
      · obtain rfl : k = m := by omega
        have HF : Hid ((L.take k).map (·.2.2) = levL l) := Lib.hid (by rw [HLV.out, List.take_of_length_le (by have := HM.out; omega)])
        have HFL : Hid ((levL l).length = k) := Lib.hid (by rw [HLV.out, List.length_map, HM.out])
        rw [HF.out] at hown
        have HO := Lib.hid (hown.mono HB1.out.size)
        have HBB := Lib.hid (HB1.out.trans (hb1.mono HB1.out.size))
        clear hown hb1
        go_wp2
        go_ret2
        rw [HV.out]
        refine ⟨Ao, co, ?_, ?_, HBB.out⟩
        · show _ = _; rw [HFL.out]; rfl
        · show OwnI _ _ _ _ (levL l).length _ _; rw [HFL.out]; exact HO.out
  · have HV : Hid (levE l = ([], chk l)) := Lib.hid (by unfold levE; rw [if_pos h0])
    generalize chk l = z at HC h0 HV
    have g1 : (z == 0) = false := by simpa using h0
    have g2 : (z != 0) = true := by simpa using h0
    clear h0
    go_enter Tryd.func26, Tryd.ntmps26
    go_wp2_with fail
    refine HC.out.mono ?_; rintro e w' ⟨rfl, rfl⟩
    go_wp2
    go_ret2
    rw [HV.out]; exact IntsErr.none_ _ _
end Go.Proofs.YtooepkpgffpcjaaDoor
