/- Walk: Parse: the program's. -/
import Derived.Test.YtooepkpgffpcjaaDoorMgJ
import Derived.Lib.ConvBytes
namespace Go.Proofs.YtooepkpgffpcjaaDoor
open Go.RowKit

set_option maxHeartbeats 1000000 in
set_option maxRecDepth 100000 in
theorem parse_any (s : ByteArray) (w : World) (hs : s.size ≤ 9223372036854775807) : Calls Tryd.prog 67 #[.string s] w (IntsErr (parseE s.data.toList) w) := by
  have HSZ : Hid (s.data.toList.length = s.size) := Lib.hid (by simp)
  by_cases h0 : s.size = 0
  · have HV := Lib.hid (show parseE s.data.toList = ([], 6) by unfold parseE; rw [if_pos (by rw [HSZ.out]; exact h0)])
    have he : s = ⟨#[]⟩ := by
      apply ByteArray.ext
      have : s.data.size = 0 := h0
      exact Array.eq_empty_of_size_eq_zero this
    subst he
    go_enter Tryd.func67, Tryd.ntmps67
    go_wp2
    go_ret2
    rw [HV.out]; exact IntsErr.none_ _ _
  have hne : s.toList.isEmpty = false := by
    rw [Lib.toList_data]
    cases e : s.data.toList with
    | nil => have := HSZ.out; rw [e] at this; exact absurd this.symm h0
    | cons _ _ => rfl
  by_cases h9 : 9 < s.size
  · have HV := Lib.hid (show parseE s.data.toList = ([], 8) by unfold parseE; rw [if_neg (by rw [HSZ.out]; exact h0), if_pos (by rw [HSZ.out]; exact h9)])
    go_enter Tryd.func67, Tryd.ntmps67
    go_wp2
    go_ret2
    rw [HV.out]; exact IntsErr.none_ _ _
  · have HV := Lib.hid (show parseE s.data.toList = if chk (partW s.data.toList) ≠ 0 then ([], 3) else (partW s.data.toList, 0) by unfold parseE; rw [if_neg (by rw [HSZ.out]; exact h0), if_neg (by rw [HSZ.out]; exact h9)])
    go_enter Tryd.func67, Tryd.ntmps67
    have hcv := Lib.run_convert_string_bytes (P := Tryd.prog) w 9 99 5 s Tryd.underlying9 Tryd.underlying99 Tryd.underlying5
    have HCV := Lib.hid hcv
    have hcells : ∀ j, j < s.size → (Lib.bytesWorld w 5 s).cell? ⟨w.heap.size, j, none⟩ = some (.int .u8 ((s.data.toList.getD j 0).toNat : Int)) := fun j hj => Lib.bytesWorld_cell w 5 s j hj
    have HCE := Lib.hid hcells
    have HBE : Hid (Below w.heap.size w (Lib.bytesWorld w 5 s)) := Lib.hid (Lib.below_freeze ((Below.drew (Below.refl _ w)).alloc (Nat.le_refl _) _) (p := ⟨w.heap.size, _, none⟩) (Nat.le_refl _) 1)
    have hlt0 : w.heap.size < (Lib.bytesWorld w 5 s).heap.size := by rw [Lib.bytesWorld_size]; omega
    clear hcv hcells
    go_wp2
    rw [HCV.out]
    generalize Lib.bytesWorld w 5 s = W at HCE HBE hlt0 ⊢
    clear HCV
    simp only [Result.andThen]
    rw [Oper.upon_value]
    obtain ⟨g, hg⟩ : ∃ g, w.heap.size = g := ⟨_, rfl⟩
    have HG := Lib.hid hg
    rw [hg] at HCE hlt0 ⊢
    clear hg
    have hpl : (partW s.data.toList).length = s.size := by unfold partW; rw [List.length_map, HSZ.out]
    have HPL := Lib.hid hpl
    clear hpl
    go_wp2_with fail
    go_loopw [4, 17] (fun o i wr => ∃ k : Nat, k ≤ s.size ∧ i = .int .i64 k ∧ ∃ Ao co, o = .slice Ao k co ∧ OwnI wr W.heap.size 3 Ao k co ((partW s.data.toList).take k) ∧ Below W.heap.size W wr) (fun _ i _ => s.size - (intOf i).toNat)
    case atStart => exact ⟨0, by omega, rfl, none, 0, rfl, OwnI.nil_ _ _ _, Below.refl _ _⟩
    case round =>
      obtain ⟨k, hk, rfl, Ao, co, rfl, hown, hbel⟩ := hrel
      have HO := Lib.hid hown
      have HB := Lib.hid hbel
      have hsz := hbel.size
      clear hown hbel
      by_cases hlt : k < s.size
      · have hc := (HB.out.cell (p := ⟨g, k, none⟩) hlt0).trans (HCE.out k hlt)
        have HT : Hid ((partW s.data.toList).take (k + 1) = (partW s.data.toList).take k ++ [((s.data.toList.getD k 0).toNat : Int) - 65]) := Lib.hid (by
          refine take_of_get ?_
          unfold partW
          rw [List.getElem?_map, List.getElem?_eq_getElem (by rw [HSZ.out]; exact hlt), List.getD_eq_getElem?_getD, List.getElem?_eq_getElem (by rw [HSZ.out]; exact hlt)]; rfl)
        have hb : (s.data.toList.getD k 0).toNat < 256 := UInt8.toNat_lt _
        generalize (s.data.toList.getD k 0).toNat = x at hc HT hb
        have hv : I64 ((x : Int) - 65) := I64.small (by omega)
        have hk1 : k + 1 ≤ 1000000 := by omega
        go_wp2_with (at_builtin; go_must (refine wpList_appI1 _ rfl (.tmp 21) (.tmp 25) rfl _ rfl rfl HO.out hv hk1 hsz ?_); intro A' c' w' kk; have KK := Lib.hid kk; clear kk)
        go_roundw
        case rel => exact ⟨k + 1, by omega, by go_num, A', c', rfl, by rw [HT.out]; exact KK.out.own, HB.out.trans KK.out.below⟩
        case measure => simp [intOf]; omega
      · obtain rfl : k = s.size := by omega
        have HT : Hid ((partW s.data.toList).take s.size = partW s.data.toList) := Lib.hid (List.take_of_length_le (by have := HPL.out; omega))
        rw [HT.out] at HO
        have HC := Lib.hid (check_any Ao s.size co (partW s.data.toList) wr HO.out.rd)
        have HB1 := Lib.hid (HBE.out.trans (HB.out.mono HBE.out.size))
        have hWs := HBE.out.size
        generalize partW s.data.toList = p at HO HC HV HPL
        by_cases hz : chk p = 0
        · rw [if_neg (by omega)] at HV
          rw [hz] at HC
          clear hz
          go_wp2_with fail
          refine HC.out.mono ?_; rintro e w2 ⟨rfl, rfl⟩
          go_wp2
          go_ret2
          rw [HV.out]
          exact ⟨Ao, co, by rw [HPL.out]; rfl, by rw [HPL.out]; exact HO.out.mono hWs, HB1.out⟩
        · rw [if_pos hz] at HV
          generalize chk p = z at HC hz
          have g1 : (z == 0) = false := by simpa using hz
          have g2 : (z != 0) = true := by simpa using hz
          clear hz
          go_wp2_with fail
          refine HC.out.mono ?_; rintro e w2 ⟨rfl, rfl⟩
          go_wp2
          go_ret2
          rw [HV.out]
          exact ⟨none, 0, rfl, OwnI.nil_ _ _ _, HB1.out⟩
end Go.Proofs.YtooepkpgffpcjaaDoor
