/- Walks: Spell and Parse: words of partitions, the program's. -/
import Derived.Test.YtooepkpgffpcjaaDoorAwake
namespace Go.Proofs.YtooepkpgffpcjaaDoor
open Go.RowKit

/-- the word of a partition -/
def letter (v : Int) : UInt8 := (65 + v.toNat).toUInt8
def spellT (l : List Int) : List UInt8 := l.map letter
def spellE (l : List Int) : List UInt8 × Int := if chk l ≠ 0 then ([], chk l) else (spellT l, 0)
theorem letter_nat {v : Int} (h0 : 0 ≤ v) (h9 : v < 9) : ((letter v).toNat : Int) = 65 + v := by
  unfold letter
  rw [show (65 + v.toNat).toUInt8.toNat = (65 + v.toNat) % 256 from by simp]
  omega
/-- the partition of a word -/
def partW (t : List UInt8) : List Int := t.map fun c => (c.toNat : Int) - 65
def parseE (t : List UInt8) : List Int × Int := if t.length = 0 then ([], 6) else if 9 < t.length then ([], 8) else if chk (partW t) ≠ 0 then ([], 3) else (partW t, 0)
theorem partW_spell {l : List Int} (h : ∀ v ∈ l, 0 ≤ v ∧ v < 9) : partW (spellT l) = l := by
  unfold partW spellT
  rw [List.map_map]
  conv => rhs; rw [← List.map_id l]
  refine List.map_congr_left fun v hv => ?_
  have := h v hv
  simp only [Function.comp]
  rw [letter_nat this.1 this.2]; simp; omega

set_option maxHeartbeats 1000000 in
set_option maxRecDepth 100000 in
theorem spell_any (A : Option Addr) (n c : Nat) (l : List Int) (w : World) (h : RdI w A n l) : Calls Tryd.prog 66 #[.slice A n c] w (TextErr (spellE l) w) := by
  have HC := Lib.hid (check_any A n c l w h)
  by_cases h0 : chk l = 0
  · have HV := Lib.hid (show spellE l = (spellT l, 0) by unfold spellE; rw [if_neg (by omega)])
    have hlen := h.len
    have h9 := (chk_ok h0).2.2.1
    have hn1 : 1 ≤ n := by have := (chk_ok h0).1; omega
    have hn9 : n ≤ 9 := by have := (chk_ok h0).2.1; omega
    have HN := Lib.hid h9
    have HL := Lib.hid hlen
    rw [h0] at HC
    clear h0 h9 hlen
    go_enter Tryd.func66, Tryd.ntmps66
    go_wp2_with fail
    refine HC.out.mono ?_; rintro e w' ⟨rfl, rfl⟩
    go_wp2_with fail
    go_loopw [15] (fun i wq => ∃ k : Nat, k ≤ n ∧ i = .int .i64 k ∧ Bld w.heap.size w.heap.size (Lib.byteCells (spellT (l.take k))) wq ∧ Below w.heap.size w wq) (fun i _ => n - (intOf i).toNat)
    case atStart => exact ⟨0, by omega, rfl, Lib.fresh_isBuilder _ _ _, (Below.refl _ _).alloc (Nat.le_refl _) _⟩
    case round =>
      obtain ⟨k, hk, rfl, hbld, hbel⟩ := hrel
      have HBD := Lib.hid hbld
      have HBW := Lib.hid hbel
      clear hbld hbel
      by_cases hlt : k < n
      · obtain ⟨ad, v, rfl, _, hv, _, hcell⟩ := (h.below HBW.out).at_ hlt
        have hv9 := HN.out v (List.mem_of_getElem? hv.out)
        have HT : Hid (spellT (l.take (k + 1)) = spellT (l.take k) ++ [letter v]) := Lib.hid (by rw [take_of_get hv.out]; unfold spellT; rw [List.map_append]; rfl)
        have HLN := Lib.hid (letter_nat hv9.1 hv9.2)
        have hv0 := hv9.1
        have hv1 := hv9.2
        have hlk : (spellT (l.take k)).length + 1 ≤ 1000000 := by unfold spellT; rw [List.length_map, List.length_take]; omega
        clear hv9
        go_wp2_with fail
        refine (writeByte_any w.heap.size w.heap.size (Lib.byteCells (spellT (l.take k))) (65 + v) wr HBD.out (by rw [Lib.byteCells_length]; exact hlk) HBW.out.size).mono ?_; rintro e w2 ⟨rfl, hb2, hbb⟩
        rw [← HLN.out, byteCells_snoc, ← HT.out] at hb2
        have HB2 := Lib.hid hb2
        have HBB := Lib.hid (HBW.out.trans hbb)
        clear hb2 hbb
        go_wp2
        go_roundw
        case rel => exact ⟨k + 1, by omega, by go_num, HB2.out, HBB.out⟩
        case measure => simp [intOf]; omega
      · obtain rfl : k = n := by omega
        have HT : Hid (l.take k = l) := Lib.hid (List.take_of_length_le (by have := HL.out; omega))
        rw [HT.out] at HBD
        have hne : spellT l ≠ [] := fun e => by have := congrArg List.length e; unfold spellT at this; rw [List.length_map, HL.out] at this; simp at this; omega
        generalize spellT l = T at HBD HV hne
        go_wp2_with fail
        refine (builderString_any w.heap.size w.heap.size T wr HBD.out hne).mono ?_; rintro e w2 ⟨rfl, hb2⟩
        have HB2 := Lib.hid (HBW.out.trans hb2)
        clear hb2
        go_wp2
        go_ret2
        refine ⟨?_, HB2.out⟩
        rw [HV.out]; rfl
  · have HV := Lib.hid (show spellE l = ([], chk l) by unfold spellE; rw [if_pos h0])
    generalize chk l = z at HC h0 HV
    have g1 : (z == 0) = false := by simpa using h0
    have g2 : (z != 0) = true := by simpa using h0
    clear h0
    go_enter Tryd.func66, Tryd.ntmps66
    go_wp2_with fail
    refine HC.out.mono ?_; rintro e w' ⟨rfl, rfl⟩
    go_wp2
    go_ret2
    exact ⟨by rw [HV.out]; rfl, Below.refl _ _⟩
end Go.Proofs.YtooepkpgffpcjaaDoor
