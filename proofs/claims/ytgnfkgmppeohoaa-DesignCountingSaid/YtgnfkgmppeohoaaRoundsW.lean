/- Walk: Rounds: the orders that are fair. -/
import Derived.Test.YtgnfkgmppeohoaaRev
import Derived.Test.YtgnfkgmppeohoaaRds
import Derived.Test.YtgnfkgmppeohoaaStk
namespace Go.Proofs.Ytgnfkgmppeohoaa
open Go.RowKit

/-- lists and an error, the callee's own -/
def ListsErr (x : List (List Int) × Int) (w : World) (e : Ending) (w' : World) : Prop :=
  ∃ A c, e = .returned (.tuple #[.slice A x.1.length c, .int .i64 x.2]) ∧ OwnL w' w.heap.size A x.1.length c x.1 ∧ Below w.heap.size w w'

set_option maxHeartbeats 2000000 in
set_option maxRecDepth 100000 in
theorem rounds_any (n : Int) (w : World) (hn : I64 n) : Calls Try.prog 61 #[.int .i64 n] w (ListsErr (roundsE n) w) := by
  by_cases h0 : n < 1 ∨ 12 < n
  · have HV : Hid (roundsE n = ([], 2)) := Lib.hid (by unfold roundsE; rw [if_pos h0])
    have HW := Lib.hid (within_no (lo := 1) (n := n) (hi := 12) h0)
    clear h0
    go_enter Try.func61, Try.ntmps61
    go_wp2_with fail
    refine (withinD_any n 1 12 w).mono ?_; rintro e w ⟨rfl, rfl⟩
    rw [HW.out]
    go_wp2
    go_ret2
    rw [HV.out]
    exact ⟨none, 0, rfl, OwnL.nil_ _ _, Below.refl _ _⟩
  · obtain ⟨n, rfl⟩ : ∃ n' : Nat, n = n' := ⟨n.toNat, by omega⟩
    have h1 : 1 ≤ n := by omega
    have h12 : n ≤ 12 := by omega
    have HV : Hid (roundsE n = (roundsL n, 0)) := Lib.hid (by unfold roundsE; rw [if_neg h0, Int.toNat_natCast])
    have HW := Lib.hid (within_yes (lo := 1) (n := (n : Int)) (hi := 12) (by omega) (by omega))
    clear h0
    go_enter Try.func61, Try.ntmps61
    go_wp2_with fail
    refine (withinD_any n 1 12 w).mono ?_; rintro e w ⟨rfl, rfl⟩
    rw [HW.out]
    go_wp2_with fail
    have HO0 := Lib.hid (OwnI.lit w 3 [0] 1 (by omega) rfl w.heap.size (Nat.le_refl _) (by simp [I64]))
    have HB0 := Lib.hid ((Below.refl _ w).alloc (Nat.le_refl _) (.cells (ints [0]).toArray 3))
    go_loopw [4, 5, 6] (fun f lo hi wr => ∃ (m : Nat) (A : Option Addr) (c : Nat), m ≤ n / 2 ∧ lo = .int .i64 ((1 + m : Nat) : Int) ∧ hi = .int .i64 ((n : Int) - 1 - m) ∧ f = .slice A (zigTo n m).length c ∧ OwnI wr w.heap.size 3 A (zigTo n m).length c (zigTo n m) ∧ Below w.heap.size w wr) (fun _ lo _ _ => n + 1 - (intOf lo).toNat)
    case atStart => exact ⟨0, _, _, by omega, rfl, by simp, rfl, HO0.out, HB0.out⟩
    case round =>
      obtain ⟨m, A, c, hm, rfl, rfl, rfl, hown, hbel⟩ := hrel
      have HO := Lib.hid hown
      have HB := Lib.hid hbel
      clear hown hbel HO0 HB0
      have hzl : (zigTo n m).length ≤ 100 := by rw [zig_len h1 h12 hm]; split <;> omega
      have hsz := HB.out.size
      by_cases hlt : m < n / 2
      · have HZ := Lib.hid (zigTo_succ n m)
        have hlohi : ((1 + m : Nat) : Int) ≤ (n : Int) - 1 - m := by omega
        by_cases hlt2 : 1 + m < n - 1 - m
        · have HZS : Hid (zigTo n (m + 1) = zigTo n m ++ [((1 + m : Nat) : Int)] ++ [((n - 1 - m : Nat) : Int)]) := Lib.hid (by rw [HZ.out]; unfold zigStep; rw [if_pos hlt2])
          obtain ⟨z, hz⟩ : ∃ z, (zigTo n m).length = z := ⟨_, rfl⟩
          obtain ⟨lo, hlo⟩ : ∃ lo : Nat, 1 + m = lo := ⟨_, rfl⟩
          obtain ⟨hi, hhi⟩ : ∃ hi : Nat, n - 1 - m = hi := ⟨_, rfl⟩
          have hhiI : (n : Int) - 1 - m = hi := by omega
          have HLEN : Hid ((zigTo n (m + 1)).length = z + 1 + 1) := Lib.hid (by rw [HZS.out]; simp [hz])
          have HNX : Hid (((1 + (m + 1) : Nat) : Int) = (lo : Int) + 1 ∧ (n : Int) - 1 - ((m + 1 : Nat) : Int) = (hi : Int) - 1 ∧ m + 1 ≤ n / 2 ∧ lo < n + 1) := Lib.hid (by omega)
          rw [hlo, hhi] at HZS
          rw [hz] at HO hzl ⊢
          rw [hlo, hhiI]
          have hz1 : z ≤ 100 := hzl
          have g1 : (lo : Int) ≤ hi := by omega
          have g2 : (lo : Int) < hi := by omega
          have g3 : (hi : Int) ≤ 12 := by omega
          clear hz hhiI hlohi hlt2 hzl hm hlt hlo hhi
          generalize zigTo n m = L at HO HZS
          go_wp2_with (first
            | (at_builtin; refine wpList_appI1 _ rfl (.tmp 27) (.tmp 29) rfl _ rfl rfl HO.out (v := (lo : Int)) (I64.small (by omega)) (by omega) hsz ?_; intro A1 c1 w1 kk; have KK := Lib.hid kk; have hsz1 := Nat.le_trans hsz kk.grown.size; clear kk)
            | (at_builtin; refine wpList_appI1 _ rfl (.tmp 34) (.tmp 36) rfl _ rfl rfl KK.out.own (v := (hi : Int)) (I64.small (by omega)) (by omega) hsz1 ?_; intro A2 c2 w2 kk; have KK2 := Lib.hid kk; clear kk))
          go_roundw
          case rel => exact ⟨m + 1, A2, c2, HNX.out.2.2.1, by rw [HNX.out.1], by rw [HNX.out.2.1], by rw [HLEN.out], by rw [HLEN.out, HZS.out]; exact KK2.out.own, (HB.out.trans KK.out.below).trans KK2.out.below⟩
          case measure => have := HNX.out.2.2.2; simp [intOf]; omega
        · have HZS : Hid (zigTo n (m + 1) = zigTo n m ++ [((1 + m : Nat) : Int)]) := Lib.hid (by rw [HZ.out]; unfold zigStep; rw [if_neg hlt2])
          obtain ⟨z, hz⟩ : ∃ z, (zigTo n m).length = z := ⟨_, rfl⟩
          obtain ⟨lo, hlo⟩ : ∃ lo : Nat, 1 + m = lo := ⟨_, rfl⟩
          have hhiI : (n : Int) - 1 - m = lo := by omega
          have HLEN : Hid ((zigTo n (m + 1)).length = z + 1) := Lib.hid (by rw [HZS.out]; simp [hz])
          have HNX : Hid (((1 + (m + 1) : Nat) : Int) = (lo : Int) + 1 ∧ (n : Int) - 1 - ((m + 1 : Nat) : Int) = (lo : Int) - 1 ∧ m + 1 ≤ n / 2 ∧ lo < n + 1) := Lib.hid (by omega)
          rw [hlo] at HZS
          rw [hz] at HO hzl ⊢
          rw [hlo, hhiI]
          have hz1 : z ≤ 100 := hzl
          have g3 : (lo : Int) ≤ 12 := by omega
          clear hz hhiI hlohi hlt2 hzl hm hlt hlo
          generalize zigTo n m = L at HO HZS
          go_wp2_with (first
            | (at_builtin; refine wpList_appI1 _ rfl (.tmp 27) (.tmp 29) rfl _ rfl rfl HO.out (v := (lo : Int)) (I64.small (by omega)) (by omega) hsz ?_; intro A1 c1 w1 kk; have KK := Lib.hid kk; clear kk))
          go_roundw
          case rel => exact ⟨m + 1, A1, c1, HNX.out.2.2.1, by rw [HNX.out.1], by rw [HNX.out.2.1], by rw [HLEN.out], by rw [HLEN.out, HZS.out]; exact KK.out.own, HB.out.trans KK.out.below⟩
          case measure => have := HNX.out.2.2.2; simp [intOf]; omega
      · obtain rfl : m = n / 2 := by omega
        have hfl := first_len h1 h12
        unfold firstR at hfl
        rw [hfl] at HO ⊢
        have HFM := Lib.hid (zig_mem h1 h12 hm)
        have HFL := Lib.hid hfl
        obtain ⟨lo, hlo⟩ : ∃ lo : Int, ((1 + n / 2 : Nat) : Int) = lo := ⟨_, rfl⟩
        obtain ⟨hi, hhi⟩ : ∃ hi : Int, (n : Int) - 1 - ((n / 2 : Nat) : Int) = hi := ⟨_, rfl⟩
        have hlh : ¬lo ≤ hi := by omega
        rw [hlo, hhi]
        clear hfl hzl hm hlt hlo hhi
        go_wp2_with fail
        clear hlh
        have HRF := Lib.hid HO.out.rd
        obtain ⟨wf, rfl⟩ : ∃ wf : World, wf = wr := ⟨_, rfl⟩
        have hnil := OwnL.nil_ wf wf.heap.size
        have HNIL := Lib.hid hnil
        clear hnil HO
        go_loopw [7, 39] (fun out i wi => ∃ (k : Nat) (Ao : Option Addr) (co : Nat), k ≤ n ∧ i = .int .i64 k ∧ out = .slice Ao k co ∧ OwnL wi wf.heap.size Ao k co (fwdTo n k) ∧ Below wf.heap.size wf wi) (fun _ i _ => n - (intOf i).toNat)
        case atStart => exact ⟨0, none, 0, by omega, rfl, rfl, HNIL.out, Below.refl _ _⟩
        case round =>
          obtain ⟨k, Ao, co, hk, rfl, rfl, hown, hbel⟩ := hrel
          have HOL := Lib.hid hown
          have HBW := Lib.hid hbel
          have HRI := Lib.hid (HRF.out.below hbel)
          obtain ⟨wi, rfl⟩ : ∃ wi : World, wi = wr := ⟨_, rfl⟩
          have hszi := hbel.size
          clear hown hbel HNIL
          by_cases hlt : k < n
          · go_wp2_with fail
            go_loopw [9, 44] (fun row j wj => ∃ (j' : Nat) (Ar : Option Addr) (cr : Nat), j' ≤ n ∧ j = .int .i64 j' ∧ row = .slice Ar j' cr ∧ OwnI wj wi.heap.size 3 Ar j' cr (((firstR n).take j').map (turnR n k)) ∧ Below wi.heap.size wi wj) (fun _ j _ => n - (intOf j).toNat)
            case atStart => exact ⟨0, none, 0, by omega, rfl, rfl, OwnI.nil_ _ _ _, Below.refl _ _⟩
            case round =>
              obtain ⟨j, Ar, cr, hj, rfl, rfl, hown, hbel⟩ := hrel
              have HOR := Lib.hid hown
              have HBJ := Lib.hid hbel
              have hszj := hbel.size
              have HRJ := Lib.hid (HRI.out.below hbel)
              clear hown hbel
              by_cases hjn : j < n
              · obtain ⟨ad, g, rfl, _, hg, _, hcg⟩ := HRJ.out.at_ hjn
                have hgb := HFM.out g (List.mem_of_getElem? hg.out)
                have HT : Hid (((firstR n).take (j + 1)).map (turnR n k) = ((firstR n).take j).map (turnR n k) ++ [(g + k) % n]) := Lib.hid (by
                  have := take_of_get (l := firstR n) hg.out
                  rw [this, List.map_append]; rfl)
                have hg1 : 0 ≤ g + (k : Int) := by omega
                have hg2 : g + (k : Int) ≤ 100 := by omega
                have hn0 : (0 : Int) < n := by omega
                have hq : Int.tmod (g + k) n = (g + k) % n := Int.tmod_eq_emod_of_nonneg hg1
                have HX : Hid (I64 ((g + (k : Int)) % n)) := Lib.hid (by
                  have h3 := Int.emod_nonneg (g + (k : Int)) (show (n : Int) ≠ 0 by omega)
                  have h4 := Int.emod_lt_of_pos (g + (k : Int)) hn0
                  exact I64.small (by omega))
                clear hgb hq
                go_wp2_with (at_builtin; refine wpList_appI1 _ rfl (.tmp 48) (.tmp 54) rfl _ rfl rfl HOR.out (v := (g + k) % n) HX.out (by omega) hszj ?_; intro A1 c1 w1 kk; have KK := Lib.hid kk; clear kk)
                go_roundw
                case rel => exact ⟨j + 1, A1, c1, by omega, by go_num, rfl, by rw [HT.out]; exact KK.out.own, HBJ.out.trans KK.out.below⟩
                case measure => simp [intOf]; omega
              · obtain rfl : j = n := by omega
                have HRR : Hid (((firstR j).take j).map (turnR j k) = rowRd j k) := Lib.hid (by rw [List.take_of_length_le (Nat.le_of_eq (show (firstR j).length = j from HFL.out))]; rfl)
                rw [HRR.out] at HOR
                have HOW := Lib.hid (HOL.out.below HBJ.out)
                have HNE : Hid (0 < j → Ao.map (·.block) ≠ Ar.map (·.block)) := Lib.hid (fun hj0 e => by
                  obtain ⟨g, rfl, hg1, hg2⟩ := HOR.out.form hj0
                  have := HOL.out.lt g e
                  omega)
                have HFT := Lib.hid (fwdTo_succ j k)
                have hszw := Nat.le_trans hszi hszj
                go_wp2_with (at_builtin; refine wpList_appL1 _ rfl (.tmp 57) (.tmp 59) rfl _ rfl rfl HOW.out HOR.out.rd HNE.out (by omega) hszw ?_; intro A1 c1 w1 k1 k2; have K1 := Lib.hid k1; have K2 := Lib.hid k2; clear k1 k2)
                go_roundw
                case rel => exact ⟨k + 1, A1, c1, by omega, by go_num, rfl, by rw [HFT.out]; exact K1.out, (HBW.out.trans (HBJ.out.mono hszi)).trans K2.out⟩
                case measure => simp [intOf]; omega
          · obtain rfl : k = n := by omega
            clear HRI HRF hlt
            by_cases hodd : k % 2 = 1 ∧ 1 < k
            · have hr : Int.tmod (k : Int) 2 = 1 := by
                rw [Int.tmod_eq_emod_of_nonneg (by omega)]; omega
              have hr2 : (k : Int) % 2 = 1 := by omega
              have hr3 : (1 : Int) < k := by omega
              have HRL : Hid (roundsL k = fwdTo k k ++ backTo k k) := Lib.hid (by unfold roundsL; rw [if_pos hodd])
              go_wp2_with fail
              go_loopw [7, 70] (fun out i wk => ∃ (m : Nat) (Ao : Option Addr) (co : Nat), m ≤ k ∧ i = .int .i64 m ∧ out = .slice Ao (k + m) co ∧ OwnL wk wf.heap.size Ao (k + m) co (fwdTo k k ++ backTo k m) ∧ Below wf.heap.size wf wk) (fun _ i _ => k - (intOf i).toNat)
              case atStart => exact ⟨0, Ao, co, by omega, rfl, rfl, by rw [show backTo k 0 = [] from rfl, List.append_nil]; exact HOL.out, HBW.out⟩
              case round =>
                obtain ⟨m, Ao2, co2, hm, rfl, rfl, hown, hbel⟩ := hrel
                have HOL2 := Lib.hid hown
                have HBW2 := Lib.hid hbel
                have hszk := hbel.size
                obtain ⟨wk, rfl⟩ : ∃ wk : World, wk = wr := ⟨_, rfl⟩
                clear hown hbel HOL HBW
                by_cases hlt : m < k
                · have hmk : m < k + m := by omega
                  obtain ⟨ad, B1, m1, d1, l1, rfl, _, hl1, hr1, hc1⟩ := HOL2.out.rd.at_ (show m < k + m by omega)
                  obtain rfl : l1 = rowRd k m := by
                    have e := hl1.out
                    rw [List.getElem?_append_left (by rw [fwdTo_len]; exact hlt)] at e
                    unfold fwdTo at e
                    rw [List.getElem?_map, List.getElem?_range hlt] at e
                    injection e with e; exact e.symm
                  obtain rfl : m1 = k := by rw [← hr1.len, rowRd_len h1 h12]
                  have HR1 := Lib.hid hr1
                  have hB1 : B1.isNone = false := by
                    obtain ⟨ad, e, _⟩ := hr1.1.2.2 (by omega)
                    rw [e]; rfl
                  have hmI : (m : Int) < (m1 : Int) + m := by omega
                  have hlr := rowRd_len h1 h12 m
                  clear hl1 hr1
                  go_wp2_with fail
                  refine (clone_any B1 m1 d1 (rowRd m1 m) wk HR1.out (by omega) hB1).mono ?_; rintro e w2 ⟨Ac, cc, rfl, ho2, hb2⟩
                  rw [hlr] at ho2 ⊢
                  obtain ⟨gc, rfl, hgc, hgl⟩ := ho2.form (by omega)
                  have HO2 := Lib.hid ho2
                  have HB2 := Lib.hid hb2
                  clear ho2 hb2
                  go_wp2_with fail
                  refine (reverse_any gc m1 cc (rowRd m1 m) w2 wk.heap.size HO2.out (by omega)).mono ?_; rintro e w3 ⟨rfl, ho3, hg3⟩
                  have HO3 := Lib.hid ho3
                  have HB3 := Lib.hid (HB2.out.grown hg3 HB2.out.size (fun b e => by injection e with e; omega))
                  have HOW := Lib.hid (HOL2.out.below HB3.out)
                  have HNE : Hid (0 < m1 → (some ad : Option Addr).map (·.block) ≠ (some (⟨gc, 0, none⟩ : Addr)).map (·.block)) := Lib.hid (fun _ e => by
                    have h9 := HOL2.out.lt gc e
                    omega)
                  have hsz3 := Nat.le_trans hszk HB3.out.size
                  have HBT := Lib.hid (backTo_succ m1 m)
                  have hk2 : m1 + m + 1 ≤ 1000000 := by omega
                  clear ho3 hg3 HO2 HB2
                  go_wp2_with (at_builtin; refine wpList_appL1 _ rfl (.tmp 80) (.tmp 82) rfl _ rfl rfl HOW.out HO3.out.rd HNE.out hk2 hsz3 ?_; intro A1 c1 w4 k1 k2; have K1 := Lib.hid k1; have K2 := Lib.hid k2; clear k1 k2)
                  go_roundw
                  case rel => exact ⟨m + 1, A1, c1, by omega, by go_num, rfl, by rw [HBT.out, ← List.append_assoc]; exact K1.out, (HBW2.out.trans (HB3.out.mono hszk)).trans K2.out⟩
                  case measure => simp [intOf]; omega
                · obtain rfl : m = k := by omega
                  have HLL : Hid ((roundsL m).length = m + m) := Lib.hid (by rw [HRL.out, List.length_append, fwdTo_len, backTo_len])
                  go_wp2
                  go_ret2
                  rw [HV.out]
                  exact ⟨Ao2, co2, by rw [HLL.out]; rfl, by rw [HLL.out, HRL.out]; exact HOL2.out.mono hsz, HB.out.trans (HBW2.out.mono hsz)⟩
            · have HRL : Hid (roundsL k = fwdTo k k) := Lib.hid (by unfold roundsL; rw [if_neg hodd])
              by_cases hm2 : k % 2 = 1
              · have hr2 : (k : Int) % 2 = 1 := by omega
                have hr3 : ¬(1 : Int) < k := by omega
                go_wp2
                go_ret2
                rw [HV.out]
                exact ⟨Ao, co, by rw [HRL.out, fwdTo_len]; rfl, by rw [HRL.out, fwdTo_len]; exact HOL.out.mono hsz, HB.out.trans (HBW.out.mono hsz)⟩
              · have hr2 : (k : Int) % 2 = 0 := by omega
                go_wp2
                go_ret2
                rw [HV.out]
                exact ⟨Ao, co, by rw [HRL.out, fwdTo_len]; rfl, by rw [HRL.out, fwdTo_len]; exact HOL.out.mono hsz, HB.out.trans (HBW.out.mono hsz)⟩
end Go.Proofs.Ytgnfkgmppeohoaa
