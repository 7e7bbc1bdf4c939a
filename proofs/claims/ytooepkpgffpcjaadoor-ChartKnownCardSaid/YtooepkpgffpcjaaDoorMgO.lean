/- Walks: the reference's Rank and Next. Walks: the reference's after and Next. -/
import Derived.Test.YtooepkpgffpcjaaDoorMgL
import Derived.Test.YtooepkpgffpcjaaDoorMgH
namespace Go.Proofs.YtooepkpgffpcjaaDoor
open Go.RowKit

theorem RdI.take_ {w : World} {A : Option Addr} {n : Nat} {l : List Int} (h : RdI w A n l) {k : Nat} (hk : k ≤ n) : RdI w A k (l.take k) := by
  refine ⟨⟨by have := h.len; simp; omega, by have := h.bd; omega, fun h0 => ?_⟩, fun v hv => h.2 v (List.mem_of_mem_take hv)⟩
  obtain ⟨ad, e, hb, hc⟩ := h.1.2.2 (by omega)
  refine ⟨ad, e, hb, fun j u hu => hc j u ?_⟩
  rw [ints_get] at hu ⊢
  rw [List.getElem?_take] at hu
  split at hu
  · exact hu
  · cases hu
theorem rankRTo_succ (l : List Int) (k : Nat) : rankRTo l (k + 1) = rankRTo l k + l.getD (k + 1) 0 * behindR (l.length - 1 - (k + 1)) (blk (l.take (k + 1))) := foldl_range_succ _ _ _

set_option maxHeartbeats 1000000 in
set_option maxRecDepth 100000 in
theorem refRank_any (A : Option Addr) (n c : Nat) (l : List Int) (w : World) (h : RdI w A n l) (hc : n ≤ c) : Calls Tryd.prog 44 #[.slice A n c] w (IntErr (rankE l) w) := by
  have HC := Lib.hid (refCheck_any A n c l w h)
  by_cases h0 : chk l = 0
  · have HV := Lib.hid (show rankE l = (rankRTo l (l.length - 1), 0) by unfold rankE; rw [if_neg (by omega), rank_eq h0])
    have hln := h.len
    have hn1 : 1 ≤ n := by have := (chk_ok h0).1; omega
    have hn9 : n ≤ 9 := by have := (chk_ok h0).2.1; omega
    have HCK := Lib.hid h0
    have HLN := Lib.hid hln
    have HBD : Hid (∀ k, k + 1 ≤ n → 0 ≤ rankRTo l k ∧ rankRTo l k ≤ 1000000000000) := Lib.hid fun k hk => by
      rw [← rank_eq_to h0 k (by omega)]
      have := rankTo_bd l (chk_ok h0).2.2.1 (k + 1) (by omega)
      omega
    rw [h0] at HC
    clear h0 hln
    go_enter Tryd.func44, Tryd.ntmps44
    go_wp2_with fail
    refine HC.out.mono ?_; rintro e w' ⟨rfl, rfl⟩
    go_wp2_with fail
    go_loopw [5, 6] (fun s i wr => ∃ k : Nat, 1 ≤ k ∧ k ≤ n ∧ i = .int .i64 k ∧ s = .int .i64 (rankRTo l (k - 1)) ∧ Below w.heap.size w wr) (fun _ i _ => n - (intOf i).toNat)
    case atStart => exact ⟨1, by omega, by omega, rfl, rfl, Below.refl _ _⟩
    case round =>
      obtain ⟨k, hk1, hk, rfl, rfl, hbel⟩ := hrel
      have HB := Lib.hid hbel
      clear hbel
      by_cases hkn : k < n
      · obtain ⟨ad, v, rfl, had, hv, _, hcell0⟩ := h.at_ hkn
        rw [← HB.out.cell (by rw [block_of_add]; exact had)] at hcell0
        have hv9 := (chk_ok HCK.out).2.2.1 v (List.mem_of_getElem? hv.out)
        have hb9 := blk_take_le HCK.out k
        obtain ⟨b, hb⟩ : ∃ b : Nat, blk (l.take k) = b := ⟨(blk (l.take k)).toNat, by omega⟩
        have HS : Hid (rankRTo l k = rankRTo l (k - 1) + v * behindR (n - 1 - k) b) := Lib.hid (by
          have e := rankRTo_succ l (k - 1)
          rw [show k - 1 + 1 = k by omega] at e
          rw [e, getD_of_get hv.out, HLN.out, hb])
        have hbb : b ≤ k := by omega
        have hm9 : n - 1 - k < 9 := by omega
        have hm11 : n - 1 - k + b < 11 := by omega
        have HBH := Lib.hid (fun W : World => behind_any (n - 1 - k) b W hm9 hm11)
        have hbh0 := behind_pos (n - 1 - k) b (by omega)
        have hbh1 := behind_bd (n - 1 - k) hm9 b hm11
        generalize behindR (n - 1 - k) (b : Int) = e at HS HBH hbh0 hbh1
        have HT := Lib.hid ((h.below HB.out).take_ (k := k) (by omega))
        have HSM := Lib.hid ((chk_small HCK.out).take k)
        have HBB := Lib.hid hb
        have hbd := HBD.out (k - 1) (by omega)
        have hve0 : 0 ≤ v * e := Int.mul_nonneg hv9.1 (by omega)
        have hve1 : v * e ≤ 9 * e := Int.mul_le_mul_of_nonneg_right (by omega) (by omega)
        have hve2 : v * e ≤ 90000000000 := by omega
        have hs0 : 0 ≤ rankRTo l (k - 1) + v * e := by omega
        have hs1 : rankRTo l (k - 1) + v * e ≤ 10000000000000 := by omega
        have hidx : (n : Int) - 1 - (k : Int) = ((n - 1 - k : Nat) : Int) := by omega
        have hkc : (k : Int) ≤ c := by omega
        have hk0 : (0 : Int) ≤ k := by omega
        have hkI : (k : Int) < n := by omega
        have wr1 : IntKind.i64.wrap ((n : Int) - 1) = (n : Int) - 1 := wrap_smallI (by omega) (by omega)
        have wr2 : IntKind.i64.wrap (((n - 1 - k : Nat) : Int)) = ((n - 1 - k : Nat) : Int) := wrap_smallI (by omega) (by omega)
        have wr3 : IntKind.i64.wrap (v * e) = v * e := wrap_smallI (by omega) (by omega)
        have HNX : Hid (k + 1 - 1 = k) := Lib.hid (by omega)
        clear hve1 hb hb9
        generalize rankRTo l (k - 1) = s at HS hbd hs0 hs1 ⊢
        have wr4 : IntKind.i64.wrap (s + v * e) = s + v * e := by
          have : s + v * e ≤ 1000000000000 + 90000000000 := by omega
          simp only [IntKind.wrap, IntKind.bits, IntKind.signed, Bool.true_and]
          by_cases h : 2 ^ (64 - 1) ≤ (s + v * e) % 2 ^ 64
          · rw [if_pos (by simpa using h)]; omega
          · rw [if_neg (by simpa using h)]; omega
        go_wp2_with fail
        go_region_held3 (fun w' => w'.cell? (ad.add k) = some (.int .i64 v)) (first | exact hcell0) (first
            | (go_at_call 86; refine (refBlocks_any (some ad) k c (l.take k) wr.drew HT.out.drew HSM.out).mono ?_; rintro en w' ⟨rfl, rfl⟩; rw [HBB.out])
            | (go_at_call 96; refine (HBH.out wr.drew).mono ?_; rintro en w' ⟨rfl, rfl⟩))
        all_goals
          go_wp2
          go_roundw
          case rel => exact ⟨k + 1, by omega, by omega, by go_num, by rw [HNX.out, HS.out], HB.out.drew⟩
          case measure => simp [intOf]; omega
      · obtain rfl : k = n := by omega
        have HKL : Hid (rankRTo l (l.length - 1) = rankRTo l (k - 1)) := Lib.hid (by rw [HLN.out])
        go_wp2
        go_ret2
        refine ⟨?_, HB.out⟩
        rw [HV.out, HKL.out]; rfl
  · have HV := Lib.hid (show rankE l = (0, chk l) by unfold rankE; rw [if_pos h0])
    generalize chk l = z at HC h0 HV
    have g1 : (z == 0) = false := by simpa using h0
    have g2 : (z != 0) = true := by simpa using h0
    clear h0
    go_enter Tryd.func44, Tryd.ntmps44
    go_wp2_with fail
    refine HC.out.mono ?_; rintro e w' ⟨rfl, rfl⟩
    go_wp2
    go_ret2
    refine ⟨?_, Below.refl _ _⟩
    rw [HV.out]; rfl
end Go.Proofs.YtooepkpgffpcjaaDoor

namespace Go.Proofs.YtooepkpgffpcjaaDoor
open Go.RowKit

theorem nextFrom_yes {l : List Int} {k : Nat} (hk : 1 ≤ k) (h : l.getD k 0 < blk (l.take k)) : nextFrom l k = some (nextAt l k) := by
  obtain ⟨j, rfl⟩ : ∃ j, k = j + 1 := ⟨k - 1, by omega⟩
  unfold nextFrom; rw [if_pos h]
theorem nextFrom_no {l : List Int} {k : Nat} (hk : 1 ≤ k) (h : ¬ l.getD k 0 < blk (l.take k)) : nextFrom l k = nextFrom l (k - 1) := by
  obtain ⟨j, rfl⟩ : ∃ j, k = j + 1 := ⟨k - 1, by omega⟩
  rw [nextFrom, if_neg h]; rfl
def nextPart (l : List Int) (k j : Nat) : List Int := l.take k ++ [l.getD k 0 + 1] ++ List.replicate j 0
theorem nextPart_snoc (l : List Int) (k j : Nat) : nextPart l k j ++ [0] = nextPart l k (j + 1) := by
  unfold nextPart; rw [List.append_assoc, ← List.replicate_succ']
theorem nextPart_length {l : List Int} {k : Nat} (h : k < l.length) (j : Nat) : (nextPart l k j).length = k + 1 + j := by
  unfold nextPart; simp; omega
theorem nextAt_part (l : List Int) (k : Nat) : nextAt l k = nextPart l k (l.length - k - 1) := rfl
theorem nextAt_length {l : List Int} {k : Nat} (h : k < l.length) : (nextAt l k).length = l.length := by rw [nextAt_part, nextPart_length h]; omega
/-- what the reference's after leaves -/
def Aftered (l : List Int) (w : World) (e : Ending) (w' : World) : Prop :=
  (∃ q A c, nextL l = some q ∧ e = .returned (.tuple #[.slice A l.length c, .bool true]) ∧ OwnI w' w.heap.size 3 A l.length c q ∧ Below w.heap.size w w') ∨
  (nextL l = none ∧ e = .returned (.tuple #[.slice none 0 0, .bool false]) ∧ Below w.heap.size w w')

set_option maxHeartbeats 1000000 in
set_option maxRecDepth 100000 in
theorem refAfter_any (A : Option Addr) (n c : Nat) (l : List Int) (w : World) (h : RdI w A n l) (hc : n ≤ c) (h0 : chk l = 0) : Calls Tryd.prog 98 #[.slice A n c] w (Aftered l w) := by
  have hln := h.len
  have hn1 : 1 ≤ n := by have := (chk_ok h0).1; omega
  have hn9 : n ≤ 9 := by have := (chk_ok h0).2.1; omega
  have HCK := Lib.hid h0
  have HLN := Lib.hid hln
  have HNL : Hid (nextL l = nextFrom l (n - 1)) := Lib.hid (by unfold nextL; rw [hln])
  clear h0 hln
  go_enter Tryd.func98, Tryd.ntmps98
  go_wp2_with fail
  go_loopw [4] (fun i wr => ∃ k : Nat, k < n ∧ i = .int .i64 k ∧ Hid (nextL l = nextFrom l k) ∧ Below w.heap.size w wr) (fun i _ => (intOf i).toNat)
  case atStart => exact ⟨n - 1, by omega, by congr 1; omega, HNL, Below.refl _ _⟩
  case round =>
    obtain ⟨k, hkn, rfl, HN, hbel⟩ := hrel
    have HB := Lib.hid hbel
    clear hbel HNL
    by_cases hk1 : 1 ≤ k
    · obtain ⟨ad, v, rfl, had, hv, _, hcell0⟩ := h.at_ hkn
      rw [← HB.out.cell (by rw [block_of_add]; exact had)] at hcell0
      have hv9 := (chk_ok HCK.out).2.2.1 v (List.mem_of_getElem? hv.out)
      have hb9 := blk_take_le HCK.out k
      obtain ⟨b, hb⟩ : ∃ b : Nat, blk (l.take k) = b := ⟨(blk (l.take k)).toNat, by omega⟩
      have HT := Lib.hid ((h.below HB.out).take_ (k := k) (by omega))
      have HSM := Lib.hid ((chk_small HCK.out).take k)
      have HBB := Lib.hid hb
      have HV := Lib.hid (getD_of_get (d := 0) hv.out)
      have hbb : b ≤ k := by omega
      have hkc : (k : Int) ≤ c := by omega
      have hk0 : (0 : Int) ≤ k := by omega
      have hkI : (k : Int) < n := by omega
      have hkp : 0 < (k : Int) := by omega
      by_cases hlt : v < b
      · have HY := Lib.hid (nextFrom_yes hk1 (by rw [HV.out, hb]; exact hlt))
        have HA0 := Lib.hid (h.below HB.out)
        clear hb hb9
        go_wp2_with fail
        go_region_held3 (fun w' => w'.cell? (ad.add k) = some (.int .i64 v)) (first | exact hcell0) (first
            | (go_at_call 86; refine (refBlocks_any (some ad) k c (l.take k) wr.drew HT.out.drew HSM.out).mono ?_; rintro en w' ⟨rfl, rfl⟩; rw [HBB.out]))
        have hsz := HB.out.size
        have hcd : wr.drew.cell? (ad.add k) = some (.int .i64 v) := hcell0
        have HTD : Hid (RdI wr.drew (some ad) k (l.take k)) := HT.out.drew
        have HBD : Hid (Below w.heap.size w wr.drew) := Lib.hid HB.out.drew
        generalize wr.drew = wd at hcd HTD HBD ⊢
        have hA0 : (ad.add k).block < w.heap.size := by rw [block_of_add]; exact had
        have hA1 : (ad.add k).block < wd.heap.size := Nat.lt_of_lt_of_le hA0 HBD.out.size
        have hv64 : I64 (v + 1) := I64.small (by omega)
        have HV64 := Lib.hid hv64
        go_upto_region 6 with (at_builtin; go_must (refine wpList_appI _ rfl (.tmp 22) (.tmp 25) rfl rfl rfl (OwnI.lit wd 3 [] 0 (by omega) rfl w.heap.size HBD.out.size (by simp)) (HTD.out.alloc _) (by omega) (by have := HBD.out.size; simp; omega) ?_); intro A1 c1 w1 kk; have KK := Lib.hid kk; clear kk)
        have hO1 := KK.out.own
        rw [List.nil_append, Nat.zero_add] at hO1
        have HO1 := Lib.hid hO1
        have HB1 := Lib.hid (HBD.out.trans (((Below.refl _ _).alloc HBD.out.size (.cells #[] 3)).trans KK.out.below))
        have hc1 : w1.cell? (ad.add k) = some (.int .i64 v) := (KK.out.below.cell hA0).trans ((World.cell?_alloc_lt wd _ _ hA1).trans hcd)
        have hsz1 := HB1.out.size
        clear hO1 KK HTD HBD hcd hA1 hcell0
        go_wp2_with (at_builtin; go_must (refine wpList_appI1 _ rfl (.tmp 27) (.tmp 33) rfl _ rfl rfl HO1.out (v := v + 1) HV64.out (by omega) hsz1 ?_); intro A2 c2 w2 kk; have KK := Lib.hid kk; clear kk)
        have HLK : Hid (k < l.length) := Lib.hid (by rw [HLN.out]; exact hkn)
        go_loopw [5] (fun o wr2 => ∃ j : Nat, k + 1 + j ≤ n ∧ ∃ Ao co, o = .slice Ao (k + 1 + j) co ∧ OwnI wr2 w.heap.size 3 Ao (k + 1 + j) co (nextPart l k j) ∧ Below w.heap.size w wr2) (fun o _ => n - lenOfV o)
        case atStart => exact ⟨0, by omega, A2, c2, rfl, by unfold nextPart; rw [HV.out, List.replicate_zero, List.append_nil]; exact KK.out.own, HB1.out.trans KK.out.below⟩
        case round =>
          obtain ⟨j, hj, Ao, co, rfl, hown, hbel⟩ := hrel
          have HO := Lib.hid hown
          have HB2 := Lib.hid hbel
          clear hown hbel
          by_cases hjn : k + 1 + j < n
          · have hszz := HB2.out.size
            have HSN := Lib.hid (nextPart_snoc l k j)
            have hjn' : ((k + 1 + j : Nat) : Int) < n := by omega
            have hjn2 : (k : Int) + 1 + j < n := by omega
            go_wp2_with (at_builtin; go_must (refine wpList_appI1 _ rfl (.tmp 40) (.tmp 41) rfl _ rfl rfl HO.out (v := 0) (I64.small (by omega)) (by omega) hszz ?_); intro A3 c3 w3 kk; have K3 := Lib.hid kk; clear kk)
            go_roundw
            case rel => exact ⟨j + 1, by omega, A3, c3, rfl, by rw [← HSN.out]; exact K3.out.own, HB2.out.trans K3.out.below⟩
            case measure => simp [lenOfV]; omega
          · have hjn2 : ¬ (k : Int) + 1 + j < n := by omega
            have hjn3 : k + 1 + j = n := by omega
            have HNA : Hid (nextPart l k j = nextAt l k) := Lib.hid (by rw [nextAt_part]; congr 1; rw [HLN.out]; omega)
            rw [HNA.out, hjn3] at HO
            rw [hjn3]
            go_wp2
            go_ret2
            exact .inl ⟨nextAt l k, Ao, co, HN.out.trans HY.out, by rw [HLN.out]; rfl, by rw [HLN.out]; exact HO.out, HB2.out⟩
      · have HY := Lib.hid (nextFrom_no hk1 (by rw [HV.out, hb]; exact hlt))
        clear hb hb9
        go_wp2_with fail
        go_region_held3 (fun w' => w'.cell? (ad.add k) = some (.int .i64 v)) (first | exact hcell0) (first
            | (go_at_call 86; refine (refBlocks_any (some ad) k c (l.take k) wr.drew HT.out.drew HSM.out).mono ?_; rintro en w' ⟨rfl, rfl⟩; rw [HBB.out]))
        go_wp2
        go_roundw
        case rel => exact ⟨k - 1, by omega, by congr 1; omega, HN.out.trans HY.out, HB.out.drew⟩
        case measure => simp [intOf]; omega
    · obtain rfl : k = 0 := by omega
      have HZ : Hid (nextL l = none) := Lib.hid HN.out
      go_wp2
      go_ret2
      exact .inr ⟨HZ.out, rfl, HB.out⟩

set_option maxHeartbeats 400000 in
theorem refNext_any (A : Option Addr) (n c : Nat) (l : List Int) (w : World) (h : RdI w A n l) (hc : n ≤ c) : Calls Tryd.prog 48 #[.slice A n c] w (IntsErr (nextE l) w) := by
  have HC := Lib.hid (refCheck_any A n c l w h)
  by_cases h0 : chk l = 0
  · have HA := Lib.hid (refAfter_any A n c l w h hc h0)
    have HV : Hid (nextE l = match nextL l with | some q => (q, 0) | none => ([], 7)) := Lib.hid (by unfold nextE; rw [if_neg (by omega)]; rfl)
    have HLQ : Hid (∀ q, nextL l = some q → q.length = l.length) := Lib.hid (by
      intro q hq
      have key : ∀ k, k < l.length → nextFrom l k = some q → q.length = l.length := by
        intro k
        induction k with
        | zero => intro _ h; cases h
        | succ k ih =>
          intro hk h
          rw [nextFrom] at h
          split at h
          · injection h with h; rw [← h]; exact nextAt_length hk
          · exact ih (by omega) h
      exact key _ (by have := (chk_ok h0).1; omega) hq)
    rw [h0] at HC
    clear h0
    go_enter Tryd.func48, Tryd.ntmps48
    go_wp2_with fail
    refine HC.out.mono ?_; rintro e w' ⟨rfl, rfl⟩
    go_wp2_with fail
    refine HA.out.mono ?_
    rintro e w2 (⟨q, A2, c2, hq, rfl, ho, hb⟩ | ⟨hq, rfl, hb⟩)
    · have HO := Lib.hid ho
      have HB := Lib.hid hb
      have HQ := Lib.hid (HLQ.out q hq)
      rw [hq] at HV
      clear ho hb hq
      go_wp2
      go_ret2
      rw [HV.out]
      exact ⟨A2, c2, by simp only [HQ.out]; rfl, by simp only [HQ.out]; exact HO.out, HB.out⟩
    · have HB := Lib.hid hb
      rw [hq] at HV
      clear hb hq
      go_wp2
      go_ret2
      rw [HV.out]
      exact ⟨none, 0, rfl, OwnI.nil_ _ _ _, HB.out⟩
  · have HV : Hid (nextE l = ([], chk l)) := Lib.hid (by unfold nextE; rw [if_pos h0])
    generalize chk l = z at HC h0 HV
    have g1 : (z == 0) = false := by simpa using h0
    have g2 : (z != 0) = true := by simpa using h0
    clear h0
    go_enter Tryd.func48, Tryd.ntmps48
    go_wp2_with fail
    refine HC.out.mono ?_; rintro e w' ⟨rfl, rfl⟩
    go_wp2
    go_ret2
    rw [HV.out]; exact IntsErr.none_ _ _
end Go.Proofs.YtooepkpgffpcjaaDoor
