/- Walks: bars itself. -/
import Derived.Test.YtooepkpgffpcjaaDoorBarsW
namespace Go.Proofs.YtooepkpgffpcjaaDoor
open Go.RowKit

theorem RdB.of_own {w : World} {base n c : Nat} {A : Option Addr} {L : List Bar} (h : Own w base 85 3 A n c (barCells L)) (hn : n ≤ 1000000) : RdB w A n L := by
  have hl := h.len
  rw [barCells_length] at hl
  refine ⟨by omega, hn, fun h0 => ?_⟩
  obtain ⟨g, rfl, _, hg⟩ := h.form h0
  exact ⟨g, rfl, hg, fun j u hu => by
    have hj : j < n * 3 := by have := (List.getElem?_eq_some_iff.1 hu).1; rw [barCells_length] at this; omega
    rw [h.cellAt j hj]; exact hu⟩

theorem RdI.drop_ {w : World} {ad : Addr} {n : Nat} {l : List Int} (h : RdI w (some ad) n l) {k : Nat} (hk : k < n) : RdI w (some (ad.add k)) (n - k) (l.drop k) := by
  refine ⟨⟨by have := h.len; simp; omega, by have := h.bd; omega, fun _ => ?_⟩, fun v hv => h.2 v (List.mem_of_mem_drop hv)⟩
  obtain ⟨ad', e, hb, hc⟩ := h.1.2.2 (by omega)
  injection e with e
  subst e
  refine ⟨_, rfl, by rw [block_of_add]; exact hb, fun j u hu => ?_⟩
  rw [Addr.add_add]
  refine hc (k + j) u ?_
  rw [ints_get] at hu ⊢
  rwa [List.getElem?_drop] at hu

theorem if_max' (t u : Int) : (if t < u then u else t) = max t u := by split <;> omega
theorem IsB.drew {w : World} {g : Nat} {t : TypeId} {cs : Array Value} (h : Blk w g t cs) : Blk w.drew g t cs := h
/-- bars that are the callee's own -/
def Barred (L : List Bar) (w : World) (e : Ending) (w' : World) : Prop :=
  ∃ A c, e = .returned (.slice A L.length c) ∧ Own w' w.heap.size 85 3 A L.length c (barCells L) ∧ Below w.heap.size w w'

set_option maxHeartbeats 2000000 in
theorem bars_any (A : Option Addr) (n c : Nat) (l : List Int) (w : World) (h : RdI w A n l) (hc : n ≤ c) (hk : chk l = 0) :
    Calls Tryd.prog 88 #[.slice A n c] w (Barred (barsTo l n) w) := by
  have hlen := h.len
  have hn9 : n ≤ 9 := by have := (chk_ok hk).2.1; omega
  have HL := Lib.hid hlen
  have HCK := Lib.hid hk
  clear hlen hk
  go_enter Tryd.func88, Tryd.ntmps88
  go_wp2_with fail
  go_loopw [3, 11] (fun o i wr => ∃ k : Nat, k ≤ n ∧ i = .int .i64 k ∧ ∃ Ao co, o = .slice Ao (barsTo l k).length co ∧ Own wr w.heap.size 85 3 Ao (barsTo l k).length co (barCells (barsTo l k)) ∧ Below w.heap.size w wr) (fun _ i _ => n - (intOf i).toNat)
  case atStart => exact ⟨0, by omega, rfl, none, 0, rfl, Own.nil_ _ _ _ _, Below.refl _ _⟩
  case round =>
    obtain ⟨k, hk, rfl, Ao, co, rfl, hown, hbel⟩ := hrel
    have HO := Lib.hid hown
    have HB := Lib.hid hbel
    clear hown hbel
    by_cases hlt : k < n
    · obtain ⟨ad, v, rfl, had, hv, _, hcell⟩ := h.at_ hlt
      rw [← HB.out.cell (by rw [block_of_add]; exact had)] at hcell
      have hv9 := (chk_ok HCK.out).2.2.1 v (List.mem_of_getElem? hv.out)
      have hgr := chk_grow HCK.out hv.out
      obtain ⟨hinv, hbl⟩ := barsTo_inv HCK.out k (by rw [HL.out]; omega)
      have HSU := Lib.hid (barsTo_succ l k)
      rw [← hbl] at hgr
      have HI := Lib.hid hinv
      have hm9 : (barsTo l k).length ≤ 9 := by have := blk_le9 HCK.out; have := foldl_max_lt (l.take k) 9 0 (fun v hv => ((chk_ok HCK.out).2.2.1 v (List.mem_of_mem_take hv)).2) (by omega); unfold blk at hbl; omega
      generalize barsTo l k = L at HO HSU hgr HI hm9
      obtain ⟨v, rfl⟩ : ∃ v' : Nat, v = v' := ⟨v.toNat, by omega⟩
      obtain ⟨m, hm⟩ : ∃ m, L.length = m := ⟨_, rfl⟩
      rw [hm] at HO hgr hm9 ⊢
      have HM := Lib.hid hm
      clear hinv hbl hm
      by_cases hnew : v = m
      · subst hnew
        have g1 : ((v : Int) == (v : Int)) = true := by simp
        have hld : ((l.drop k).length : Int) ≤ 9 := by have := HL.out; simp; omega
        obtain ⟨wo, rfl⟩ : ∃ wo : World, wo = wr := ⟨_, rfl⟩
        go_wp2_with fail
        go_loopw [24] (fun i wq => ∃ j : Nat, j ≤ v ∧ i = .int .i64 j ∧ Blk wq wo.heap.size 85 #[.int .i64 k, .int .i64 0, .int .i64 ((List.range j).foldl (levStep (l.drop k) L) 1)] ∧ Below wo.heap.size wo wq) (fun i _ => v - (intOf i).toNat)
        case atStart => exact ⟨0, by omega, rfl, Blk.new _ _ _, (Below.refl _ _).alloc (Nat.le_refl _) _⟩
        case round =>
          obtain ⟨j, hj, rfl, hblk, hbel⟩ := hrel
          have HBK := Lib.hid hblk
          have HBE := Lib.hid hbel
          clear hblk hbel
          by_cases hjv : j < v
          · obtain ⟨g, rfl, hbg, hgl⟩ := HO.out.form (by omega)
            obtain ⟨b, hb⟩ := getB HM.out hjv
            have hb3 := barCells_get L j b hb
            have HO2 := Lib.hid (HO.out.below HBE.out)
            have c0 := HO2.out.cellAt (j * 3) (by omega)
            have c1 := HO2.out.cellAt (j * 3 + 1) (by omega)
            have c2 := HO2.out.cellAt (j * 3 + 2) (by omega)
            rw [hb3.1] at c0
            rw [hb3.2.1] at c1
            rw [hb3.2.2] at c2
            have hix := HI.out.idx hb
            have hbb := HI.out.bd j b hb
            obtain ⟨b1, b2, b3⟩ := b
            simp only at c0 c1 c2 hbb
            have HBB := Lib.hid hb
            have HIX := Lib.hid hix
            clear hb hb3 hix
            have hRB : ∀ W, Below wr.heap.size wr W → RdB W (some ⟨g, 0, none⟩) v L := fun W hW => (RdB.of_own HO2.out (by omega)).below hW
            have hRI : ∀ W, Below wr.heap.size wr W → RdI W (some ad) n l := fun W hW => h.below ((HB.out.trans (HBE.out.mono (by have := HB.out.size; omega))).trans (hW.mono (by have := (HB.out.trans (HBE.out.mono (by have := HB.out.size; omega))).size; omega)))
            have HRB := Lib.hid hRB
            have HRI := Lib.hid hRI
            clear hRB hRI
            have hck : ¬ c = k := by omega
            have hHS := Lib.hid (foldl_range_succ (levStep (l.drop k) L) 1 j)
            have hlb := levs_bd HI.out (l.drop k) j (by rw [HM.out]; omega)
            generalize (List.range j).foldl (levStep (l.drop k) L) 1 = lv at HBK hHS hlb
            have hlb1 := hlb.1
            have hlb2 : lv ≤ 100 := by omega
            have HXlt := Lib.hid HBK.out.lt
            clear hlb
            by_cases hz : hasI (l.drop k) j = true
            · have HLV : Hid (levStep (l.drop k) L lv j = max lv (b3 + 1)) := by
                show levStep (l.drop k) L lv j = _
                unfold levStep
                rw [if_pos hz, getD_of_get HBB.out]
              go_wp2_with fail
              go_region_with (first | (go_at_call 117; refine (indexBar_any _ _ _ L _ _ _ _ ?_).mono ?_; exact HRB.out _ ((Below.refl _ _).alloc (Nat.le_refl _) _).drew; rintro e w2 ⟨rfl, hb2⟩; rw [HIX.out]; have HB2 := Lib.hid hb2; clear hb2) | (go_at_call 116; refine (contains_any _ _ _ (l.drop k) _ _ ?_ (by omega)).mono ?_; exact (HRI.out _ (((Below.refl _ _).alloc (Nat.le_refl _) _).drew.trans (HB2.out.mono (by simp)))).drop_ hlt; rintro e w3 ⟨rfl, rfl⟩))
              have hbx := (IsB.drew (HBK.out.alloc (.cells #[.int .i64 b1, .int .i64 b2, .int .i64 b3] 85))).below HB2.out
              have hby := (IsB.drew (Blk.new wr 85 #[.int .i64 b1, .int .i64 b2, .int .i64 b3])).below HB2.out
              have hbW : Below wo.heap.size wo w2 := HBE.out.trans ((((Below.refl _ _).alloc (Nat.le_refl _) _).drew.trans (HB2.out.mono (by simp))).mono HBE.out.size)
              have cx2 : w2.cell? ⟨wo.heap.size, 2, none⟩ = some (.int .i64 lv) := by rw [hbx.cell]; rfl
              have fx2 := hbx.frozen 2
              have cy2 : w2.cell? ⟨wr.heap.size, 2, none⟩ = some (.int .i64 b3) := by rw [hby.cell]; rfl
              have HBX := Lib.hid hbx
              have HBW := Lib.hid hbW
              clear hbx hby hbW
              go_wp2
              go_roundw
              case rel => exact ⟨j + 1, by omega, by go_num, by rw [hHS.out, HLV.out, ← if_max']; exact HBX.out.set_ 2 _, HBW.out.setCell (p := ⟨wo.heap.size, 2, none⟩) (Nat.le_refl _) _⟩
              case measure => simp [intOf]; omega
            · have HLV : Hid (levStep (l.drop k) L lv j = lv) := by
                show levStep (l.drop k) L lv j = _
                unfold levStep
                rw [if_neg hz]
              have hz' : hasI (l.drop k) j = false := by simpa using hz
              clear hz
              go_wp2_with fail
              go_region_with (first | (go_at_call 117; refine (indexBar_any _ _ _ L _ _ _ _ ?_).mono ?_; exact HRB.out _ ((Below.refl _ _).alloc (Nat.le_refl _) _).drew; rintro e w2 ⟨rfl, hb2⟩; rw [HIX.out]; have HB2 := Lib.hid hb2; clear hb2) | (go_at_call 116; refine (contains_any _ _ _ (l.drop k) _ _ ?_ (by omega)).mono ?_; exact (HRI.out _ (((Below.refl _ _).alloc (Nat.le_refl _) _).drew.trans (HB2.out.mono (by simp)))).drop_ hlt; rintro e w3 ⟨rfl, rfl⟩))
              have hbx := (IsB.drew (HBK.out.alloc (.cells #[.int .i64 b1, .int .i64 b2, .int .i64 b3] 85))).below HB2.out
              have hby := (IsB.drew (Blk.new wr 85 #[.int .i64 b1, .int .i64 b2, .int .i64 b3])).below HB2.out
              have hbW : Below wo.heap.size wo w2 := HBE.out.trans ((((Below.refl _ _).alloc (Nat.le_refl _) _).drew.trans (HB2.out.mono (by simp))).mono HBE.out.size)
              have cx2 : w2.cell? ⟨wo.heap.size, 2, none⟩ = some (.int .i64 lv) := by rw [hbx.cell]; rfl
              have fx2 := hbx.frozen 2
              have cy2 : w2.cell? ⟨wr.heap.size, 2, none⟩ = some (.int .i64 b3) := by rw [hby.cell]; rfl
              have HBX := Lib.hid hbx
              have HBW := Lib.hid hbW
              clear hbx hby hbW
              go_wp2
              go_roundw
              case rel => exact ⟨j + 1, by omega, by go_num, by rw [hHS.out, HLV.out]; exact HBX.out, HBW.out⟩
              case measure => simp [intOf]; omega
          · obtain rfl : v = j := by omega
            have HNL : Hid ((List.range v).foldl (levStep (l.drop k) L) 1 = newLevel (l.drop k) L) := by unfold newLevel; rw [HM.out]; rfl
            rw [HNL.out] at HBK
            have x0 : wr.cell? ⟨wo.heap.size, 0, none⟩ = some (.int .i64 k) := by rw [HBK.out.cell]; rfl
            have x1 : wr.cell? ⟨wo.heap.size, 1, none⟩ = some (.int .i64 0) := by rw [HBK.out.cell]; rfl
            have x2 : wr.cell? ⟨wo.heap.size, 2, none⟩ = some (.int .i64 (newLevel (l.drop k) L)) := by rw [HBK.out.cell]; rfl
            have hsz : w.heap.size ≤ wr.heap.size := (HB.out.trans (HBE.out.mono HB.out.size)).size
            have HST : Hid (barStep l L k = (L ++ [((k : Int), 0, newLevel (l.drop k) L)]).set v ((k : Int), (k : Int), newLevel (l.drop k) L)) := by
              show barStep l L k = _
              have hgl : (L ++ [((k : Int), (0 : Int), newLevel (l.drop k) L)])[v]? = some ((k : Int), (0 : Int), newLevel (l.drop k) L) := by rw [← HM.out]; simp
              unfold barStep setLast
              rw [getD_of_get hv.out, if_pos (by rw [HM.out]), Int.toNat_natCast, getD_of_get hgl]
            have HOW := Lib.hid (HO.out.below HBE.out)
            have HBW := Lib.hid (HB.out.trans (HBE.out.mono HB.out.size))
            generalize newLevel (l.drop k) L = nl at x2 HST HBK
            have hv1 : v + 1 ≤ 1000 := by omega
            go_wp2_with (at_builtin; go_must (refine wpList_appB wr rfl (.tmp 43) (.tmp 45) rfl (b := ((k : Int), 0, nl)) _ rfl rfl HOW.out hv1 hsz ?_); intro A' c' w4 hown4 hgr4 hbl4; obtain ⟨g4, rfl, hg4, _⟩ := hown4.form (by omega); have y1 := hown4.cellAt (v * 3 + 1) (by omega); rw [(barCells_get _ v ((k : Int), 0, nl) (by rw [← HM.out]; simp)).2.1] at y1; have f1 := hown4.frozenAt (v * 3 + 1); have HO4 := Lib.hid hown4; have HB4 := Lib.hid hbl4; clear hown4 hgr4 hbl4)
            go_roundw
            case rel => exact ⟨k + 1, by omega, by go_num, _, c', by rw [HSU.out, HST.out, List.length_set, List.length_append, HM.out]; rfl, by rw [HSU.out, HST.out, List.length_set, List.length_append, HM.out, ← barCells_set _ v ((k : Int), 0, nl) (by rw [← HM.out]; simp)]; exact HO4.out.stored _ _, (HBW.out.trans HB4.out).setCell (p := ⟨g4, v * 3 + 1, none⟩) hg4 _⟩
            case measure => simp [intOf]; omega
      · have hvm : v < m := by omega
        obtain ⟨g, rfl, hbg, hgl⟩ := HO.out.form (by omega)
        obtain ⟨b, hb⟩ := getB HM.out hvm
        have hb3 := barCells_get L v b hb
        have c1 := HO.out.cellAt (v * 3 + 1) (by omega)
        rw [hb3.2.1] at c1
        have f1 := HO.out.frozenAt (v * 3 + 1)
        have g1 : ((v : Int) == (m : Int)) = false := by simp; omega
        have HST : Hid (barStep l L k = L.set v (b.1, (k : Int), b.2.2)) := by
          show barStep l L k = _
          unfold barStep setLast
          rw [getD_of_get hv.out, if_neg (by rw [HM.out]; omega), Int.toNat_natCast, getD_of_get hb]
        have HBB := Lib.hid hb
        clear hb hb3 hnew
        go_wp2
        go_roundw
        case rel => exact ⟨k + 1, by omega, by go_num, _, co, by rw [HSU.out, HST.out, List.length_set, HM.out], by rw [HSU.out, HST.out, List.length_set, HM.out, ← barCells_set L v b HBB.out]; exact HO.out.stored _ _, HB.out.setCell (p := ⟨g, v * 3 + 1, none⟩) hbg _⟩
        case measure => simp [intOf]; omega
    · obtain rfl : n = k := by omega
      go_wp2
      go_ret
      exact ⟨Ao, co, rfl, HO.out, HB.out⟩
end Go.Proofs.YtooepkpgffpcjaaDoor
