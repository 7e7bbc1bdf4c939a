/- Walks: in how many ways a partition comes: the program's chance. -/
import Derived.Test.YtgnfkgmppeohoaaChance
import Derived.Test.YtgnfkgmppeohoaaMoves
namespace Go.Proofs.Ytgnfkgmppeohoaa
open Go.RowKit

set_option maxHeartbeats 2000000 in
set_option maxRecDepth 100000 in
theorem chance_any (A : Option Addr) (n c : Nat) (p l : List Int) (w : World) (h : RdI w A n p) (hk : chk p = 0) (h6 : l.length = 6) (hK : Kinds l) :
    Calls Try.prog 84 #[.agg (ints l).toArray, .slice A n c] w (NumM (chanceP (sizesOf p) l) w) := by
  have hlen := h.len
  have hck := chk_ok hk
  have hb9 := blk_le9 hk
  have hsz6 := left_size h6
  obtain ⟨a, r, hp⟩ : ∃ a r, p = a :: r := by
    cases p with
    | nil => simp at hck
    | cons a r => exact ⟨a, r, rfl⟩
  have HMX : Hid (mx a r + 1 = blk p) := Lib.hid (by rw [hp]; exact (blk_mx a r (hp ▸ chk_small hk)).symm)
  obtain ⟨m, hm⟩ : ∃ m : Nat, blk p = m := ⟨(blk p).toNat, by omega⟩
  have hm1 : 1 ≤ m := by omega
  have hm9 : m ≤ 9 := by omega
  have hn9 : n ≤ 9 := by omega
  have HSO := Lib.hid (fun k hk' => sizes_ok (p := p) (m := m) (fun v hv => by have h1 := hck.2.2.1 v hv; have h2 := lt_blk hv; omega) k hk')
  have HPV : Hid (∀ v ∈ p, 0 ≤ v ∧ v < m) := Lib.hid (fun v hv => by have h1 := hck.2.2.1 v hv; have h2 := lt_blk hv; omega)
  have HM := Lib.hid hm
  have HL := Lib.hid hlen
  have hmx : mx a r = (m : Int) - 1 := by have := HMX.out; omega
  obtain ⟨i0, hi0, hz0, hz1, hz2⟩ := info_parts intInfo
  clear hb9 hck hk hm hlen
  go_enter Try.func84, Try.ntmps84
  go_upto_region 1 with fail
  have HR := Lib.hid (h.alloc (.cells (ints l).toArray 94))
  have HB := Lib.hid ((Below.refl _ w).alloc (Nat.le_refl _) (.cells (ints l).toArray 94))
  have HX := Lib.hid (Blk.new w 94 (ints l).toArray)
  have hWs : (w.alloc (.cells (ints l).toArray 94)).heap.size = w.heap.size + 1 := by simp
  clear h
  generalize w.alloc (.cells (ints l).toArray 94) = W at HR HB HX hWs ⊢
  have HPA := Lib.hid hp
  have hMax := max_any A n c a r W (hp ▸ HR.out)
  rw [hmx] at hMax
  go_upto_region 2 with (first | (go_at_call 96; refine hMax.mono ?_; rintro e w' ⟨rfl, rfl⟩) | (at_make; go_must (refine wpList_make_full W rfl (.tmp 11) (.tmp 11) 22 rfl (w.heap.size + 1) 3 i0 (.int .i64 0) 1 Try.underlying22 hi0 hz0 hz1 .i64 .i64 m m m rfl rfl rfl rfl (by rw [hz2]; omega) (by unfold maxLen; omega) (by omega) ?_); intro w3 hown hg3))
  have HO3 : Hid (OwnI w3 (w.heap.size + 1) 3 (some ⟨w.heap.size + 1, 0, none⟩) m m (sizesTo p m 0)) := by
    refine ⟨⟨?_, by omega⟩, fun v hv => ?_⟩
    · rw [hWs, show (madeCells (Value.int .i64 0).cells (m * 1)).toList = ints (sizesTo p m 0) from by rw [Nat.mul_one]; show (madeCells #[Value.int .i64 0] m).toList = _; rw [toList_madeCells_one]; simp [ints, sizesTo]] at hown
      exact hown
    · have := (HSO.out 0 (by omega)).pos v hv
      exact I64.small (by omega)
  have HBW3 := Lib.hid ((Below.refl _ W).grown hg3 (Nat.le_refl _) (by simp))
  have hbs := HBW3.out.size
  obtain ⟨bs, hbse⟩ : ∃ bs, w3.heap.size = bs := ⟨_, rfl⟩
  have HO4 := Lib.hid (HO3.out.alloc (.cells #[.slice (some ⟨w.heap.size + 1, 0, none⟩) m m] 22))
  have HX4 := Lib.hid (Blk.new w3 22 #[.slice (some ⟨w.heap.size + 1, 0, none⟩) m m])
  have HB4 := Lib.hid (HBW3.out.alloc hbs (.cells #[.slice (some ⟨w.heap.size + 1, 0, none⟩) m m] 22))
  have hlt3 : w.heap.size + 1 < w3.heap.size := by
    have := (HO3.out.1.block (k := w.heap.size + 1) rfl).2
    omega
  rw [hbse] at HX4 hlt3 ⊢
  clear hown hg3 hi0 hz0 hz1 hz2 HO3 HBW3 hbs hMax hp hmx
  generalize w3.alloc (.cells #[.slice (some ⟨w.heap.size + 1, 0, none⟩) m m] 22) = w4 at HO4 HX4 HB4 ⊢
  clear hbse
  go_wp2_with fail
  go_loopw [15] (fun i wr => ∃ k : Nat, k ≤ n ∧ i = .int .i64 k ∧ OwnI wr (w.heap.size + 1) 3 (some ⟨w.heap.size + 1, 0, none⟩) m m (sizesTo p m k) ∧ Blk wr bs 22 #[.slice (some ⟨w.heap.size + 1, 0, none⟩) m m] ∧ Below W.heap.size W wr) (fun i _ => n - (intOf i).toNat)
  case atStart => exact ⟨0, by omega, rfl, HO4.out, HX4.out, HB4.out⟩
  case round =>
    obtain ⟨k, hk, rfl, hown, hblk, hbel⟩ := hrel
    have HO := Lib.hid hown
    have HXS := Lib.hid hblk
    have HBW := Lib.hid hbel
    have HRR := Lib.hid (HR.out.below hbel)
    have hbc : wr.cell? ⟨bs, 0, none⟩ = some (.slice (some ⟨w.heap.size + 1, 0, none⟩) m m) := by rw [HXS.out.cell]; rfl
    clear hown hblk hbel HO4 HX4 HB4
    by_cases hlt : k < n
    · obtain ⟨ad, v, rfl, _, hv, _, hcv⟩ := HRR.out.at_ hlt
      have hv2 := HPV.out v (List.mem_of_getElem? hv.out)
      obtain ⟨v, rfl⟩ : ∃ v' : Nat, v = v' := ⟨v.toNat, by omega⟩
      have hvm : v < m := by omega
      have hso := HSO.out k (by rw [HL.out]; exact hk)
      obtain ⟨u, hu⟩ : ∃ u, (sizesTo p m k)[v]? = some u := ⟨_, get_getD (by rw [hso.len]; exact hvm)⟩
      have hu0 := hso.pos u (List.mem_of_getElem? hu)
      have hcu := HO.out.cellAt hu
      have hfu := HO.out.frozenAt v
      have HN : Hid (sizesTo p m (k + 1) = (sizesTo p m k).set v (u + 1)) := Lib.hid (by rw [sizesTo_succ hv.out]; unfold sizeStep; rw [Int.toNat_natCast, getD_of_get hu])
      have HU : Hid (I64 (u + 1)) := Lib.hid (I64.small (by omega))
      have hu9 : u ≤ 9 := by omega
      have hu1 : 0 ≤ u := by omega
      clear hso hu hu0
      go_wp2
      go_roundw
      case rel => exact ⟨k + 1, by omega, by go_num, by rw [HN.out]; exact HO.out.stored v HU.out, HXS.out.far (p := ⟨w.heap.size + 1, v, none⟩) (by simp; omega) _, HBW.out.setCell (p := ⟨w.heap.size + 1, v, none⟩) (by rw [hWs]; simp) _⟩
      case measure => simp [intOf]; omega
    · obtain rfl : k = n := by omega
      have HSE : Hid (sizesTo p m k = sizesOf p) := Lib.hid (by unfold sizesOf; rw [HM.out, Int.toNat_natCast, HL.out])
      rw [HSE.out] at HO
      have hso := HSO.out k (by rw [HL.out]; exact Nat.le_refl _)
      rw [HSE.out] at hso
      go_upto_region 8 with fail
      have hgy := HBW.out.size
      have HO5 := Lib.hid (HO.out.alloc (.cells #[.nilFunc] 134))
      have HXS5 := Lib.hid (HXS.out.alloc (.cells #[.nilFunc] 134))
      have HXY := Lib.hid (Blk.new wr 134 #[.nilFunc])
      have HB5 := Lib.hid (HBW.out.alloc hgy (.cells #[.nilFunc] 134))
      have hbslt := HXS.out.lt
      obtain ⟨gy, hgye⟩ : ∃ gy, wr.heap.size = gy := ⟨_, rfl⟩
      rw [hgye] at HXY hgy hbslt ⊢
      clear HO HXS HBW hbc HRR
      generalize wr.alloc (.cells #[.nilFunc] 134) = w5 at HO5 HXS5 HXY HB5 ⊢
      clear hgye
      have hyc : w5.cell? ⟨gy, 0, none⟩ = some .nilFunc := by rw [HXY.out.cell]; rfl
      have hyf := HXY.out.frozen 0
      have q : (store (⟨gy, 0, none⟩ : Addr) (.func (.func 119) #[] #[.pointer (some ⟨bs, 0, none⟩), .pointer (some ⟨gy, 0, none⟩)])).run Try.prog w5 = .ok () (w5.setCell ⟨gy, 0, none⟩ (.func (.func 119) #[] #[.pointer (some ⟨bs, 0, none⟩), .pointer (some ⟨gy, 0, none⟩)])) := by
        rw [run_store _ _ _ _ _ rfl, hyc]
        simp [hyf]
      have HYW := Lib.hid (HXY.out.set_ 0 (waysV bs gy))
      have HO6 := Lib.hid (HO5.out.far (p := ⟨gy, 0, none⟩) (by simp; omega) (waysV bs gy))
      have HXS6 := Lib.hid (HXS5.out.far (p := ⟨gy, 0, none⟩) (by simp; omega) (waysV bs gy))
      have HB6 := Lib.hid (HB5.out.setCell (p := ⟨gy, 0, none⟩) hgy (waysV bs gy))
      clear HO5 HXS5 HB5 HXY
      go_upto_region 9 with fail
      generalize hw6 : w5.setCell ⟨gy, 0, none⟩ (waysV bs gy) = w6 at HYW HO6 HXS6 HB6
      unfold waysV at hw6
      rw [hw6]
      clear hw6 q hyc hyf
      have hbc : w6.cell? ⟨bs, 0, none⟩ = some (.slice (some ⟨w.heap.size + 1, 0, none⟩) m m) := by rw [HXS6.out.cell]; rfl
      have hyc : w6.cell? ⟨gy, 0, none⟩ = some (waysV bs gy) := by rw [HYW.out.cell]; rfl
      have HX6 := Lib.hid (HX.out.below HB6.out)
      have HI := Lib.hid (waysRec_any (some ⟨w.heap.size + 1, 0, none⟩) m m bs gy (sizesOf p) (fun s hs => (hso.pos s hs).1) (by rw [hso.sum]; exact hn9) hm9 (sizesOf p) [] l w6 rfl h6 hK HO6.out.rd HXS6.out.lt HYW.out.lt hbc hyc)
      unfold waysV at hyc
      go_wp2_with (first | (refine wpList_load_row rfl _ (.tmp 2) rfl w.heap.size rfl _ _ _ _ HX6.out Try.underlying94 rfl hsz6 ?_) | (go_at_call 119; refine HI.out.mono ?_; rintro e wc ⟨rfl, hcl⟩))
      go_ret
      exact ⟨rfl, HB.out.trans ((HB6.out.trans (hcl.mono HB6.out.size)).mono HB.out.size)⟩
end Go.Proofs.Ytgnfkgmppeohoaa
