/- Walks: endings (the table of how many ways there are to end), rank, Rank. -/
import Derived.Test.YtooepkpgffpcjaaDoorMgB
import Derived.Deep.WholeRow
namespace Go.Proofs.YtooepkpgffpcjaaDoor
open Go.RowKit

def zeros110 : List Int := List.replicate 110 0
/-- the table behind some steps of its first row -/
def end0 (k : Nat) : List Int := (List.range k).foldl (fun e b => e.set b 1) zeros110
def endIn (rest : Nat) (e : List Int) (b : Nat) : List Int := e.set (rest * 11 + b) (b * e.getD ((rest - 1) * 11 + b) 0 + e.getD ((rest - 1) * 11 + (b + 1)) 0)
def endRow (rest : Nat) (e : List Int) (b : Nat) : List Int := (List.range b).foldl (endIn rest) e
def endTo (rest : Nat) : List Int := (List.range rest).foldl (fun e r => endRow (r + 1) e (11 - (r + 1))) (end0 11)
/-- the whole table -/
def endL : List Int := endTo 9
def okTab (e : List Int) : Bool := e.length == 110 && e.all fun v => decide (0 ≤ v) && decide (v ≤ 10000000000)
theorem okTab_all : (∀ k, k < 12 → okTab (end0 k) = true) ∧ ∀ r, r < 10 → ∀ b, b < 12 → okTab (endRow (r + 1) (endTo r) b) = true := by
  refine ⟨by decide +kernel, ?_⟩
  have h : ∀ r : Fin 10, ∀ b : Fin 12, okTab (endRow (r + 1) (endTo r) b) = true := by decide +kernel
  intro r hr b hb
  exact h ⟨r, hr⟩ ⟨b, hb⟩
theorem okTab_len {e : List Int} (h : okTab e = true) : e.length = 110 := by
  unfold okTab at h; simp only [Bool.and_eq_true, beq_iff_eq] at h; exact h.1
theorem okTab_bd {e : List Int} (h : okTab e = true) {j : Nat} {v : Int} (hv : e[j]? = some v) : 0 ≤ v ∧ v ≤ 10000000000 := by
  unfold okTab at h; simp only [Bool.and_eq_true, beq_iff_eq, List.all_eq_true, decide_eq_true_eq] at h
  exact h.2 v (List.mem_of_getElem? hv)
theorem endTo_succ (r : Nat) : endTo (r + 1) = endRow (r + 1) (endTo r) (11 - (r + 1)) := foldl_range_succ _ _ _

theorem endsSize : (Tryd.prog.info? 90).map (·.size) = some 110 := by kernel_rfl
theorem endsZero : Tryd.zeroCells90 = (ints zeros110).toArray := by kernel_rfl
theorem getE {α : Type} {l : List α} {n k : Nat} (h : l.length = n) (hk : k < n) : ∃ v, l[k]? = some v := ⟨l[k]'(by omega), List.getElem?_eq_getElem _⟩
theorem ints_arr_get {l : List Int} {j : Nat} {v : Int} (h : l[j]? = some v) : (ints l).toArray[j]? = some (.int .i64 v) := by
  simp only [List.getElem?_toArray]; rw [ints_get, h]; rfl
theorem ints_arr_set (l : List Int) (j : Nat) (z : Int) : (ints l).toArray.setIfInBounds j (.int .i64 z) = (ints (l.set j z)).toArray := by simp [ints, List.map_set]

theorem below_setRow {B g : Nat} {a w : World} (h : Below B a w) (hg : B ≤ g) (cs : Array Value) : Below B a (w.setRow g cs) :=
  h.trans ⟨rfl, rfl, rfl, by simp, fun k hk => setRow_other w g k cs (by omega)⟩
set_option maxHeartbeats 1000000 in
set_option maxRecDepth 100000 in
theorem endings_any (w : World) : Calls Tryd.prog 92 #[] w fun e w' => e = .returned (.agg (ints endL).toArray) ∧ Below w.heap.size w w' := by
  go_enter Tryd.func92, Tryd.ntmps92
  go_wp2_with fail
  go_loopw [5] (fun i wr => ∃ k : Nat, k ≤ 11 ∧ i = .int .i64 k ∧ Blk wr w.heap.size 90 Tryd.zeroCells90 ∧ Blk wr (w.heap.size + 1) 90 (ints (end0 k)).toArray ∧ Below w.heap.size w wr) (fun i _ => 11 - (intOf i).toNat)
  case atStart => exact ⟨0, by omega, rfl, (Blk.new _ _ _).alloc _, by have := Blk.new (w.alloc (.cells Tryd.zeroCells90 90)) 90 Tryd.zeroCells90; rw [endsZero] at this ⊢; simpa [end0] using this, (((Below.refl _ _).alloc (Nat.le_refl _) _).alloc (by simp) _)⟩
  case round =>
    obtain ⟨k, hk, rfl, hz, hblk, hbel⟩ := hrel
    have HZ := Lib.hid hz
    have HBK := Lib.hid hblk
    have HBE := Lib.hid hbel
    clear hz hblk hbel
    by_cases hlt : k < 11
    · obtain ⟨v, hv⟩ := getE (okTab_len (okTab_all.1 k (by omega))) (show k < 110 by omega)
      have hcell : wr.cell? ⟨w.heap.size + 1, k, none⟩ = some (.int .i64 v) := by rw [HBK.out.cell, ints_arr_get hv]
      have hfz := HBK.out.frozen k
      have HE : Hid (end0 (k + 1) = (end0 k).set k 1) := foldl_range_succ _ _ _
      clear hv
      go_wp2
      go_roundw
      case rel => exact ⟨k + 1, by omega, by go_num, HZ.out.far (p := ⟨w.heap.size + 1, k, none⟩) (by simp) _, by rw [HE.out, ← ints_arr_set]; exact HBK.out.set_ _ _, HBE.out.setCell (p := ⟨w.heap.size + 1, k, none⟩) (by simp) _⟩
      case measure => simp [intOf]; omega
    · obtain rfl : k = 11 := by omega
      go_wp2_with fail
      go_loopw [3] (fun i wr => ∃ r : Nat, r ≤ 9 ∧ i = .int .i64 ((r : Int) + 1) ∧ Blk wr w.heap.size 90 Tryd.zeroCells90 ∧ Blk wr (w.heap.size + 1) 90 (ints (endTo r)).toArray ∧ Below w.heap.size w wr) (fun i _ => 11 - (intOf i).toNat)
      case atStart => exact ⟨0, by omega, rfl, HZ.out, HBK.out, HBE.out⟩
      case round =>
        obtain ⟨r, hr, rfl, hz, hblk, hbel⟩ := hrel
        have HZ2 := Lib.hid hz
        have HBK2 := Lib.hid hblk
        have HBE2 := Lib.hid hbel
        clear hz hblk hbel HZ HBK HBE
        by_cases hr9 : r < 9
        · go_wp2_with fail
          go_loopw [4] (fun i wr => ∃ b : Nat, b ≤ 10 - r ∧ i = .int .i64 b ∧ Blk wr w.heap.size 90 Tryd.zeroCells90 ∧ Blk wr (w.heap.size + 1) 90 (ints (endRow (r + 1) (endTo r) b)).toArray ∧ Below w.heap.size w wr) (fun i _ => 11 - (intOf i).toNat)
          case atStart => exact ⟨0, by omega, rfl, HZ2.out, HBK2.out, HBE2.out⟩
          case round =>
            obtain ⟨b, hb, rfl, hz, hblk, hbel⟩ := hrel
            have HZ3 := Lib.hid hz
            have HBK3 := Lib.hid hblk
            have HBE3 := Lib.hid hbel
            clear hz hblk hbel HZ2 HBK2 HBE2
            by_cases hb9 : b < 10 - r
            · have hok := okTab_all.2 r (by omega) b (by omega)
              have hES : endRow (r + 1) (endTo r) (b + 1) = endIn (r + 1) (endRow (r + 1) (endTo r) b) b := foldl_range_succ _ _ _
              generalize endRow (r + 1) (endTo r) b = E at HBK3 hok hES
              obtain ⟨x, hx⟩ := getE (okTab_len hok) (show r * 11 + b < 110 by omega)
              obtain ⟨y, hy⟩ := getE (okTab_len hok) (show r * 11 + (b + 1) < 110 by omega)
              obtain ⟨z, hz⟩ := getE (okTab_len hok) (show (r + 1) * 11 + b < 110 by omega)
              have c1 : wr.cell? ⟨w.heap.size + 1, r * 11 + b, none⟩ = some (.int .i64 x) := by rw [HBK3.out.cell, ints_arr_get hx]
              have c2 : wr.cell? ⟨w.heap.size + 1, r * 11 + (b + 1), none⟩ = some (.int .i64 y) := by rw [HBK3.out.cell, ints_arr_get hy]
              have c3 : wr.cell? ⟨w.heap.size + 1, (r + 1) * 11 + b, none⟩ = some (.int .i64 z) := by rw [HBK3.out.cell, ints_arr_get hz]
              have f3 := HBK3.out.frozen ((r + 1) * 11 + b)
              have bx := okTab_bd hok hx
              have bY := okTab_bd hok hy
              have HE : Hid (endRow (r + 1) (endTo r) (b + 1) = E.set ((r + 1) * 11 + b) (b * x + y)) := by
                show endRow (r + 1) (endTo r) (b + 1) = _
                rw [hES]; unfold endIn
                rw [Nat.add_sub_cancel, getD_of_get hx, getD_of_get hy]
              have hm0 : 0 ≤ (b : Int) * x := Int.mul_nonneg (by omega) bx.1
              have hm1 : (b : Int) * x ≤ 100000000000 := by
                have h1 : (b : Int) * x ≤ 10 * x := Int.mul_le_mul_of_nonneg_right (by omega) bx.1
                omega
              have s0 : 0 ≤ (b : Int) * x + y := by omega
              have s1 : (b : Int) * x + y ≤ 200000000000 := by omega
              clear hx hy hz hES hok
              go_wp2_with fail
              go_region
              all_goals go_wp2
              go_roundw
              case rel => exact ⟨b + 1, by omega, by go_num, (HZ3.out.far (p := ⟨w.heap.size + 1, (r + 1) * 11 + b, none⟩) (by simp) _).drew, by rw [HE.out, ← ints_arr_set]; exact (HBK3.out.set_ _ _).drew, (HBE3.out.setCell (p := ⟨w.heap.size + 1, (r + 1) * 11 + b, none⟩) (by simp) _).drew⟩
              case measure => simp [intOf]; omega
            · obtain rfl : b = 10 - r := by omega
              have HE : Hid (endTo (r + 1) = endRow (r + 1) (endTo r) (10 - r)) := by
                show endTo (r + 1) = _
                rw [endTo_succ, show 11 - (r + 1) = 10 - r by omega]
              go_wp2
              go_roundw
              case rel => exact ⟨r + 1, by omega, by go_num, HZ3.out, by rw [HE.out]; exact HBK3.out, HBE3.out⟩
              case measure => simp [intOf]; omega
        · obtain rfl : r = 9 := by omega
          have HL9 : Hid (Blk wr (w.heap.size + 1) 90 (ints endL).toArray) := HBK2.out
          clear HBK2
          have hl110 : (ints endL).toArray.size = 110 := by simp only [List.size_toArray, ints_length]; decide +kernel
          have hsz : (Tryd.prog.info? 90).map (·.size) = some (ints endL).toArray.size := by rw [hl110]; exact endsSize
          have hold : Tryd.zeroCells90.size = (ints endL).toArray.size := by rw [hl110, endsZero]; rfl
          have hone : (ints endL).toArray.all (·.oneCell') = true := by simp only [List.all_toArray]; exact List.all_eq_true.2 (ints_oneCell' endL)
          go_wp2_with (first | (refine wpList_load_row rfl _ (.tmp 1) rfl (w.heap.size + 1) rfl _ _ _ _ HL9.out Tryd.underlying90 rfl hsz ?_) | (refine wpList_store_row rfl _ (.tmp 0) (.tmp 42) rfl w.heap.size (ints endL).toArray rfl rfl _ _ HZ2.out hsz hold hone ?_))
          exact bodyPost_ret (v := .agg (ints endL).toArray) (results_cell_row rfl _ _ w.heap.size 90 _ (0, 0) _ rfl (setRow_heap wr w.heap.size _ _ _ _ HZ2.out) Tryd.underlying90 rfl hsz) rfl ⟨rfl, below_setRow HBE2.out (Nat.le_refl _) _⟩

/-- the rank, behind the first k packets -/
def rankTo (l : List Int) (k : Nat) : Int := (List.range k).foldl (fun n i => n + l.getD i 0 * endL.getD ((l.length - i - 1) * 11 + (blk (l.take i)).toNat) 0) 0
def rnk (l : List Int) : Int := rankTo l l.length
theorem okEnd : okTab endL = true := by have h := okTab_all.2 8 (by omega) 2 (by omega); exact h
theorem endL_bd (j : Nat) : 0 ≤ endL.getD j 0 ∧ endL.getD j 0 ≤ 10000000000 := by
  rw [List.getD_eq_getElem?_getD]
  cases e : endL[j]? with
  | none => simp
  | some v => exact okTab_bd okEnd e
theorem rankTo_bd (l : List Int) (hl : ∀ v ∈ l, 0 ≤ v ∧ v < 9) (k : Nat) (hk : k ≤ l.length) : 0 ≤ rankTo l k ∧ rankTo l k ≤ k * 90000000000 := by
  induction k with
  | zero => simp [rankTo]
  | succ k ih =>
    have h1 := ih (by omega)
    obtain ⟨v, hv⟩ := getE (l := l) rfl (show k < l.length by omega)
    have h2 := hl v (List.mem_of_getElem? hv)
    have h3 := endL_bd ((l.length - k - 1) * 11 + (blk (l.take k)).toNat)
    have e : rankTo l (k + 1) = rankTo l k + v * endL.getD ((l.length - k - 1) * 11 + (blk (l.take k)).toNat) 0 := by
      unfold rankTo; rw [foldl_range_succ, getD_of_get hv]
    rw [e]
    generalize endL.getD ((l.length - k - 1) * 11 + (blk (l.take k)).toNat) 0 = x at h3
    have h4 : 0 ≤ v * x := Int.mul_nonneg h2.1 h3.1
    have h5 : v * x ≤ 9 * x := Int.mul_le_mul_of_nonneg_right (by omega) h3.1
    omega

set_option maxHeartbeats 1000000 in
set_option maxRecDepth 100000 in
theorem rank_any (A : Option Addr) (n c : Nat) (l : List Int) (w : World) (h : RdI w A n l) (hk : chk l = 0) :
    Calls Tryd.prog 95 #[.slice A n c] w fun e w' => e = .returned (.int .i64 (rnk l)) ∧ Below w.heap.size w w' := by
  have HL := Lib.hid h.len
  have HCK := Lib.hid hk
  have hn9 : n ≤ 9 := by have := (chk_ok hk).2.1; have := HL.out; omega
  clear hk
  have hl110 : (ints endL).toArray.size = 110 := by simp only [List.size_toArray, ints_length]; exact okTab_len okEnd
  have hsz : (Tryd.prog.info? 90).map (·.size) = some (ints endL).toArray.size := by rw [hl110]; exact endsSize
  have hold : Tryd.zeroCells90.size = (ints endL).toArray.size := by rw [hl110, endsZero]; rfl
  have hone : (ints endL).toArray.all (·.oneCell') = true := by simp only [List.all_toArray]; exact List.all_eq_true.2 (ints_oneCell' endL)
  have HE := Lib.hid (endings_any w)
  obtain ⟨E, hE⟩ : ∃ E, E = endL := ⟨_, rfl⟩
  rw [← hE] at HE hsz hold hone
  have HEE := Lib.hid hE
  clear hE hl110
  go_enter Tryd.func95, Tryd.ntmps95
  go_wp2_with fail
  refine HE.out.mono ?_
  rintro e w1 ⟨rfl, hb1⟩
  have HB1 := Lib.hid hb1
  clear hb1
  go_wp2_with (refine wpList_store_row rfl _ (.tmp 3) (.tmp 8) rfl w1.heap.size (ints E).toArray rfl rfl _ _ (heap_alloc_new w1 _) hsz hold hone ?_)
  rw [World.setRow_alloc_new]
  have HBK := Lib.hid (Blk.new w1 90 (ints E).toArray)
  have HBW := Lib.hid (HB1.out.trans ((Below.refl _ _).alloc HB1.out.size (.cells (ints E).toArray 90)))
  generalize w1.alloc (.cells (ints E).toArray 90) = W at HBK HBW ⊢
  generalize w1.heap.size = g at HBK ⊢
  clear hsz hold hone HE HB1
  go_loop [4, 5, 11] (fun nn b i => ∃ k : Nat, k ≤ n ∧ i = .int .i64 k ∧ nn = .int .i64 (rankTo l k) ∧ b = .int .i64 (blk (l.take k))) (fun _ _ i => n - (intOf i).toNat)
  case atStart => exact ⟨0, by omega, rfl, rfl, rfl⟩
  case round =>
    obtain ⟨k, hk, rfl, rfl, rfl⟩ := hrel
    by_cases hlt : k < n
    · obtain ⟨ad, v, rfl, _, hv, _, hcell⟩ := (h.below HBW.out).at_ hlt
      have hv9 := (chk_ok HCK.out).2.2.1 v (List.mem_of_getElem? hv.out)
      have hrb := rankTo_bd l (chk_ok HCK.out).2.2.1 k (by have := HL.out; omega)
      have hbk := foldl_max_lt (l.take k) 9 0 (fun v hv => ((chk_ok HCK.out).2.2.1 v (List.mem_of_mem_take hv)).2) (by omega)
      have hbk0 : 0 ≤ blk (l.take k) := le_foldl_max _ _
      have hbk9 : blk (l.take k) ≤ 9 := hbk
      have HBT := Lib.hid (blk_take hv.out)
      have HRT : Hid (rankTo l (k + 1) = rankTo l k + v * E.getD ((n - k - 1) * 11 + (blk (l.take k)).toNat) 0) := by
        show rankTo l (k + 1) = _
        unfold rankTo; rw [foldl_range_succ, getD_of_get hv.out, HL.out, HEE.out]
      generalize rankTo l k = rt at HRT hrb
      obtain ⟨bn, hbn⟩ : ∃ bn : Nat, blk (l.take k) = bn := ⟨(blk (l.take k)).toNat, by omega⟩
      rw [hbn] at HRT HBT hbk0 hbk9 ⊢
      rw [Int.toNat_natCast] at HRT
      clear hbn hbk
      obtain ⟨x, hx⟩ := getE (l := E) (by rw [HEE.out]; exact okTab_len okEnd) (show (n - k - 1) * 11 + bn < 110 by omega)
      have hce : W.cell? ⟨g, (n - k - 1) * 11 + bn, none⟩ = some (.int .i64 x) := by rw [HBK.out.cell, ints_arr_get hx]
      have hxb : 0 ≤ x ∧ x ≤ 10000000000 := okTab_bd (by rw [HEE.out]; exact okEnd) hx
      rw [getD_of_get hx] at HRT
      have h4 : 0 ≤ v * x := Int.mul_nonneg hv9.1 hxb.1
      have h5 : v * x ≤ 9 * x := Int.mul_le_mul_of_nonneg_right (by omega) hxb.1
      have h6 : v * x ≤ 90000000000 := by omega
      have h7 : 0 ≤ rt + v * x := by omega
      have h8 : rt + v * x ≤ 10000000000000 := by omega
      have hi0 : 0 ≤ (n : Int) - (k : Int) - 1 := by omega
      have hi1 : ((n : Int) - (k : Int) - 1).toNat = n - k - 1 := by omega
      have hi2 : (n : Int) - (k : Int) - 1 < 10 := by omega
      clear hx h5
      go_wp2
      go_round
      case rel => exact ⟨k + 1, by omega, by go_num, by rw [HRT.out], by rw [HBT.out, int_max]⟩
      case measure => simp [intOf]; omega
    · obtain rfl : n = k := by omega
      have HR : Hid (rankTo l n = rnk l) := by show rankTo l n = _; unfold rnk; rw [HL.out]
      go_wp2
      go_ret
      exact ⟨ret_int HR.out, HBW.out⟩
end Go.Proofs.YtooepkpgffpcjaaDoor
