/- Walks: endings (the table of how many ways there are to end), rank, Rank. Plain law: how many partitions there are, and how many of them have so many blocks: the program's tables are the reference's sums. Walks: Count and Parted, of the program and of the reference. Walk: the program's Parted. -/
import Derived.Test.YtooepkpgffpcjaaDoorMgB
import Derived.Deep.WholeRow
namespace Go.Proofs.YtooepkpgffpcjaaDoor
open Go.RowKit

def zeros110 : List Int := List.replicate 110 0
/-- the table behind some steps of its first row -/
def end0 (k : Nat) : List Int := (List.range k).foldl (fun e b => e.set b 1) zeros110
def endIn (rest : Nat) (e : List Int) (b : Nat) : List Int := e.set (rest * 11 + b) (b * e.getD ((rest - 1) * 11 + b) 0 + e.getD ((rest - 1) * 11 + (b + 1)) 0)
def endRow (rest : Nat) (e : List Int) (b : Nat) : List Int := (List.range b).foldl (endIn rest) e
def endTo (rest : Nat) : List Int := (List.range rest).foldl (fun e r => endRow (r + 1) e (11 - (r + 1))) (end0 11)
/-- the whole table -/
def endL : List Int := endTo 9
def okTab (e : List Int) : Bool := e.length == 110 && e.all fun v => decide (0 ≤ v) && decide (v ≤ 10000000000)
theorem okTab_all : (∀ k, k < 12 → okTab (end0 k) = true) ∧ ∀ r, r < 10 → ∀ b, b < 12 → okTab (endRow (r + 1) (endTo r) b) = true := by
  refine ⟨by decide +kernel, ?_⟩
  have h : ∀ r : Fin 10, ∀ b : Fin 12, okTab (endRow (r + 1) (endTo r) b) = true := by decide +kernel
  intro r hr b hb
  exact h ⟨r, hr⟩ ⟨b, hb⟩
theorem okTab_len {e : List Int} (h : okTab e = true) : e.length = 110 := by
  unfold okTab at h; simp only [Bool.and_eq_true, beq_iff_eq] at h; exact h.1
theorem okTab_bd {e : List Int} (h : okTab e = true) {j : Nat} {v : Int} (hv : e[j]? = some v) : 0 ≤ v ∧ v ≤ 10000000000 := by
  unfold okTab at h; simp only [Bool.and_eq_true, beq_iff_eq, List.all_eq_true, decide_eq_true_eq] at h
  exact h.2 v (List.mem_of_getElem? hv)
theorem endTo_succ (r : Nat) : endTo (r + 1) = endRow (r + 1) (endTo r) (11 - (r + 1)) := foldl_range_succ _ _ _

theorem endsSize : (Tryd.prog.info? 90).map (·.size) = some 110 := by kernel_rfl
theorem endsZero : Tryd.zeroCells90 = (ints zeros110).toArray := by kernel_rfl
theorem getE {α : Type} {l : List α} {n k : Nat} (h : l.length = n) (hk : k < n) : ∃ v, l[k]? = some v := ⟨l[k]'(by omega), List.getElem?_eq_getElem _⟩
theorem ints_arr_get {l : List Int} {j : Nat} {v : Int} (h : l[j]? = some v) : (ints l).toArray[j]? = some (.int .i64 v) := by
  simp only [List.getElem?_toArray]; rw [ints_get, h]; rfl
theorem ints_arr_set (l : List Int) (j : Nat) (z : Int) : (ints l).toArray.setIfInBounds j (.int .i64 z) = (ints (l.set j z)).toArray := by simp [ints, List.map_set]

theorem below_setRow {B g : Nat} {a w : World} (h : Below B a w) (hg : B ≤ g) (cs : Array Value) : Below B a (w.setRow g cs) :=
  h.trans ⟨rfl, rfl, rfl, by simp, fun k hk => setRow_other w g k cs (by omega)⟩
set_option maxHeartbeats 1000000 in
set_option maxRecDepth 100000 in
theorem endings_any (w : World) : Calls Tryd.prog 92 #[] w fun e w' => e = .returned (.agg (ints endL).toArray) ∧ Below w.heap.size w w' := by
  go_enter Tryd.func92, Tryd.ntmps92
  go_wp2_with fail
  go_loopw [5] (fun i wr => ∃ k : Nat, k ≤ 11 ∧ i = .int .i64 k ∧ Blk wr w.heap.size 90 Tryd.zeroCells90 ∧ Blk wr (w.heap.size + 1) 90 (ints (end0 k)).toArray ∧ Below w.heap.size w wr) (fun i _ => 11 - (intOf i).toNat)
  case atStart => exact ⟨0, by omega, rfl, (Blk.new _ _ _).alloc _, by have := Blk.new (w.alloc (.cells Tryd.zeroCells90 90)) 90 Tryd.zeroCells90; rw [endsZero] at this ⊢; simpa [end0] using this, (((Below.refl _ _).alloc (Nat.le_refl _) _).alloc (by simp) _)⟩
  case round =>
    obtain ⟨k, hk, rfl, hz, hblk, hbel⟩ := hrel
    have HZ := Lib.hid hz
    have HBK := Lib.hid hblk
    have HBE := Lib.hid hbel
    clear hz hblk hbel
    by_cases hlt : k < 11
    · obtain ⟨v, hv⟩ := getE (okTab_len (okTab_all.1 k (by omega))) (show k < 110 by omega)
      have hcell : wr.cell? ⟨w.heap.size + 1, k, none⟩ = some (.int .i64 v) := by rw [HBK.out.cell, ints_arr_get hv]
      have hfz := HBK.out.frozen k
      have HE : Hid (end0 (k + 1) = (end0 k).set k 1) := foldl_range_succ _ _ _
      clear hv
      go_wp2
      go_roundw
      case rel => exact ⟨k + 1, by omega, by go_num, HZ.out.far (p := ⟨w.heap.size + 1, k, none⟩) (by simp) _, by rw [HE.out, ← ints_arr_set]; exact HBK.out.set_ _ _, HBE.out.setCell (p := ⟨w.heap.size + 1, k, none⟩) (by simp) _⟩
      case measure => simp [intOf]; omega
    · obtain rfl : k = 11 := by omega
      go_wp2_with fail
      go_loopw [3] (fun i wr => ∃ r : Nat, r ≤ 9 ∧ i = .int .i64 ((r : Int) + 1) ∧ Blk wr w.heap.size 90 Tryd.zeroCells90 ∧ Blk wr (w.heap.size + 1) 90 (ints (endTo r)).toArray ∧ Below w.heap.size w wr) (fun i _ => 11 - (intOf i).toNat)
      case atStart => exact ⟨0, by omega, rfl, HZ.out, HBK.out, HBE.out⟩
      case round =>
        obtain ⟨r, hr, rfl, hz, hblk, hbel⟩ := hrel
        have HZ2 := Lib.hid hz
        have HBK2 := Lib.hid hblk
        have HBE2 := Lib.hid hbel
        clear hz hblk hbel HZ HBK HBE
        by_cases hr9 : r < 9
        · go_wp2_with fail
          go_loopw [4] (fun i wr => ∃ b : Nat, b ≤ 10 - r ∧ i = .int .i64 b ∧ Blk wr w.heap.size 90 Tryd.zeroCells90 ∧ Blk wr (w.heap.size + 1) 90 (ints (endRow (r + 1) (endTo r) b)).toArray ∧ Below w.heap.size w wr) (fun i _ => 11 - (intOf i).toNat)
          case atStart => exact ⟨0, by omega, rfl, HZ2.out, HBK2.out, HBE2.out⟩
          case round =>
            obtain ⟨b, hb, rfl, hz, hblk, hbel⟩ := hrel
            have HZ3 := Lib.hid hz
            have HBK3 := Lib.hid hblk
            have HBE3 := Lib.hid hbel
            clear hz hblk hbel HZ2 HBK2 HBE2
            by_cases hb9 : b < 10 - r
            · have hok := okTab_all.2 r (by omega) b (by omega)
              have hES : endRow (r + 1) (endTo r) (b + 1) = endIn (r + 1) (endRow (r + 1) (endTo r) b) b := foldl_range_succ _ _ _
              generalize endRow (r + 1) (endTo r) b = E at HBK3 hok hES
              obtain ⟨x, hx⟩ := getE (okTab_len hok) (show r * 11 + b < 110 by omega)
              obtain ⟨y, hy⟩ := getE (okTab_len hok) (show r * 11 + (b + 1) < 110 by omega)
              obtain ⟨z, hz⟩ := getE (okTab_len hok) (show (r + 1) * 11 + b < 110 by omega)
              have c1 : wr.cell? ⟨w.heap.size + 1, r * 11 + b, none⟩ = some (.int .i64 x) := by rw [HBK3.out.cell, ints_arr_get hx]
              have c2 : wr.cell? ⟨w.heap.size + 1, r * 11 + (b + 1), none⟩ = some (.int .i64 y) := by rw [HBK3.out.cell, ints_arr_get hy]
              have c3 : wr.cell? ⟨w.heap.size + 1, (r + 1) * 11 + b, none⟩ = some (.int .i64 z) := by rw [HBK3.out.cell, ints_arr_get hz]
              have f3 := HBK3.out.frozen ((r + 1) * 11 + b)
              have bx := okTab_bd hok hx
              have bY := okTab_bd hok hy
              have HE : Hid (endRow (r + 1) (endTo r) (b + 1) = E.set ((r + 1) * 11 + b) (b * x + y)) := by
                show endRow (r + 1) (endTo r) (b + 1) = _
                rw [hES]; unfold endIn
                rw [Nat.add_sub_cancel, getD_of_get hx, getD_of_get hy]
              have hm0 : 0 ≤ (b : Int) * x := Int.mul_nonneg (by omega) bx.1
              have hm1 : (b : Int) * x ≤ 100000000000 := by
                have h1 : (b : Int) * x ≤ 10 * x := Int.mul_le_mul_of_nonneg_right (by omega) bx.1
                omega
              have s0 : 0 ≤ (b : Int) * x + y := by omega
              have s1 : (b : Int) * x + y ≤ 200000000000 := by omega
              clear hx hy hz hES hok
              go_wp2_with fail
              go_region
              all_goals go_wp2
              go_roundw
              case rel => exact ⟨b + 1, by omega, by go_num, (HZ3.out.far (p := ⟨w.heap.size + 1, (r + 1) * 11 + b, none⟩) (by simp) _).drew, by rw [HE.out, ← ints_arr_set]; exact (HBK3.out.set_ _ _).drew, (HBE3.out.setCell (p := ⟨w.heap.size + 1, (r + 1) * 11 + b, none⟩) (by simp) _).drew⟩
              case measure => simp [intOf]; omega
            · obtain rfl : b = 10 - r := by omega
              have HE : Hid (endTo (r + 1) = endRow (r + 1) (endTo r) (10 - r)) := by
                show endTo (r + 1) = _
                rw [endTo_succ, show 11 - (r + 1) = 10 - r by omega]
              go_wp2
              go_roundw
              case rel => exact ⟨r + 1, by omega, by go_num, HZ3.out, by rw [HE.out]; exact HBK3.out, HBE3.out⟩
              case measure => simp [intOf]; omega
        · obtain rfl : r = 9 := by omega
          have HL9 : Hid (Blk wr (w.heap.size + 1) 90 (ints endL).toArray) := HBK2.out
          clear HBK2
          have hl110 : (ints endL).toArray.size = 110 := by simp only [List.size_toArray, ints_length]; decide +kernel
          have hsz : (Tryd.prog.info? 90).map (·.size) = some (ints endL).toArray.size := by rw [hl110]; exact endsSize
          have hold : Tryd.zeroCells90.size = (ints endL).toArray.size := by rw [hl110, endsZero]; rfl
          have hone : (ints endL).toArray.all (·.oneCell') = true := by simp only [List.all_toArray]; exact List.all_eq_true.2 (ints_oneCell' endL)
          go_wp2_with (first | (refine wpList_load_row rfl _ (.tmp 1) rfl (w.heap.size + 1) rfl _ _ _ _ HL9.out Tryd.underlying90 rfl hsz ?_) | (refine wpList_store_row rfl _ (.tmp 0) (.tmp 42) rfl w.heap.size (ints endL).toArray rfl rfl _ _ HZ2.out hsz hold hone ?_))
          exact bodyPost_ret (v := .agg (ints endL).toArray) (results_cell_row rfl _ _ w.heap.size 90 _ (0, 0) _ rfl (setRow_heap wr w.heap.size _ _ _ _ HZ2.out) Tryd.underlying90 rfl hsz) rfl ⟨rfl, below_setRow HBE2.out (Nat.le_refl _) _⟩

/-- the rank, behind the first k packets -/
def rankTo (l : List Int) (k : Nat) : Int := (List.range k).foldl (fun n i => n + l.getD i 0 * endL.getD ((l.length - i - 1) * 11 + (blk (l.take i)).toNat) 0) 0
def rnk (l : List Int) : Int := rankTo l l.length
theorem okEnd : okTab endL = true := by have h := okTab_all.2 8 (by omega) 2 (by omega); exact h
theorem endL_bd (j : Nat) : 0 ≤ endL.getD j 0 ∧ endL.getD j 0 ≤ 10000000000 := by
  rw [List.getD_eq_getElem?_getD]
  cases e : endL[j]? with
  | none => simp
  | some v => exact okTab_bd okEnd e
theorem rankTo_bd (l : List Int) (hl : ∀ v ∈ l, 0 ≤ v ∧ v < 9) (k : Nat) (hk : k ≤ l.length) : 0 ≤ rankTo l k ∧ rankTo l k ≤ k * 90000000000 := by
  induction k with
  | zero => simp [rankTo]
  | succ k ih =>
    have h1 := ih (by omega)
    obtain ⟨v, hv⟩ := getE (l := l) rfl (show k < l.length by omega)
    have h2 := hl v (List.mem_of_getElem? hv)
    have h3 := endL_bd ((l.length - k - 1) * 11 + (blk (l.take k)).toNat)
    have e : rankTo l (k + 1) = rankTo l k + v * endL.getD ((l.length - k - 1) * 11 + (blk (l.take k)).toNat) 0 := by
      unfold rankTo; rw [foldl_range_succ, getD_of_get hv]
    rw [e]
    generalize endL.getD ((l.length - k - 1) * 11 + (blk (l.take k)).toNat) 0 = x at h3
    have h4 : 0 ≤ v * x := Int.mul_nonneg h2.1 h3.1
    have h5 : v * x ≤ 9 * x := Int.mul_le_mul_of_nonneg_right (by omega) h3.1
    omega

set_option maxHeartbeats 1000000 in
set_option maxRecDepth 100000 in
theorem rank_any (A : Option Addr) (n c : Nat) (l : List Int) (w : World) (h : RdI w A n l) (hk : chk l = 0) :
    Calls Tryd.prog 95 #[.slice A n c] w fun e w' => e = .returned (.int .i64 (rnk l)) ∧ Below w.heap.size w w' := by
  have HL := Lib.hid h.len
  have HCK := Lib.hid hk
  have hn9 : n ≤ 9 := by have := (chk_ok hk).2.1; have := HL.out; omega
  clear hk
  have hl110 : (ints endL).toArray.size = 110 := by simp only [List.size_toArray, ints_length]; exact okTab_len okEnd
  have hsz : (Tryd.prog.info? 90).map (·.size) = some (ints endL).toArray.size := by rw [hl110]; exact endsSize
  have hold : Tryd.zeroCells90.size = (ints endL).toArray.size := by rw [hl110, endsZero]; rfl
  have hone : (ints endL).toArray.all (·.oneCell') = true := by simp only [List.all_toArray]; exact List.all_eq_true.2 (ints_oneCell' endL)
  have HE := Lib.hid (endings_any w)
  obtain ⟨E, hE⟩ : ∃ E, E = endL := ⟨_, rfl⟩
  rw [← hE] at HE hsz hold hone
  have HEE := Lib.hid hE
  clear hE hl110
  go_enter Tryd.func95, Tryd.ntmps95
  go_wp2_with fail
  refine HE.out.mono ?_
  rintro e w1 ⟨rfl, hb1⟩
  have HB1 := Lib.hid hb1
  clear hb1
  go_wp2_with (refine wpList_store_row rfl _ (.tmp 3) (.tmp 8) rfl w1.heap.size (ints E).toArray rfl rfl _ _ (heap_alloc_new w1 _) hsz hold hone ?_)
  rw [World.setRow_alloc_new]
  have HBK := Lib.hid (Blk.new w1 90 (ints E).toArray)
  have HBW := Lib.hid (HB1.out.trans ((Below.refl _ _).alloc HB1.out.size (.cells (ints E).toArray 90)))
  generalize w1.alloc (.cells (ints E).toArray 90) = W at HBK HBW ⊢
  generalize w1.heap.size = g at HBK ⊢
  clear hsz hold hone HE HB1
  go_loop [4, 5, 11] (fun nn b i => ∃ k : Nat, k ≤ n ∧ i = .int .i64 k ∧ nn = .int .i64 (rankTo l k) ∧ b = .int .i64 (blk (l.take k))) (fun _ _ i => n - (intOf i).toNat)
  case atStart => exact ⟨0, by omega, rfl, rfl, rfl⟩
  case round =>
    obtain ⟨k, hk, rfl, rfl, rfl⟩ := hrel
    by_cases hlt : k < n
    · obtain ⟨ad, v, rfl, _, hv, _, hcell⟩ := (h.below HBW.out).at_ hlt
      have hv9 := (chk_ok HCK.out).2.2.1 v (List.mem_of_getElem? hv.out)
      have hrb := rankTo_bd l (chk_ok HCK.out).2.2.1 k (by have := HL.out; omega)
      have hbk := foldl_max_lt (l.take k) 9 0 (fun v hv => ((chk_ok HCK.out).2.2.1 v (List.mem_of_mem_take hv)).2) (by omega)
      have hbk0 : 0 ≤ blk (l.take k) := le_foldl_max _ _
      have hbk9 : blk (l.take k) ≤ 9 := hbk
      have HBT := Lib.hid (blk_take hv.out)
      have HRT : Hid (rankTo l (k + 1) = rankTo l k + v * E.getD ((n - k - 1) * 11 + (blk (l.take k)).toNat) 0) := by
        show rankTo l (k + 1) = _
        unfold rankTo; rw [foldl_range_succ, getD_of_get hv.out, HL.out, HEE.out]
      generalize rankTo l k = rt at HRT hrb
      obtain ⟨bn, hbn⟩ : ∃ bn : Nat, blk (l.take k) = bn := ⟨(blk (l.take k)).toNat, by omega⟩
      rw [hbn] at HRT HBT hbk0 hbk9 ⊢
      rw [Int.toNat_natCast] at HRT
      clear hbn hbk
      obtain ⟨x, hx⟩ := getE (l := E) (by rw [HEE.out]; exact okTab_len okEnd) (show (n - k - 1) * 11 + bn < 110 by omega)
      have hce : W.cell? ⟨g, (n - k - 1) * 11 + bn, none⟩ = some (.int .i64 x) := by rw [HBK.out.cell, ints_arr_get hx]
      have hxb : 0 ≤ x ∧ x ≤ 10000000000 := okTab_bd (by rw [HEE.out]; exact okEnd) hx
      rw [getD_of_get hx] at HRT
      have h4 : 0 ≤ v * x := Int.mul_nonneg hv9.1 hxb.1
      have h5 : v * x ≤ 9 * x := Int.mul_le_mul_of_nonneg_right (by omega) hxb.1
      have h6 : v * x ≤ 90000000000 := by omega
      have h7 : 0 ≤ rt + v * x := by omega
      have h8 : rt + v * x ≤ 10000000000000 := by omega
      have hi0 : 0 ≤ (n : Int) - (k : Int) - 1 := by omega
      have hi1 : ((n : Int) - (k : Int) - 1).toNat = n - k - 1 := by omega
      have hi2 : (n : Int) - (k : Int) - 1 < 10 := by omega
      clear hx h5
      go_wp2
      go_round
      case rel => exact ⟨k + 1, by omega, by go_num, by rw [HRT.out], by rw [HBT.out, int_max]⟩
      case measure => simp [intOf]; omega
    · obtain rfl : n = k := by omega
      have HR : Hid (rankTo l n = rnk l) := by show rankTo l n = _; unfold rnk; rw [HL.out]
      go_wp2
      go_ret
      exact ⟨ret_int HR.out, HBW.out⟩
end Go.Proofs.YtooepkpgffpcjaaDoor

namespace Go.Proofs.YtooepkpgffpcjaaDoor
open Go.RowKit

/-- the reference's parted -/
def partedR : Nat → Int → Int
  | 0, _ => 0
  | n + 1, b => if b < 1 ∨ (n : Int) + 1 < b then 0 else if n = 0 then 1 else partedR n (b - 1) + b * partedR n b
/-- the reference's count, behind k rounds -/
def countTo (n k : Nat) : Int := (List.range k).foldl (fun (s : Int) (i : Nat) => s + partedR n ((i : Int) + 1)) 0
def countR (n : Nat) : Int := countTo n n

def zeros10 : List Int := List.replicate 10 0
/-- one round of the program's inner loop, at b = 9 - j -/
def partIn (P : List Int) (j : Nat) : List Int := P.set (9 - j) (((9 - j : Nat) : Int) * P.getD (9 - j) 0 + P.getD (8 - j) 0)
def partRow (P : List Int) (j : Nat) : List Int := (List.range j).foldl partIn P
def partTo : Nat → List Int
  | 0 => zeros10.set 0 1
  | n + 1 => (partRow (partTo n) 9).set 0 0
def okParts (e : List Int) : Bool := e.length == 10 && e.all fun v => decide (0 ≤ v) && decide (v ≤ 10000000000)
theorem okParts_all : ∀ r, r < 10 → ∀ j, j < 10 → okParts (partRow (partTo r) j) = true := by
  have h : ∀ r : Fin 10, ∀ j : Fin 10, okParts (partRow (partTo r) j) = true := by decide +kernel
  intro r hr j hj
  exact h ⟨r, hr⟩ ⟨j, hj⟩
theorem okParts_len {e : List Int} (h : okParts e = true) : e.length = 10 := by
  unfold okParts at h; simp only [Bool.and_eq_true, beq_iff_eq] at h; exact h.1
theorem okParts_bd {e : List Int} (h : okParts e = true) {j : Nat} {v : Int} (hv : e[j]? = some v) : 0 ≤ v ∧ v ≤ 10000000000 := by
  unfold okParts at h; simp only [Bool.and_eq_true, beq_iff_eq, List.all_eq_true, decide_eq_true_eq] at h
  exact h.2 v (List.mem_of_getElem? hv)
theorem parts_eq : ∀ n, n < 10 → ∀ k, k < 10 → 1 ≤ n → 1 ≤ k → (partTo n).getD k 0 = partedR n k := by
  have h : ∀ n : Fin 10, ∀ k : Fin 10, 1 ≤ n.1 → 1 ≤ k.1 → (partTo n).getD k 0 = partedR n (k.1 : Int) := by decide +kernel
  intro n hn k hk
  exact h ⟨n, hn⟩ ⟨k, hk⟩
theorem count_eq : ∀ n, n < 10 → 1 ≤ n → endL.getD (n * 11) 0 = countR n := by
  have h : ∀ n : Fin 10, 1 ≤ n.1 → endL.getD (n.1 * 11) 0 = countR n.1 := by decide +kernel
  intro n hn
  exact h ⟨n, hn⟩
theorem parted_bd : ∀ n, n < 10 → ∀ k : Int, 0 ≤ partedR n k ∧ partedR n k ≤ 100000 := by
  have h : ∀ n : Fin 10, ∀ k : Fin 12, 0 ≤ partedR n.1 (k.1 : Int) ∧ partedR n.1 (k.1 : Int) ≤ 100000 := by decide +kernel
  intro n hn k
  by_cases hk : 0 ≤ k ∧ k < 12
  · have := h ⟨n, hn⟩ ⟨k.toNat, by omega⟩
    simp only at this
    rw [show ((k.toNat : Nat) : Int) = k by omega] at this
    exact this
  · cases n with
    | zero => simp [partedR]
    | succ n => unfold partedR; rw [if_pos (by omega)]; omega
theorem countTo_succ (n k : Nat) : countTo n (k + 1) = countTo n k + partedR n ((k : Int) + 1) := foldl_range_succ _ _ _
theorem countTo_bd {n : Nat} (hn : n < 10) (k : Nat) : 0 ≤ countTo n k ∧ countTo n k ≤ k * 100000 := by
  induction k with
  | zero => simp [countTo]
  | succ k ih =>
    have := parted_bd n hn ((k : Int) + 1)
    rw [countTo_succ]; omega

/-- Count's answer -/
def countE (n : Int) : Int × Int := if n < 1 ∨ 9 < n then (0, 2) else (countR n.toNat, 0)
/-- Parted's answer -/
def partedE (n k : Int) : Int × Int := if n < 1 ∨ 9 < n ∨ k < 1 ∨ n < k then (0, 2) else (partedR n.toNat k, 0)
end Go.Proofs.YtooepkpgffpcjaaDoor

namespace Go.Proofs.YtooepkpgffpcjaaDoor
open Go.RowKit

theorem within_any (n lo hi : Int) (w : World) : Calls Tryd.prog 91 #[.int .i64 n, .int .i64 lo, .int .i64 hi] w fun e w' => e = .returned (.bool (decide (lo ≤ n) && decide (n ≤ hi))) ∧ w = w' := by
  by_cases h1 : lo ≤ n
  · go_enter Tryd.func91, Tryd.ntmps91
    go_wp2
    go_ret
    exact ⟨ret_bool (by simp [h1]), rfl⟩
  · go_enter Tryd.func91, Tryd.ntmps91
    go_wp2
    go_ret
    exact ⟨ret_bool (by rw [decide_eq_false (show ¬ lo ≤ n by omega)]; rfl), rfl⟩

set_option maxHeartbeats 400000 in
theorem parted_any (n : Nat) : ∀ (b : Int) (w : World), n ≤ 9 → -100 ≤ b → b ≤ 100 → Calls Tryd.prog 94 #[.int .i64 n, .int .i64 b] w fun e w' => e = .returned (.int .i64 (partedR n b)) ∧ w = w' := by
  induction n with
  | zero =>
    intro b w _ h1 h2
    by_cases hb : b < 1
    · go_enter Tryd.func94, Tryd.ntmps94
      go_wp2
      go_ret
      exact ⟨rfl, rfl⟩
    · go_enter Tryd.func94, Tryd.ntmps94
      go_wp2
      go_ret
      exact ⟨rfl, rfl⟩
  | succ n ih =>
    intro b w hn h1 h2
    have IH := Lib.hid ih
    clear ih
    by_cases hb : b < 1
    · have HV : Hid (partedR (n + 1) b = 0) := by show partedR (n + 1) b = 0; unfold partedR; rw [if_pos (.inl hb)]
      go_enter Tryd.func94, Tryd.ntmps94
      go_wp2
      go_ret
      exact ⟨ret_int HV.out.symm, rfl⟩
    by_cases hb2 : (n : Int) + 1 < b
    · have HV : Hid (partedR (n + 1) b = 0) := by show partedR (n + 1) b = 0; unfold partedR; rw [if_pos (.inr hb2)]
      have g : ((n + 1 : Nat) : Int) < b := by omega
      go_enter Tryd.func94, Tryd.ntmps94
      go_wp2
      go_ret
      exact ⟨ret_int HV.out.symm, rfl⟩
    by_cases h0 : n = 0
    · subst h0
      have HV : Hid (partedR (0 + 1) b = 1) := by show partedR (0 + 1) b = 1; unfold partedR; rw [if_neg (by omega), if_pos rfl]
      have g : ¬ ((0 + 1 : Nat) : Int) < b := by omega
      go_enter Tryd.func94, Tryd.ntmps94
      go_wp2
      go_ret
      exact ⟨ret_int HV.out.symm, rfl⟩
    · have HV : Hid (partedR (n + 1) b = partedR n (b - 1) + b * partedR n b) := by
        show partedR (n + 1) b = _
        rw [partedR, if_neg (by omega), if_neg h0]
      have p1 := parted_bd n (by omega) (b - 1)
      have p2 := parted_bd n (by omega) b
      have hm0 : 0 ≤ b * partedR n b := Int.mul_nonneg (by omega) p2.1
      have hm1 : b * partedR n b ≤ 100 * partedR n b := Int.mul_le_mul_of_nonneg_right h2 p2.1
      have hm2 : b * partedR n b ≤ 100000000 := by omega
      have g : ¬ ((n + 1 : Nat) : Int) < b := by omega
      have g1 : (((n + 1 : Nat) : Int) == 1) = false := by simp; omega
      have g2 : ((n + 1 : Nat) : Int) - 1 = n := by omega
      have hb1 : -100 ≤ b - 1 := by omega
      clear hm1
      go_enter Tryd.func94, Tryd.ntmps94
      go_wp2_with fail
      refine (IH.out (b - 1) w (by omega) (by omega) (by omega)).mono ?_; rintro e w' ⟨rfl, rfl⟩
      go_wp2_with fail
      refine (IH.out b w (by omega) (by omega) (by omega)).mono ?_; rintro e w' ⟨rfl, rfl⟩
      go_wp2
      go_ret
      exact ⟨ret_int HV.out.symm, rfl⟩

set_option maxHeartbeats 400000 in
theorem refcount_any (n : Nat) (hn : n ≤ 9) (w : World) : Calls Tryd.prog 93 #[.int .i64 n] w fun e w' => e = .returned (.int .i64 (countR n)) ∧ w = w' := by
  go_enter Tryd.func93, Tryd.ntmps93
  go_wp2
  go_loop [3, 4] (fun s i => ∃ k : Nat, k ≤ n ∧ i = .int .i64 ((k : Int) + 1) ∧ s = .int .i64 (countTo n k)) (fun _ i => n + 1 - (intOf i).toNat)
  case atStart => exact ⟨0, by omega, rfl, rfl⟩
  case round =>
    obtain ⟨k, hk, rfl, rfl⟩ := hrel
    by_cases hlt : k < n
    · have HS := Lib.hid (countTo_succ n k)
      have hb := countTo_bd (show n < 10 by omega) k
      have hp := parted_bd n (by omega) ((k : Int) + 1)
      generalize countTo n k = s at HS hb ⊢
      have hs0 := hb.1
      have hs1 : s ≤ 10000000 := by omega
      clear hb
      go_wp2_with fail
      refine (parted_any n ((k : Int) + 1) w hn (by omega) (by omega)).mono ?_; rintro e w' ⟨rfl, rfl⟩
      go_wp2
      go_round
      case rel => exact ⟨k + 1, by omega, by go_num, by rw [HS.out]⟩
      case measure => simp [intOf]; omega
    · obtain rfl : k = n := by omega
      go_wp2
      go_ret
      exact ⟨rfl, rfl⟩

set_option maxHeartbeats 400000 in
theorem refCount_any (n : Int) (w : World) : Calls Tryd.prog 40 #[.int .i64 n] w (IntErr (countE n) w) := by
  by_cases h1 : n < 1
  · have HV : Hid (countE n = (0, 2)) := by show countE n = (0, 2); unfold countE; rw [if_pos (.inl h1)]
    go_enter Tryd.func40, Tryd.ntmps40
    go_wp2
    go_ret2
    refine ⟨?_, Below.refl _ _⟩
    rw [HV.out]
    rfl
  by_cases h2 : 9 < n
  · have HV : Hid (countE n = (0, 2)) := by show countE n = (0, 2); unfold countE; rw [if_pos (.inr h2)]
    go_enter Tryd.func40, Tryd.ntmps40
    go_wp2
    go_ret2
    refine ⟨?_, Below.refl _ _⟩
    rw [HV.out]
    rfl
  obtain ⟨m, rfl⟩ : ∃ m : Nat, n = m := ⟨n.toNat, by omega⟩
  have HV : Hid (countE m = (countR m, 0)) := by show countE m = _; unfold countE; rw [if_neg (by omega), Int.toNat_natCast]
  go_enter Tryd.func40, Tryd.ntmps40
  go_wp2_with fail
  refine (refcount_any m (by omega) w).mono ?_; rintro e w' ⟨rfl, rfl⟩
  go_wp2
  go_ret2
  refine ⟨?_, Below.refl _ _⟩
  rw [HV.out]
  rfl

set_option maxHeartbeats 400000 in
theorem refParted_any (n k : Int) (w : World) : Calls Tryd.prog 42 #[.int .i64 n, .int .i64 k] w (IntErr (partedE n k) w) := by
  by_cases h : n < 1 ∨ 9 < n ∨ k < 1 ∨ n < k
  · have HV : Hid (partedE n k = (0, 2)) := by show partedE n k = (0, 2); unfold partedE; rw [if_pos h]
    by_cases h1 : n < 1
    · clear h
      go_enter Tryd.func42, Tryd.ntmps42
      go_wp2
      go_ret2
      refine ⟨?_, Below.refl _ _⟩
      rw [HV.out]
      rfl
    by_cases h2 : 9 < n
    · clear h
      go_enter Tryd.func42, Tryd.ntmps42
      go_wp2
      go_ret2
      refine ⟨?_, Below.refl _ _⟩
      rw [HV.out]
      rfl
    by_cases h3 : k < 1
    · clear h
      go_enter Tryd.func42, Tryd.ntmps42
      go_wp2
      go_ret2
      refine ⟨?_, Below.refl _ _⟩
      rw [HV.out]
      rfl
    have h4 : n < k := by omega
    clear h
    go_enter Tryd.func42, Tryd.ntmps42
    go_wp2
    go_ret2
    refine ⟨?_, Below.refl _ _⟩
    rw [HV.out]
    rfl
  · have h1 : ¬ n < 1 := by omega
    have h2 : ¬ 9 < n := by omega
    have h3 : ¬ k < 1 := by omega
    have h4 : ¬ n < k := by omega
    have HV : Hid (partedE n k = (partedR n.toNat k, 0)) := by show partedE n k = _; unfold partedE; rw [if_neg h]
    clear h
    obtain ⟨m, rfl⟩ : ∃ m : Nat, n = m := ⟨n.toNat, by omega⟩
    go_enter Tryd.func42, Tryd.ntmps42
    go_wp2_with fail
    refine (parted_any m k w (by omega) (by omega) (by omega)).mono ?_; rintro e w' ⟨rfl, rfl⟩
    go_wp2
    go_ret2
    refine ⟨?_, Below.refl _ _⟩
    rw [HV.out]
    rfl

def endRowL (m : Nat) : List Int := (endL.drop (m * 11)).take 11
set_option maxRecDepth 100000 in
theorem endIdx (w : World) : ∀ m : Nat, 1 ≤ m → m < 10 → (Instr.index 90 (.agg (ints endL).toArray) (.int .i64 m)).run Tryd.prog w = .ok (.agg (ints (endRowL m)).toArray) w := by
  intro m h1 h2
  have h : m = 1 ∨ m = 2 ∨ m = 3 ∨ m = 4 ∨ m = 5 ∨ m = 6 ∨ m = 7 ∨ m = 8 ∨ m = 9 := by omega
  clear h1 h2
  rcases h with rfl | rfl | rfl | rfl | rfl | rfl | rfl | rfl | rfl <;> (show _ = _; kernel_rfl)
set_option maxRecDepth 100000 in
theorem endIdx0 (w : World) : ∀ m : Nat, 1 ≤ m → m < 10 → (Instr.index 88 (.agg (ints (endRowL m)).toArray) (.int .i64 0)).run Tryd.prog w = .ok (.int .i64 (countR m)) w := by
  intro m h1 h2
  have h : m = 1 ∨ m = 2 ∨ m = 3 ∨ m = 4 ∨ m = 5 ∨ m = 6 ∨ m = 7 ∨ m = 8 ∨ m = 9 := by omega
  clear h1 h2
  rcases h with rfl | rfl | rfl | rfl | rfl | rfl | rfl | rfl | rfl <;> (show _ = _; kernel_rfl)
set_option maxHeartbeats 1000000 in
set_option maxRecDepth 100000 in
theorem count_any (n : Int) (w : World) : Calls Tryd.prog 39 #[.int .i64 n] w (IntErr (countE n) w) := by
  by_cases h : n < 1 ∨ 9 < n
  · have HV : Hid (countE n = (0, 2)) := by show countE n = (0, 2); unfold countE; rw [if_pos h]
    have hw : (decide ((1 : Int) ≤ n) && decide (n ≤ 9)) = false := by simp; omega
    clear h
    go_enter Tryd.func39, Tryd.ntmps39
    go_wp2_with fail
    refine (within_any n 1 9 w).mono ?_; rintro e w' ⟨rfl, rfl⟩
    rw [hw]
    go_wp2
    go_ret2
    refine ⟨?_, Below.refl _ _⟩
    rw [HV.out]
    rfl
  · have hw : (decide ((1 : Int) ≤ n) && decide (n ≤ 9)) = true := by simp; omega
    obtain ⟨m, rfl⟩ : ∃ m : Nat, n = m := ⟨n.toNat, by omega⟩
    have HV : Hid (countE m = (countR m, 0)) := by show countE m = _; unfold countE; rw [if_neg h, Int.toNat_natCast]
    have hm1 : 1 ≤ m := by omega
    have hm9 : m < 10 := by omega
    clear h
    have HE := Lib.hid (endings_any w)
    have HI1 := Lib.hid fun w => endIdx w m hm1 hm9
    have HI2 := Lib.hid fun w => endIdx0 w m hm1 hm9
    generalize (ints endL).toArray = R at HE HI1
    generalize (ints (endRowL m)).toArray = R2 at HI1 HI2
    go_enter Tryd.func39, Tryd.ntmps39
    go_wp2_with fail
    refine (within_any m 1 9 w).mono ?_; rintro e w' ⟨rfl, rfl⟩
    rw [hw]
    go_wp2_with fail
    refine HE.out.mono ?_
    rintro e w1 ⟨rfl, hb1⟩
    have HB1 := Lib.hid hb1
    clear hb1
    have i1 := HI1.out w1
    have i2 := HI2.out w1
    go_wp2
    go_ret2
    refine ⟨?_, HB1.out⟩
    rw [HV.out]
    rfl
end Go.Proofs.YtooepkpgffpcjaaDoor

namespace Go.Proofs.YtooepkpgffpcjaaDoor
open Go.RowKit

theorem partRow_succ (P : List Int) (j : Nat) : partRow P (j + 1) = partIn (partRow P j) j := foldl_range_succ _ _ _

set_option maxHeartbeats 1000000 in
set_option maxRecDepth 100000 in
theorem partedP_any (n k : Int) (w : World) : Calls Tryd.prog 41 #[.int .i64 n, .int .i64 k] w (IntErr (partedE n k) w) := by
  by_cases h1 : n < 1 ∨ 9 < n
  · have HV : Hid (partedE n k = (0, 2)) := by show partedE n k = (0, 2); unfold partedE; rw [if_pos (by omega)]
    have hw : (decide ((1 : Int) ≤ n) && decide (n ≤ 9)) = false := by simp; omega
    clear h1
    go_enter Tryd.func41, Tryd.ntmps41
    go_wp2_with fail
    refine (within_any n 1 9 w).mono ?_; rintro e w' ⟨rfl, rfl⟩
    rw [hw]
    go_wp2
    go_ret2
    refine ⟨?_, Below.refl _ _⟩
    rw [HV.out]
    rfl
  have hw : (decide ((1 : Int) ≤ n) && decide (n ≤ 9)) = true := by simp; omega
  by_cases h2 : k < 1 ∨ n < k
  · have HV : Hid (partedE n k = (0, 2)) := by show partedE n k = (0, 2); unfold partedE; rw [if_pos (by omega)]
    have hw2 : (decide ((1 : Int) ≤ k) && decide (k ≤ n)) = false := by simp; omega
    clear h1 h2
    go_enter Tryd.func41, Tryd.ntmps41
    go_wp2_with fail
    refine (within_any n 1 9 w).mono ?_; rintro e w' ⟨rfl, rfl⟩
    rw [hw]
    go_wp2_with fail
    refine (within_any k 1 n w).mono ?_; rintro e w' ⟨rfl, rfl⟩
    rw [hw2]
    go_wp2
    go_ret2
    refine ⟨?_, Below.refl _ _⟩
    rw [HV.out]
    rfl
  have hw2 : (decide ((1 : Int) ≤ k) && decide (k ≤ n)) = true := by simp; omega
  obtain ⟨m, rfl⟩ : ∃ m : Nat, n = m := ⟨n.toNat, by omega⟩
  obtain ⟨q, rfl⟩ : ∃ q : Nat, k = q := ⟨k.toNat, by omega⟩
  have hm9 : m ≤ 9 := by omega
  have hq9 : q < 10 := by omega
  have HV : Hid (partedE m q = ((partTo m).getD q 0, 0)) := by
    show partedE m q = _
    unfold partedE
    rw [if_neg (by omega), Int.toNat_natCast, parts_eq m (by omega) q hq9 (by omega) (by omega)]
  clear h1 h2
  go_enter Tryd.func41, Tryd.ntmps41
  go_wp2_with fail
  refine (within_any m 1 9 w).mono ?_; rintro e w' ⟨rfl, rfl⟩
  rw [hw]
  go_wp2_with fail
  refine (within_any q 1 m w).mono ?_; rintro e w' ⟨rfl, rfl⟩
  rw [hw2]
  go_wp2_with fail
  go_loopw [19] (fun i wr => ∃ r : Nat, r ≤ m ∧ i = .int .i64 r ∧ Blk wr w.heap.size 92 (ints (partTo r)).toArray ∧ Below w.heap.size w wr) (fun i _ => m - (intOf i).toNat)
  case atStart =>
    refine ⟨0, by omega, rfl, ?_, (Below.refl _ _).alloc (Nat.le_refl _) _⟩
    rw [show (ints (partTo 0)).toArray = #[.int .i64 1, .int .i64 0, .int .i64 0, .int .i64 0, .int .i64 0, .int .i64 0, .int .i64 0, .int .i64 0, .int .i64 0, .int .i64 0] from rfl]
    exact Blk.new w _ _
  case round =>
    obtain ⟨r, hr, rfl, hblk, hbel⟩ := hrel
    have HBK := Lib.hid hblk
    have HBE := Lib.hid hbel
    clear hblk hbel
    by_cases hlt : r < m
    · go_wp2_with fail
      go_loopw [7] (fun i wr => ∃ j : Nat, j ≤ 9 ∧ i = .int .i64 ((9 - j : Nat) : Int) ∧ Blk wr w.heap.size 92 (ints (partRow (partTo r) j)).toArray ∧ Below w.heap.size w wr) (fun i _ => (intOf i).toNat)
      case atStart => exact ⟨0, by omega, rfl, HBK.out, HBE.out⟩
      case round =>
        obtain ⟨j, hj, rfl, hblk, hbel⟩ := hrel
        have HBK2 := Lib.hid hblk
        have HBE2 := Lib.hid hbel
        clear hblk hbel HBK HBE
        have hok := okParts_all r (by omega) j (by omega)
        by_cases hlt2 : j < 9
        · have HS := Lib.hid (partRow_succ (partTo r) j)
          generalize partRow (partTo r) j = E at HBK2 hok HS
          obtain ⟨b, hb⟩ : ∃ b : Nat, b = 9 - j := ⟨_, rfl⟩
          have hb1 : 1 ≤ b := by omega
          have hb9 : b ≤ 9 := by omega
          obtain ⟨x, hx⟩ := getE (okParts_len hok) (show b < 10 by omega)
          obtain ⟨y, hy⟩ := getE (okParts_len hok) (show b - 1 < 10 by omega)
          have HE : Hid (partRow (partTo r) (j + 1) = E.set b (b * x + y)) := by
            show partRow (partTo r) (j + 1) = _
            rw [HS.out]; unfold partIn
            rw [← hb, getD_of_get hx, show 8 - j = b - 1 by omega, getD_of_get hy]
          rw [← hb]
          have hnx : 9 - (j + 1) = b - 1 := by omega
          have HJ := Lib.hid hnx
          have c1 : wr.cell? ⟨w.heap.size, b, none⟩ = some (.int .i64 x) := by rw [HBK2.out.cell, ints_arr_get hx]
          have c2 : wr.cell? ⟨w.heap.size, b - 1, none⟩ = some (.int .i64 y) := by rw [HBK2.out.cell, ints_arr_get hy]
          have f3 := HBK2.out.frozen b
          have bx := okParts_bd hok hx
          have bY := okParts_bd hok hy
          have hm0 : 0 ≤ (b : Int) * x := Int.mul_nonneg (by omega) bx.1
          have hm1 : (b : Int) * x ≤ 100000000000 := by
            have h1 : (b : Int) * x ≤ 10 * x := Int.mul_le_mul_of_nonneg_right (by omega) bx.1
            omega
          have s0 : 0 ≤ (b : Int) * x + y := by omega
          have s1 : (b : Int) * x + y ≤ 200000000000 := by omega
          have e1 : ((b : Int) - 1).toNat = b - 1 := by omega
          clear hx hy hok HS hb hnx
          go_wp2_with fail
          go_region
          all_goals go_wp2
          go_roundw
          case rel => exact ⟨j + 1, by omega, by rw [HJ.out]; congr 1; omega, by rw [HE.out, ← ints_arr_set]; exact (HBK2.out.set_ _ _).drew, (HBE2.out.setCell (p := ⟨w.heap.size, b, none⟩) (Nat.le_refl _) _).drew⟩
          case measure => simp [intOf]; omega
        · obtain rfl : j = 9 := by omega
          have HE : Hid (partTo (r + 1) = (partRow (partTo r) 9).set 0 0) := Lib.hid rfl
          generalize partRow (partTo r) 9 = E at HBK2 hok HE
          obtain ⟨x, hx⟩ := getE (okParts_len hok) (show 0 < 10 by omega)
          have c1 : wr.cell? ⟨w.heap.size, 0, none⟩ = some (.int .i64 x) := by rw [HBK2.out.cell, ints_arr_get hx]
          have f3 := HBK2.out.frozen 0
          clear hx hok
          go_wp2
          go_roundw
          case rel => exact ⟨r + 1, by omega, by go_num, by rw [HE.out, ← ints_arr_set]; exact HBK2.out.set_ _ _, HBE2.out.setCell (p := ⟨w.heap.size, 0, none⟩) (Nat.le_refl _) _⟩
          case measure => simp [intOf]; omega
    · obtain rfl : r = m := by omega
      have hok := okParts_all r (by omega) 0 (by omega)
      have hok' : okParts (partTo r) = true := hok
      obtain ⟨x, hx⟩ := getE (okParts_len hok') (show q < 10 by omega)
      have HX := Lib.hid (getD_of_get (d := 0) hx)
      have c1 : wr.cell? ⟨w.heap.size, q, none⟩ = some (.int .i64 x) := by rw [HBK.out.cell, ints_arr_get hx]
      clear hx hok hok'
      go_wp2
      go_ret2
      refine ⟨?_, HBE.out⟩
      rw [HV.out, HX.out]
      rfl
end Go.Proofs.YtooepkpgffpcjaaDoor
