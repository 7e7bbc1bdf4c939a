/- Walks: the program's Moves: a table of common packets, and for each set of blocks how many packets stay at most. -/
import Derived.Test.YtooepkpgffpcjaaDoorRefMoves
namespace Go.Proofs.YtooepkpgffpcjaaDoor
open Go.RowKit

/-- the table of common packets, row by row -/
def tab (l r : List Int) : List Int := (List.range 81).map fun j => cmn l r (j / 9 : Nat) (j % 9 : Nat)
theorem tab_get (l r : List Int) (x y : Nat) (hx : x < 9) (hy : y < 9) : (tab l r)[x * 9 + y]? = some (cmn l r x y) := by
  unfold tab
  have hxy : x * 9 + y < 81 := by omega
  rw [List.getElem?_map, List.getElem?_range hxy]
  simp only [Option.map_some]
  rw [show (x * 9 + y) / 9 = x by omega, show (x * 9 + y) % 9 = y by omega]
theorem tab_snoc (l r : List Int) (h : l.length = r.length) (x y : Nat) (_ : x < 9) (hy : y < 9) : (tab l r).set (x * 9 + y) (cmn l r x y + 1) = tab (l ++ [(x : Int)]) (r ++ [(y : Int)]) := by
  apply List.ext_getElem?
  intro j
  by_cases hj : j < 81
  · unfold tab
    rw [List.getElem?_map, List.getElem?_range hj]
    simp only [Option.map_some]
    rw [cmn_snoc _ _ _ _ _ _ h]
    by_cases e : x * 9 + y = j
    · subst e
      rw [List.getElem?_set_self (by simp; omega), show (x * 9 + y) / 9 = x by omega, show (x * 9 + y) % 9 = y by omega]
      simp
    · rw [List.getElem?_set_ne e, List.getElem?_map, List.getElem?_range hj]
      simp only [Option.map_some]
      rw [if_neg (by omega)]
      simp
  · rw [List.getElem?_eq_none (by simp [tab]; omega), List.getElem?_eq_none (by simp [tab]; omega)]
theorem tab_nil : tab [] [] = List.replicate 81 0 := by decide
theorem tab_length (l r : List Int) : (tab l r).length = 81 := by simp [tab]

/-- the list while it is filled with -1 -/
def fillM (M j : Nat) : List Int := List.replicate j (-1) ++ List.replicate (M - j) 0
/-- the program's Moves: block y of b for a set of blocks s that n packets stay with -/
def mvY (a b : List Int) (x s : Nat) (n : Int) (next : List Int) (y : Nat) : List Int :=
  if s / 2 ^ y % 2 = 0 then next.set (s ||| 2 ^ y) (max (next.getD (s ||| 2 ^ y) 0) (n + cmn a b x y)) else next
def mvSet (a b : List Int) (q x : Nat) (kept next : List Int) (s : Nat) : List Int :=
  if kept.getD s 0 < 0 then next else (List.range q).foldl (mvY a b x s (kept.getD s 0)) next
def mvX (a b : List Int) (q M : Nat) (kept : List Int) (x : Nat) : List Int := (List.range M).foldl (mvSet a b q x kept) kept
/-- behind x blocks of a -/
def mvTo (a b : List Int) (q M x : Nat) : List Int := (List.range x).foldl (mvX a b q M) ((fillM M M).set 0 0)
theorem fillM_get (M j : Nat) (h : j < M) : (fillM M j)[j]? = some 0 := by
  unfold fillM
  rw [List.getElem?_append_right (by simp)]
  simp [List.getElem?_replicate]; omega
theorem fillM_head (M : Nat) (h : 1 ≤ M) : (fillM M M)[0]? = some (-1) := by
  unfold fillM
  rw [List.getElem?_append_left (by simp; omega), List.getElem?_replicate, if_pos (by omega)]
theorem fillM_set (M j : Nat) (h : j < M) : (fillM M j).set j (-1) = fillM M (j + 1) := by
  unfold fillM
  obtain ⟨d, hd⟩ : ∃ d, M - j = d + 1 := ⟨M - j - 1, by omega⟩
  rw [hd, show M - (j + 1) = d by omega, List.replicate_succ, List.set_append_right _ _ (by simp)]
  simp [List.replicate_succ']
theorem ofInt_64 (a : Nat) (ha : a < 65536) : (BitVec.ofInt 64 (a : Int)).toNat = a := by
  rw [BitVec.ofInt_natCast, BitVec.toNat_ofNat]; exact Nat.mod_eq_of_lt (by omega)
theorem i64_and_nat (a b : Nat) (ha : a < 65536) (hb : b < 65536) : bits .and .i64 (a : Int) (b : Int) = ((a &&& b : Nat) : Int) := by
  have hx : a &&& b < 2 ^ 16 := Nat.and_lt_two_pow _ (by omega)
  show IntKind.i64.wrap ((BitVec.ofInt 64 (a : Int) &&& BitVec.ofInt 64 (b : Int)).toNat : Int) = _
  rw [BitVec.toNat_and, ofInt_64 a ha, ofInt_64 b hb, IntKind.wrap_i64]
  omega
theorem i64_or_nat (a b : Nat) (ha : a < 65536) (hb : b < 65536) : bits .or .i64 (a : Int) (b : Int) = ((a ||| b : Nat) : Int) := by
  have hx : a ||| b < 2 ^ 16 := Nat.or_lt_two_pow (by omega) (by omega)
  show IntKind.i64.wrap ((BitVec.ofInt 64 (a : Int) ||| BitVec.ofInt 64 (b : Int)).toNat : Int) = _
  rw [BitVec.toNat_or, ofInt_64 a ha, ofInt_64 b hb, IntKind.wrap_i64]
  omega
theorem pow_le_512 {y q M : Nat} (hM : M = 2 ^ q) (hy : y < q) : 2 ^ y < M := by rw [hM]; exact Nat.pow_lt_pow_right (by omega) hy
theorem wrap_small (n : Nat) (h : n < 65536) : wrap64 (n : Int) = n := by unfold wrap64; omega
theorem bit_or {s y q M : Nat} (hM : M = 2 ^ q) (hs : s < M) (hy : y < q) (h512 : M ≤ 512) : bits BinOp.or IntKind.i64 (s : Int) (wrap64 (2 ^ y)) = ((s ||| 2 ^ y : Nat) : Int) := by
  have hp := pow_le_512 hM hy
  rw [show (2 : Int) ^ y = ((2 ^ y : Nat) : Int) by simp]
  generalize 2 ^ y = P at hp
  rw [wrap_small P (by omega)]
  exact i64_or_nat s P (by omega) (by omega)
theorem bit_or_lt {s y q M : Nat} (hM : M = 2 ^ q) (hs : s < M) (hy : y < q) : s ||| 2 ^ y < M := by
  subst hM
  exact Nat.or_lt_two_pow hs (Nat.pow_lt_pow_right (by omega) hy)
theorem bit_and {s y M : Nat} (hs : s < M) (h512 : M ≤ 512) : bits BinOp.and IntKind.i64 ((s : Int) / 2 ^ y) 1 = ((s / 2 ^ y % 2 : Nat) : Int) := by
  have hd : s / 2 ^ y ≤ s := Nat.div_le_self s (2 ^ y)
  rw [show (s : Int) / 2 ^ y = ((s / 2 ^ y : Nat) : Int) by simp]
  generalize s / 2 ^ y = P at hd
  have := i64_and_nat P 1 (by omega) (by omega)
  rw [Nat.and_one_is_mod] at this; exact this
theorem bit_yes {s y M : Nat} (hs : s < M) (h512 : M ≤ 512) (h : s / 2 ^ y % 2 = 0) : (bits BinOp.and IntKind.i64 ((s : Int) / 2 ^ y) 1 == 0) = true := by rw [bit_and hs h512, h]; rfl
theorem bit_no {s y M : Nat} (hs : s < M) (h512 : M ≤ 512) (h : ¬ s / 2 ^ y % 2 = 0) : (bits BinOp.and IntKind.i64 ((s : Int) / 2 ^ y) 1 == 0) = false := by
  rw [bit_and hs h512]
  generalize s / 2 ^ y % 2 = P at h
  simp; omega
theorem mvY_yes {a b : List Int} {x s y : Nat} {n t : Int} {Z : List Int} (h : s / 2 ^ y % 2 = 0) (ht : Z[s ||| 2 ^ y]? = some t) : mvY a b x s n Z y = Z.set (s ||| 2 ^ y) (max t (n + cmn a b x y)) := by
  unfold mvY
  rw [if_pos h, getD_of_get ht]
theorem mvY_no {a b : List Int} {x s y : Nat} {n : Int} {Z : List Int} (h : ¬ s / 2 ^ y % 2 = 0) : mvY a b x s n Z y = Z := by
  unfold mvY
  rw [if_neg h]
theorem mvSet_neg {a b : List Int} {q x s : Nat} {K N : List Int} {v : Int} (hv : K[s]? = some v) (h : v < 0) : mvSet a b q x K N s = N := by
  unfold mvSet; rw [getD_of_get hv, if_pos h]
theorem mvSet_pos {a b : List Int} {q x s : Nat} {K N : List Int} {v : Int} (hv : K[s]? = some v) (h : ¬ v < 0) : mvSet a b q x K N s = (List.range q).foldl (mvY a b x s v) N := by
  unfold mvSet; rw [getD_of_get hv, if_neg h]
theorem exists_get {α : Type} {l : List α} {n k : Nat} (h : l.length = n) (hk : k < n) : ∃ v, l[k]? = some v := ⟨l[k]'(by omega), List.getElem?_eq_getElem _⟩

/-- numbers from -1 to M -/
def Bd (M : Int) (l : List Int) : Prop := ∀ v ∈ l, -1 ≤ v ∧ v ≤ M
theorem Bd.mono {M M' : Int} {l : List Int} (h : Bd M l) (hm : M ≤ M') : Bd M' l := fun v hv => by have := h v hv; omega
theorem Bd.set {M : Int} {l : List Int} (h : Bd M l) (j : Nat) {u : Int} (hu : -1 ≤ u ∧ u ≤ M) : Bd M (l.set j u) := fun v hv => by
  rcases List.mem_or_eq_of_mem_set hv with h1 | rfl
  · exact h v h1
  · exact hu
theorem Bd.getD {M : Int} {l : List Int} (h : Bd M l) (hM : 0 ≤ M) (j : Nat) : -1 ≤ l.getD j 0 ∧ l.getD j 0 ≤ M := by
  rw [List.getD_eq_getElem?_getD]
  cases e : l[j]? with
  | none => simp; omega
  | some v => exact h v (List.mem_of_getElem? e)
theorem foldl_bd {M : Int} (f : List Int → Nat → List Int) (h : ∀ l j, Bd M l → Bd M (f l j)) (js : List Nat) (l : List Int) (hl : Bd M l) : Bd M (js.foldl f l) := by
  induction js generalizing l with
  | nil => exact hl
  | cons j js ih => exact ih _ (h l j hl)
theorem mvY_bd (a b : List Int) (ha : a.length ≤ 9) (x s : Nat) (n M : Int) (hM : 0 ≤ M) (hn : -1 ≤ n ∧ n ≤ M) (l : List Int) (y : Nat) (hl : Bd (M + 9) l) : Bd (M + 9) (mvY a b x s n l y) := by
  unfold mvY
  split
  · refine hl.set _ ?_
    have h1 := hl.getD (by omega) (s ||| 2 ^ y)
    have h2 := cmn_bd a b x y
    omega
  · exact hl
theorem mvSet_bd (a b : List Int) (ha : a.length ≤ 9) (q x : Nat) (M : Int) (hM : 0 ≤ M) (kept : List Int) (hk : Bd M kept) (l : List Int) (s : Nat) (hl : Bd (M + 9) l) : Bd (M + 9) (mvSet a b q x kept l s) := by
  unfold mvSet
  split
  · exact hl
  · exact foldl_bd _ (fun l y hl => mvY_bd a b ha x s _ M hM (hk.getD hM s) l y hl) _ _ hl
theorem mvTo_bd (a b : List Int) (q M x : Nat) (ha : a.length ≤ 9) : Bd (9 * x) (mvTo a b q M x) := by
  induction x with
  | zero =>
    refine Bd.set (fun v hv => ?_) 0 (by omega)
    unfold fillM at hv
    rcases List.mem_append.1 hv with h | h
    · rw [List.eq_of_mem_replicate h]; omega
    · rw [List.eq_of_mem_replicate h]; omega
  | succ x ih =>
    show Bd _ ((List.range (x + 1)).foldl (mvX a b q M) _)
    rw [foldl_range_succ]
    show Bd _ ((List.range M).foldl (mvSet a b q x (mvTo a b q M x)) (mvTo a b q M x))
    rw [show ((9 : Int) * ((x + 1 : Nat) : Int)) = 9 * (x : Int) + 9 by omega]
    exact foldl_bd _ (fun l s hl => mvSet_bd a b ha q x _ (by omega) _ ih l s hl) _ _ (ih.mono (by omega))
theorem mvSets_bd (a b : List Int) (q x : Nat) (K : List Int) (ha : a.length ≤ 9) (hK : Bd (9 * x) K) (s : Nat) : Bd (9 * x + 9) ((List.range s).foldl (mvSet a b q x K) K) :=
  foldl_bd _ (fun l s hl => mvSet_bd a b ha q x _ (by omega) _ hK l s hl) _ _ (hK.mono (by omega))
theorem if_max (t u : Int) : (if t < u then u else t) = max t u := by split <;> omega
theorem mvTo_succ (a b : List Int) (q M x : Nat) : mvTo a b q M (x + 1) = (List.range M).foldl (mvSet a b q x (mvTo a b q M x)) (mvTo a b q M x) := by
  unfold mvTo
  rw [foldl_range_succ]; rfl
/-- the greatest of some numbers -/
def mxL : List Int → Int
  | [] => 0
  | a :: l => mx a l
/-- The program's Moves: the number, and the error. -/
def movesP (l r : List Int) : Int × Int := if chk2 l r ≠ 0 then (0, chk2 l r) else (l.length - mxL (mvTo l r (blk r).toNat (2 ^ (blk r).toNat) (blk l).toNat), 0)
theorem ints_toArray_set (l : List Int) (j : Nat) (z : Int) : (ints l).toArray.setIfInBounds j (.int .i64 z) = (ints (l.set j z)).toArray := by simp [ints, List.map_set]
theorem zero78 : Tryd.zeroCells78 = (ints (tab [] [])).toArray := by rw [tab_nil]; rfl

set_option maxHeartbeats 1000000 in
set_option maxRecDepth 100000 in
theorem moves_any (A B : Option Addr) (n m c d : Nat) (l r : List Int) (w : World) (h1 : RdI w A n l) (h2 : RdI w B m r) :
    Calls Tryd.prog 23 #[.slice A n c, .slice B m d] w (IntErr (movesP l r) w) := by
  have c1 := both_any A B n m c d l r w h1 h2
  by_cases h0 : chk2 l r = 0
  · obtain ⟨k1, k2, k3⟩ := chk2_ok h0
    have s1 := chk_small k1
    have s2 := chk_small k2
    have r1 := Lib.hid (chk_ok k1).2.2.1
    have r2 := Lib.hid (chk_ok k2).2.2.1
    have b1 := blk_le9 k1
    have b2 := blk_le9 k2
    rw [h0] at c1
    have hln := h1.len
    have hrm := h2.len
    obtain rfl : n = m := by omega
    have hn9 : n ≤ 9 := by have := (chk_ok k1).2.1; omega
    have hn1 : 1 ≤ n := by have := (chk_ok k1).1; omega
    have hA : ∀ k, A.map (·.block) = some k → k < w.heap.size := fun k hk => h1.block (by omega) hk
    have hB : ∀ k, B.map (·.block) = some k → k < w.heap.size := fun k hk => h2.block (by omega) hk
    have H0 := Lib.hid h0
    clear h0 k1 k2 k3
    obtain ⟨p, hp⟩ : ∃ p : Nat, blk l = p := ⟨(blk l).toNat, by omega⟩
    obtain ⟨q, hq⟩ : ∃ q : Nat, blk r = q := ⟨(blk r).toNat, by omega⟩
    have HC := Lib.hid c1
    have HL := Lib.hid hln
    have HRL := Lib.hid hrm
    have hqb : (q : Int) ≤ 9 := by omega
    have hpb : (p : Int) ≤ 9 := by omega
    have hqb1 : 1 ≤ (q : Int) := by omega
    have HP := Lib.hid hp
    have HQ := Lib.hid hq
    clear c1 hln hrm hp hq b1 b2
    obtain ⟨i0, hi0, hz0, hz1, hz2⟩ := info_parts intInfo
    go_enter Tryd.func23, Tryd.ntmps23
    go_wp2_with fail
    refine HC.out.mono ?_; rintro e w' ⟨rfl, rfl⟩
    go_wp2_with fail
    go_loopw [25] (fun i wr => ∃ k : Nat, k ≤ n ∧ i = .int .i64 k ∧ Blk wr w.heap.size 78 (ints (tab (l.take k) (r.take k))).toArray ∧ Below w.heap.size w wr ∧ wr.heap.size = w.heap.size + 1) (fun i _ => n - (intOf i).toNat)
    case atStart => exact ⟨0, by omega, rfl, by rw [List.take_zero, List.take_zero, ← zero78]; exact Blk.new _ _ _, (Below.refl _ _).alloc (Nat.le_refl _) _, by simp⟩
    case round =>
      obtain ⟨k, hk, rfl, hblk, hbel, hsz⟩ := hrel
      have HBK := Lib.hid hblk
      have HBE := Lib.hid hbel
      have HSZ := Lib.hid hsz
      clear hblk hbel hsz
      by_cases hlt : k < n
      · obtain ⟨ad, v, rfl, had, hv, _, hcell⟩ := h1.at_ hlt
        obtain ⟨bd, u, rfl, hbd, hu, _, hcell2⟩ := h2.at_ hlt
        have hv9 := r1.out v (List.mem_of_getElem? hv.out)
        have hu9 := r2.out u (List.mem_of_getElem? hu.out)
        obtain ⟨v, rfl⟩ : ∃ v' : Nat, v = v' := ⟨v.toNat, by omega⟩
        obtain ⟨u, rfl⟩ : ∃ u' : Nat, u = u' := ⟨u.toNat, by omega⟩
        rw [← HBE.out.cell (by rw [block_of_add]; exact had)] at hcell
        rw [← HBE.out.cell (by rw [block_of_add]; exact hbd)] at hcell2
        have ht := tab_get (l.take k) (r.take k) v u (by omega) (by omega)
        have hcell3 : wr.cell? ⟨w.heap.size, v * 9 + u, none⟩ = some (.int .i64 (cmn (l.take k) (r.take k) v u)) := by
          rw [HBK.out.cell]; simp only [List.getElem?_toArray]; rw [ints_get, ht]; rfl
        have hfz : wr.frozen? ⟨w.heap.size, v * 9 + u, none⟩ = false := HBK.out.frozen _
        have hcm := cmn_bd (l.take k) (r.take k) v u
        have hcm1 : cmn (l.take k) (r.take k) v u ≤ 1000 := by have := List.length_take_le k l; omega
        have HS := Lib.hid (tab_snoc (l.take k) (r.take k) (by have := HL.out; have := HRL.out; simp; omega) v u (by omega) (by omega))
        generalize cmn (l.take k) (r.take k) v u = z at hcell3 hcm hcm1 HS
        have hz00 := hcm.1
        clear ht hcm
        go_wp2
        go_region
        all_goals go_wp2
        go_roundw
        case rel => exact ⟨k + 1, by omega, by go_num, by rw [take_of_get hv.out, take_of_get hu.out, ← HS.out, ← ints_toArray_set]; exact (HBK.out.set_ _ _).drew, (HBE.out.setCell (p := ⟨w.heap.size, _, none⟩) (Nat.le_refl _) _).drew, by simp [HSZ.out]⟩
        case measure => simp [intOf]; omega
      · have HT : Hid (Blk wr w.heap.size 78 (ints (tab l r)).toArray) := by
          have := HBK.out
          rw [List.take_of_length_le (by have := HL.out; omega), List.take_of_length_le (by have := HRL.out; omega)] at this
          exact this
        clear HBK
        have h1' := h1.below HBE.out
        have h2' := h2.below HBE.out
        go_wp2_with fail
        refine (blocks_any B n d r wr h2' s2 (by omega)).mono ?_; rintro e w' ⟨rfl, rfl⟩
        rw [HQ.out]
        obtain ⟨M, hM⟩ : ∃ M : Nat, M = 2 ^ q := ⟨_, rfl⟩
        have hM512 : M ≤ 512 := by
          rw [hM]; exact Nat.le_trans (Nat.pow_le_pow_right (by omega) (show q ≤ 9 by omega)) (by decide)
        have hM1 : 1 ≤ M := by rw [hM]; exact Nat.one_le_two_pow
        have hsh : wrap64 (2 ^ q) = (M : Int) := by
          rw [show (2 : Int) ^ q = (M : Int) by rw [hM]; simp]; unfold wrap64; omega
        have HM := Lib.hid hM
        clear hM
        have hB1 : Below w.heap.size w wr := HBE.out
        go_wp2_with (at_make; go_must (refine wpList_make_full wr rfl (.tmp 45) (.tmp 45) 22 rfl (w.heap.size + 1) 3 i0 (.int .i64 0) 1 Tryd.underlying22 hi0 hz0 hz1 .i64 .i64 _ _ M rfl rfl hsh hsh (by rw [hz2]; omega) (by unfold maxLen; omega) (by have := HSZ.out; omega) ?_); intro w1 hown hg1)
        obtain ⟨G, hG⟩ : ∃ G, G = wr.heap.size := ⟨_, rfl⟩
        have HG : Hid (G = w.heap.size + 1) := hG.trans HSZ.out
        rw [← hG] at hown ⊢
        have HT1 := Lib.hid (HT.out.grown hg1 (by simp))
        have hown2 : OwnI w1 (w.heap.size + 1) 3 (some ⟨G, 0, none⟩) M M (List.replicate M 0) := by
          refine ⟨⟨?_, by omega⟩, fun v hv => by rw [List.eq_of_mem_replicate hv]; exact I64.small (by omega)⟩
          rw [show (madeCells (Value.int IntKind.i64 0).cells (M * 1)).toList = ints (List.replicate M 0) from by rw [Nat.mul_one]; show (madeCells #[Value.int .i64 0] M).toList = _; rw [toList_madeCells_one]; simp [ints]] at hown
          exact hown
        have HB1 := Lib.hid (hB1.grown hg1 hB1.size (by simp))
        have HO := Lib.hid hown2
        clear hown hown2 hg1 hB1 HT h1' h2' HBE HSZ hG hsh
        clear hlt hk
        go_loopw [49] (fun i wq => ∃ j : Nat, j ≤ M ∧ i = .int .i64 j ∧ OwnI wq (w.heap.size + 1) 3 (some ⟨G, 0, none⟩) M M (fillM M j) ∧ Blk wq w.heap.size 78 (ints (tab l r)).toArray ∧ Below w.heap.size w wq) (fun i _ => M - (intOf i).toNat)
        case atStart => exact ⟨0, by omega, rfl, HO.out, HT1.out, HB1.out⟩
        case round =>
          obtain ⟨j, hj, rfl, hown, hblk, hbel⟩ := hrel
          have HO2 := Lib.hid hown
          have HBK2 := Lib.hid hblk
          have HBE2 := Lib.hid hbel
          clear hown hblk hbel HO HT1 HB1
          by_cases hlt : j < M
          · have hcell : wr.cell? ⟨G, j, none⟩ = some (.int .i64 0) := HO2.out.cellAt (fillM_get M j hlt)
            have hfz : wr.frozen? ⟨G, j, none⟩ = false := HO2.out.frozenAt j
            go_wp2
            go_roundw
            case rel => exact ⟨j + 1, by omega, by go_num, by rw [← fillM_set M j hlt]; exact HO2.out.stored j (I64.small (by omega)), HBK2.out.far (p := ⟨G, j, none⟩) (by have := HG.out; simp; omega) _, HBE2.out.setCell (p := ⟨G, j, none⟩) (by have := HG.out; simp; omega) _⟩
            case measure => simp [intOf]; omega
          · obtain rfl : M = j := by omega
            have hcell : wr.cell? ⟨G, 0, none⟩ = some (.int .i64 (-1)) := HO2.out.cellAt (fillM_head M hM1)
            have hfz : wr.frozen? ⟨G, 0, none⟩ = false := HO2.out.frozenAt 0
            go_wp2_with fail
            have HO3 := Lib.hid (HO2.out.stored 0 (u := 0) (I64.small (by omega)))
            have HBK3 := Lib.hid (HBK2.out.far (p := ⟨G, 0, none⟩) (by have := HG.out; simp; omega) (.int .i64 0))
            have HBE3 := Lib.hid (HBE2.out.setCell (p := ⟨G, 0, none⟩) (by have := HG.out; simp; omega) (.int .i64 0))
            generalize wr.setCell ⟨G, 0, none⟩ (.int .i64 0) = W at HO3 HBK3 HBE3 ⊢
            refine (blocks_any A n c l W (h1.below HBE3.out) s1 (by omega)).mono ?_; rintro e w' ⟨rfl, rfl⟩
            rw [HP.out]
            go_wp2_with fail
            clear hlt hj hcell hfz HBK2 HBE2 HO2
            go_loopw [9, 60] (fun kv i wq => ∃ x : Nat, x ≤ p ∧ i = .int .i64 x ∧ ∃ Gk ck, kv = .slice (some ⟨Gk, 0, none⟩) M ck ∧ OwnI wq (w.heap.size + 1) 3 (some ⟨Gk, 0, none⟩) M ck (mvTo l r q M x) ∧ Blk wq w.heap.size 78 (ints (tab l r)).toArray ∧ Below w.heap.size w wq) (fun _ i _ => p - (intOf i).toNat)
            case atStart => exact ⟨0, by omega, rfl, G, M, rfl, HO3.out, HBK3.out, HBE3.out⟩
            case round =>
              obtain ⟨x, hx, rfl, Gk, ck, rfl, hown, hblk, hbel⟩ := hrel
              have HO4 := Lib.hid hown
              have HBK4 := Lib.hid hblk
              have HBE4 := Lib.hid hbel
              clear hown hblk hbel HO3 HBK3 HBE3 HG
              by_cases hlt : x < p
              · go_wp2_with fail
                go_step3
                go_wp2_with fail
                refine (clone_any _ M ck _ wr HO4.out.rd (by omega) rfl).mono ?_
                rintro e w2 ⟨A2, c2, rfl, hown2, hbel2⟩
                have hlen : (mvTo l r q M x).length = M := HO4.out.len
                rw [hlen] at hown2 ⊢
                obtain ⟨g2, rfl, hg2, _⟩ := hown2.form (by omega)
                have HGk := Lib.hid (HO4.out.1.block (k := Gk) rfl)
                have hown3 := hown2.mono (show w.heap.size + 1 ≤ wr.heap.size by have := HGk.out; omega)
                have HO5 := Lib.hid (HO4.out.below hbel2)
                have HBK5 := Lib.hid (HBK4.out.below hbel2)
                have HBE5 := Lib.hid (HBE4.out.trans (hbel2.mono (by have := HGk.out; omega)))
                have HO6 := Lib.hid hown3
                have HGB : w.heap.size + 1 ≤ g2 := by have := HGk.out; omega
                have HGG : Hid (Gk < g2) := by have := HGk.out; show Gk < g2; omega
                have HKB := Lib.hid (mvTo_bd l r q M x (by have := HL.out; omega))
                generalize hK : mvTo l r q M x = K at HO5 HO6 HKB
                have HK := Lib.hid hK
                clear hown2 hown3 hbel2 HBK4 HBE4 HO4 hK hlen HGk
                go_wp2_with fail
                go_step3
                go_wp2_with fail
                go_loopw [67] (fun i wq => ∃ s : Nat, s ≤ M ∧ i = .int .i64 s ∧ OwnI wq (w.heap.size + 1) 3 (some ⟨Gk, 0, none⟩) M ck K ∧ OwnI wq (w.heap.size + 1) 3 (some ⟨g2, 0, none⟩) M c2 ((List.range s).foldl (mvSet l r q x K) K) ∧ Blk wq w.heap.size 78 (ints (tab l r)).toArray ∧ Below w.heap.size w wq) (fun i _ => M - (intOf i).toNat)
                case atStart => exact ⟨0, by omega, rfl, HO5.out, HO6.out, HBK5.out, HBE5.out⟩
                case round =>
                  obtain ⟨s, hs, rfl, hown, hown', hblk, hbel⟩ := hrel
                  have HO7 := Lib.hid hown
                  have HO8 := Lib.hid hown'
                  have HBK7 := Lib.hid hblk
                  have HBE7 := Lib.hid hbel
                  clear hown hown' hblk hbel HO5 HO6 HBK5 HBE5
                  by_cases hlts : s < M
                  · obtain ⟨v, hv⟩ : ∃ v, K[s]? = some v := ⟨K[s]'(by rw [HO7.out.len]; exact hlts), List.getElem?_eq_getElem _⟩
                    have hcell := HO7.out.cellAt hv
                    have hvb := HKB.out v (List.mem_of_getElem? hv)
                    have HV := Lib.hid hv
                    have HNB := Lib.hid (mvSets_bd l r q x K (by have := HL.out; omega) HKB.out s)
                    have HSS := Lib.hid (foldl_range_succ (mvSet l r q x K) K s)
                    generalize hN : (List.range s).foldl (mvSet l r q x K) K = N at HO8 HNB HSS
                    clear hv hN
                    have hxp : x ≤ 9 := by omega
                    by_cases hneg : v < 0
                    · go_wp2
                      go_roundw
                      case rel => exact ⟨s + 1, by omega, by go_num, HO7.out, by rw [HSS.out, mvSet_neg HV.out hneg]; exact HO8.out, HBK7.out, HBE7.out⟩
                      case measure => simp [intOf]; omega
                    · go_wp2_with fail
                      refine (blocks_any B n d r wr (h2.below HBE7.out) s2 (by omega)).mono ?_; rintro e w' ⟨rfl, rfl⟩
                      rw [HQ.out]
                      go_wp2_with fail
                      go_loopw [76] (fun i wq => ∃ y : Nat, y ≤ q ∧ i = .int .i64 y ∧ OwnI wq (w.heap.size + 1) 3 (some ⟨Gk, 0, none⟩) M ck K ∧ OwnI wq (w.heap.size + 1) 3 (some ⟨g2, 0, none⟩) M c2 ((List.range y).foldl (mvY l r x s v) N) ∧ Blk wq w.heap.size 78 (ints (tab l r)).toArray ∧ Below w.heap.size w wq) (fun i _ => q - (intOf i).toNat)
                      case atStart => exact ⟨0, by omega, rfl, HO7.out, HO8.out, HBK7.out, HBE7.out⟩
                      case round =>
                        obtain ⟨y, hy, rfl, hown, hown', hblk, hbel⟩ := hrel
                        have HO9 := Lib.hid hown
                        have HOA := Lib.hid hown'
                        have HBK9 := Lib.hid hblk
                        have HBE9 := Lib.hid hbel
                        clear hown hown' hblk hbel HO7 HO8 HBK7 HBE7
                        by_cases hlty : y < q
                        · have hor := bit_or HM.out hlts hlty hM512
                          have hIM := bit_or_lt HM.out hlts hlty
                          obtain ⟨I, hI⟩ : ∃ I : Nat, I = s ||| 2 ^ y := ⟨_, rfl⟩
                          rw [← hI] at hor hIM
                          have HY := Lib.hid (foldl_range_succ (mvY l r x s v) N y)
                          have HYB := Lib.hid (foldl_bd (mvY l r x s v) (fun l' y hl => mvY_bd l r (by have := HL.out; omega) x s v (9 * x) (by omega) hvb l' y hl) (List.range y) N HNB.out)
                          generalize (List.range y).foldl (mvY l r x s v) N = Z at HOA HY HYB
                          by_cases hbit : s / 2 ^ y % 2 = 0
                          · have g1 := bit_yes hlts hM512 hbit
                            obtain ⟨t, ht⟩ := exists_get HOA.out.len hIM
                            have hcz := HOA.out.cellAt ht
                            have hfz := HOA.out.frozenAt I
                            have htb := HYB.out t (List.mem_of_getElem? ht)
                            have hct : wr.cell? ⟨w.heap.size, x * 9 + y, none⟩ = some (.int .i64 (cmn l r x y)) := by
                              rw [HBK9.out.cell]; simp only [List.getElem?_toArray]; rw [ints_get, tab_get l r x y (by omega) (by omega)]; rfl
                            have hcm := cmn_bd l r x y
                            have hcm1 : cmn l r x y ≤ 9 := by have := HL.out; omega
                            have HY2 := Lib.hid (mvY_yes (a := l) (b := r) (x := x) (n := v) hbit (hI ▸ ht))
                            rw [← hI] at HY2
                            generalize cmn l r x y = cc at hct hcm hcm1 HY2
                            have hcm0 := hcm.1
                            clear hI ht hcm hbit
                            go_wp2_with fail
                            go_region
                            go_wp2
                            go_roundw
                            case rel => exact ⟨y + 1, by omega, by go_num, (HO9.out.far (p := ⟨g2, I, none⟩) (by have := HGG.out; simp; omega) _).drew, by rw [HY.out, HY2.out, ← if_max]; exact (HOA.out.stored I (I64.small (by split <;> omega))).drew, (HBK9.out.far (p := ⟨g2, I, none⟩) (by simp; omega) _).drew, (HBE9.out.setCell (p := ⟨g2, I, none⟩) (by simp; omega) _).drew⟩
                            case measure => simp [intOf]; omega
                          · have g1 := bit_no hlts hM512 hbit
                            have HY2 := Lib.hid (mvY_no (a := l) (b := r) (x := x) (n := v) (Z := Z) hbit)
                            clear hI hbit hor
                            go_wp2
                            go_roundw
                            case rel => exact ⟨y + 1, by omega, by go_num, HO9.out, by rw [HY.out, HY2.out]; exact HOA.out, HBK9.out, HBE9.out⟩
                            case measure => simp [intOf]; omega
                        · obtain rfl : q = y := by omega
                          go_wp2
                          go_roundw
                          case rel => exact ⟨s + 1, by omega, by go_num, HO9.out, by rw [HSS.out, mvSet_pos HV.out (by omega)]; exact HOA.out, HBK9.out, HBE9.out⟩
                          case measure => simp [intOf]; omega
                  · obtain rfl : M = s := by omega
                    go_wp2
                    apply_assumption
                    go_wp2
                    go_roundw
                    case rel => exact ⟨x + 1, by omega, by go_num, g2, c2, rfl, by rw [mvTo_succ, HK.out]; exact HO8.out, HBK7.out, HBE7.out⟩
                    case measure => simp [intOf]; omega
              · obtain rfl : p = x := by omega
                go_wp2_with fail
                have hKl := HO4.out.len
                have HKB := Lib.hid (mvTo_bd l r q M p (by have := HL.out; omega))
                generalize hK : mvTo l r q M p = K at HO4 HKB hKl
                cases K with
                | nil => simp at hKl; omega
                | cons a t =>
                  have hmx : -1 ≤ mx a t ∧ mx a t ≤ 9 * p := by
                    rcases mx_mem_or a t with e | e
                    · rw [e]; exact HKB.out a (by simp)
                    · exact HKB.out _ (List.mem_cons_of_mem _ e)
                  have HV : Hid (movesP l r = (l.length - mx a t, 0)) := by
                    show movesP l r = _
                    unfold movesP
                    rw [if_neg (by rw [H0.out]; simp), HQ.out, HP.out, Int.toNat_natCast, Int.toNat_natCast, ← HM.out, hK]; rfl
                  have hmx0 := hmx.1
                  have hmx1 : mx a t ≤ 81 := by omega
                  clear hmx hKl hK
                  refine (max_any _ M ck a t wr HO4.out.rd).mono ?_; rintro e w' ⟨rfl, rfl⟩
                  generalize mx a t = z at HV hmx0 hmx1 ⊢
                  have HBE := HBE4
                  clear HBE4 HBK4 HO4
                  go_wp2
                  go_ret2
                  refine ⟨?_, HBE.out⟩
                  rw [HV.out, HL.out]
                  rfl
  · have HV : Hid (movesP l r = (0, chk2 l r)) := by show movesP l r = _; unfold movesP; rw [if_pos h0]
    generalize chk2 l r = z at c1 h0 HV
    have HC := Lib.hid c1
    have g1 : (z == 0) = false := by simpa using h0
    have g2 : (z != 0) = true := by simpa using h0
    clear c1 h0
    go_enter Tryd.func23, Tryd.ntmps23
    go_wp2_with fail
    refine HC.out.mono ?_; rintro e w' ⟨rfl, rfl⟩
    go_wp2
    go_ret2
    refine ⟨?_, Below.refl _ _⟩
    rw [HV.out]
    rfl
end Go.Proofs.YtooepkpgffpcjaaDoor
