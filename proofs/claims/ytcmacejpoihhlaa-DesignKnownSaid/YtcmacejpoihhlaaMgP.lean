/- Walks: in how many ways a partition comes. Walks: in how many ways a partition comes: the program's chance. Walks: Counted and Rest of the program: what counting tells. Walks: stocks: the reference's sum, choices, check and ways. Walks: in how many ways a partition comes, by the reference. -/
import Derived.Laws.CopyRow
import Derived.Laws.CopyOwn
import Derived.Lib.SlBuf
import Derived.Deep.WholeRow
import Derived.Test.YtcmacejpoihhlaaMgJ
import Derived.Test.YtcmacejpoihhlaaMgB
import Derived.Test.YtcmacejpoihhlaaMgE
import Derived.Test.YtcmacejpoihhlaaMgA
namespace Go.Proofs.Ytcmacejpoihhlaa
open Go.RowKit

theorem leftSize : (Try.prog.info? 94).map (·.size) = some 6 := by kernel_rfl
theorem ints6_size {l : List Int} (h : l.length = 6) : (ints l).toArray.size = 6 := by simp [h]
theorem left_size {l : List Int} (h : l.length = 6) : (Try.prog.info? 94).map (·.size) = some (ints l).toArray.size := by rw [ints6_size h]; exact leftSize
theorem ints_one {l : List Int} : (ints l).toArray.all (·.oneCell') = true := by simp only [List.all_toArray]; exact List.all_eq_true.2 (ints_oneCell' l)
def zero6 : Array Value := #[.int .i64 0, .int .i64 0, .int .i64 0, .int .i64 0, .int .i64 0, .int .i64 0]

set_option maxHeartbeats 1000000 in
set_option maxRecDepth 100000 in
theorem leftOf_any (A : Option Addr) (n c : Nat) (l : List Int) (w : World) (h : RdI w A n l) (hn : n ≤ 6) (hn1 : 1 ≤ n) :
    Calls Try.prog 85 #[.slice A n c] w fun e w' => e = .returned (.agg (ints (pad6 l)).toArray) ∧ Below w.heap.size w w' := by
  have hlen := h.len
  have h6 := pad6_len (c := l) (by omega)
  go_enter Try.func85, Try.ntmps85
  go_upto_region 2 with fail
  have HA := Lib.hid ((h.alloc (.cells zero6 94)).alloc (.cells zero6 94))
  have HB := Lib.hid (((Below.refl _ w).alloc (Nat.le_refl _) (.cells zero6 94)).alloc (by simp) (.cells zero6 94))
  have hx0 := (Blk.new w 94 zero6).alloc (.cells zero6 94)
  have hx1 := Blk.new (w.alloc (.cells zero6 94)) 94 zero6
  rw [show (w.alloc (.cells zero6 94)).heap.size = w.heap.size + 1 by simp] at hx1
  have HX0 := Lib.hid hx0
  have HX1 := Lib.hid hx1
  clear hx0 hx1 h
  generalize hW : (w.alloc (.cells zero6 94)).alloc (.cells zero6 94) = W at HA HB HX0 HX1
  unfold zero6 at hW
  rw [hW]
  clear hW
  obtain ⟨ad, rfl, hadl, hcells⟩ := HA.out.1.2.2 (by omega)
  have hrow : (zero6.toList.take 0 ++ ints l ++ zero6.toList.drop (0 + (ints l).length)).toArray = (ints (pad6 l)).toArray := by
    have e2 : zero6.toList = List.replicate 6 (.int .i64 0) := rfl
    rw [e2, List.take_zero, List.nil_append, List.drop_replicate, Nat.zero_add, ints_length]
    unfold pad6
    rw [ints_append]
    have e3 : ints (List.replicate (6 - l.length) 0) = List.replicate (6 - l.length) (.int .i64 0) := by unfold ints; rw [List.map_replicate]
    rw [e3]
  have hcp := run_copy_row (P := Try.prog) W 22 22 3 3 (w.heap.size + 1) 0 6 6 ad n c _ 94 (ints l) Try.underlying22 (by kernel_rfl) HX1.out (by rw [ints_length, hlen]; exact (Nat.min_eq_left hn).symm) (fun j v hv => hcells j v hv) (by rw [ints_length]; show _ ≤ 6; omega) (ints_oneCell' l)
  rw [hrow] at hcp
  have HX2 : Hid (Blk (W.setRow (w.heap.size + 1) (ints (pad6 l)).toArray) (w.heap.size + 1) 94 (ints (pad6 l)).toArray) := Lib.hid (setRow_heap W _ _ _ _ _ HX1.out)
  have HX3 : Hid (Blk (W.setRow (w.heap.size + 1) (ints (pad6 l)).toArray) w.heap.size 94 zero6) := Lib.hid ((setRow_other W _ _ _ (by omega)).trans HX0.out)
  have HB3 := Lib.hid (below_setRow HB.out (Nat.le_succ w.heap.size) (ints (pad6 l)).toArray)
  have hold : zero6.size = (ints (pad6 l)).toArray.size := by rw [ints6_size h6]; rfl
  have hsz := left_size h6
  clear hrow hcells HA HB HX0 HX1
  go_upto_region 3 with (at_builtin; refine Lib.wpList_copy_run _ rfl _ _ _ _ rfl _ _ rfl rfl hcp ?_)
  clear hcp
  generalize W.setRow (w.heap.size + 1) (ints (pad6 l)).toArray = W2 at HX2 HX3 HB3 ⊢
  go_wp2_with (first | (refine wpList_load_row rfl _ (.tmp 3) rfl (w.heap.size + 1) rfl _ _ _ _ HX2.out Try.underlying94 rfl hsz ?_) | (refine wpList_store_row rfl _ (.tmp 2) (.tmp 7) rfl w.heap.size (ints (pad6 l)).toArray rfl rfl _ _ HX3.out hsz hold ints_one ?_))
  exact bodyPost_ret (v := .agg (ints (pad6 l)).toArray) (results_cell_row rfl _ _ w.heap.size 94 _ (0, 0) _ rfl (setRow_heap W2 w.heap.size _ _ _ _ HX3.out) Try.underlying94 rfl hsz) rfl ⟨rfl, below_setRow HB3.out (Nat.le_refl _) _⟩

theorem six {l : List Int} (h : l.length = 6) : ∃ a b c d e f, l = [a, b, c, d, e, f] := by
  match l, h with
  | [a, b, c, d, e, f], _ => exact ⟨a, b, c, d, e, f, rfl⟩
theorem run_index_left {l : List Int} {k : Nat} {v : Int} (hk : l[k]? = some v) (h6 : k < 6) (wx : World) : (Instr.index 94 (.agg (ints l).toArray) (.int .i64 (k : Int))).run Try.prog wx = .ok (.int .i64 v) wx := by
  have hix : (ints l).toArray[k]? = some (.int .i64 v) := ints_arr_get hk
  have hn : (0 : Int) ≤ k ∧ (k : Int) < ((6 : Nat) : Int) := by omega
  have hu : Try.prog.underlying 94 = some (.array 6 3) := Try.underlying94
  simp [Instr.index, run_underlying hu, asIntOf, go_sem]
  simp at hix
  rw [if_pos (by omega)]
  simp [hix, go_sem]
def waysV (bs gy : Nat) : Value := .func (.func 119) #[] #[.pointer (some ⟨bs, 0, none⟩), .pointer (some ⟨gy, 0, none⟩)]

set_option maxHeartbeats 2000000 in
set_option maxRecDepth 100000 in
theorem waysRec_any (A : Option Addr) (n c bs gy : Nat) (sizes : List Int) (hs0 : ∀ s ∈ sizes, 0 ≤ s) (hs9 : sumN sizes ≤ 9) (hn9 : n ≤ 9) : ∀ (ss pre l : List Int) (w : World), sizes = pre ++ ss → l.length = 6 → Kinds l → RdI w A n sizes →
    bs < w.heap.size → gy < w.heap.size → w.cell? ⟨bs, 0, none⟩ = some (.slice A n c) → w.cell? ⟨gy, 0, none⟩ = some (waysV bs gy) →
    Calls Try.prog 119 #[.agg (ints l).toArray, .int .i64 (pre.length : Int), .pointer (some ⟨bs, 0, none⟩), .pointer (some ⟨gy, 0, none⟩)] w (NumM (chanceP ss l) w) := by
  intro ss
  induction ss with
  | nil =>
    intro pre l w he h6 hK h hbs hgy hcs hcy
    rw [List.append_nil] at he
    subst he
    have hlen := h.len
    have HB := Lib.hid ((Below.refl _ w).alloc (Nat.le_refl _) (.cells (ints l).toArray 94))
    have hcs' := (World.cell?_alloc_lt w (.cells (ints l).toArray 94) ⟨bs, 0, none⟩ hbs).trans hcs
    clear h hK hs0 hs9
    rw [hlen]
    go_enter Try.func119, Try.ntmps119
    go_wp2
    go_ret
    exact ⟨rfl, HB.out⟩
  | cons s ss ih =>
    intro pre l w he h6 hK h hbs hgy hcs hcy
    have hlen := h.len
    have hln : pre.length < n := by rw [he] at hlen; simp at hlen; omega
    obtain ⟨ad, s', rfl, hadl, hsg, _, hsc⟩ := h.at_ hln
    obtain rfl : s' = s := by
      have := hsg.out
      rw [he, List.getElem?_append_right (Nat.le_refl _), Nat.sub_self] at this
      simp at this; exact this.symm
    have hsnn := hs0 s' (by rw [he]; simp)
    have hsum : sumN (s' :: ss) ≤ 9 := by
      have key : ∀ a b : List Int, sumN (a ++ b) = sumN a + sumN b := by
        intro a b
        induction a with
        | nil => simp [sumN]
        | cons x a iha => simp only [List.cons_append, sumN_cons, iha]; omega
      have := key pre (s' :: ss)
      rw [← he] at this
      omega
    have hln2 : (s' :: ss).length ≤ 9 := by rw [he] at hlen; simp at hlen ⊢; omega
    have hss : ∀ x ∈ s' :: ss, 0 ≤ x := fun x hx => hs0 x (by rw [he]; exact List.mem_append_right _ hx)
    have hbd9 := chBd_9 hln2 hsum
    obtain ⟨sn, rfl⟩ : ∃ sn : Nat, s' = sn := ⟨s'.toNat, by omega⟩
    have hsn9 : sn ≤ 9 := by rw [sumN_cons] at hsum; omega
    have IH := Lib.hid ih
    have HE := Lib.hid he
    have HSS := Lib.hid hss
    have HBD := Lib.hid hbd9
    have HCP : Hid (chanceP ((sn : Int) :: ss) l = chanceTo sn ss l 6) := Lib.hid (by rw [chanceP_cons, h6])
    obtain ⟨b, hb⟩ : ∃ b, pre.length = b := ⟨_, rfl⟩
    rw [hb] at hsc hln ⊢
    have HBL := Lib.hid hb
    have HKK := Lib.hid hK
    have HS0 := Lib.hid hs0
    clear ih he hss hbd9 hsum hln2 hsg hs0 hs9 hb hK
    have hlb : (b : Int) < n := by omega
    have g0 : ((b : Int) == n) = false := by simp; omega
    go_enter Try.func119, Try.ntmps119
    go_upto_region 1 with fail
    have HR := Lib.hid (h.alloc (.cells (ints l).toArray 94))
    have HB := Lib.hid ((Below.refl _ w).alloc (Nat.le_refl _) (.cells (ints l).toArray 94))
    have HX := Lib.hid (Blk.new w 94 (ints l).toArray)
    have c1 := (World.cell?_alloc_lt w (.cells (ints l).toArray 94) ⟨bs, 0, none⟩ hbs).trans hcs
    have c2 := (World.cell?_alloc_lt w (.cells (ints l).toArray 94) ⟨gy, 0, none⟩ hgy).trans hcy
    have c3 := (World.cell?_alloc_lt w (.cells (ints l).toArray 94) (ad.add b) (by rw [block_of_add]; exact hadl)).trans hsc
    have hWs : w.heap.size < (w.alloc (.cells (ints l).toArray 94)).heap.size := by simp
    clear h
    have hsz6 := left_size h6
    generalize w.alloc (.cells (ints l).toArray 94) = W at HR HB HX c1 c2 c3 hWs ⊢
    go_wp2_with (first | (refine wpList_load_row rfl _ (.tmp 4) rfl w.heap.size rfl _ _ _ _ HX.out Try.underlying94 rfl hsz6 ?_))
    have hbsW : bs < W.heap.size := by omega
    have hgyW : gy < W.heap.size := by omega
    have hadW : ad.block < W.heap.size := by omega
    go_loopw [7, 16] (fun nn i wr => ∃ k : Nat, k ≤ 6 ∧ i = .int .i64 k ∧ nn = .int .i64 (chanceTo sn ss l k) ∧ Below W.heap.size W wr) (fun _ i _ => 6 - (intOf i).toNat)
    case atStart => exact ⟨0, by omega, rfl, rfl, Below.refl _ _⟩
    case round =>
      obtain ⟨k, hk, rfl, rfl, hbel⟩ := hrel
      have hbd0 := chanceTo_bd HSS.out HKK.out k (by rw [h6]; exact hk)
      obtain ⟨nn, hnn⟩ : ∃ nn, chanceTo sn ss l k = nn := ⟨_, rfl⟩
      rw [hnn] at hbd0 ⊢
      by_cases hlt : k < 6
      · obtain ⟨v, hv⟩ : ∃ v, l[k]? = some v := ⟨_, get_getD (by rw [h6]; exact hlt)⟩
        have q := run_index_left hv hlt
        have hv9 := HKK.out.2 v (List.mem_of_getElem? hv)
        have HVD := Lib.hid (getD_of_get (d := 0) hv)
        have HR1 := Lib.hid (HR.out.below hbel)
        have HX1 := Lib.hid (HX.out.below hbel)
        have HB1 := Lib.hid hbel
        have hszr := hbel.size
        have e1 := (hbel.cell (p := ⟨bs, 0, none⟩) hbsW).trans c1
        have e2 := (hbel.cell (p := ⟨gy, 0, none⟩) hgyW).trans c2
        have e3 := (hbel.cell (p := ad.add b) (by rw [block_of_add]; exact hadW)).trans c3
        clear hbel hv
        by_cases hsv : (sn : Int) ≤ v
        · go_upto_region 8 with fail
          have HF1 : Hid (chanceTo sn ss l (k + 1) = nn + fallN v sn * chanceP ss (l.set k 0)) := Lib.hid (by rw [chanceTo_succ, hnn]; unfold chStep; rw [HVD.out, if_pos hsv, Int.toNat_natCast])
          have hft := chance_term (s := (sn : Int)) (x := chanceP ss (l.set k 0)) (B := chBd ss) (by omega) hsv hv9.2 (chanceP_bd ss (l.set k 0) (fun x hx => HSS.out x (by simp [hx])) (HKK.out.set k))
          rw [Int.toNat_natCast] at hft
          have hbd1 := chanceTo_bd HSS.out HKK.out (k + 1) (by rw [h6]; exact hlt)
          rw [HF1.out] at hbd1
          have hK2 := HKK.out.set k
          have hl2 : (l.set k 0).length = 6 := by rw [List.length_set]; exact h6
          have HFA : Hid (∀ W', Calls Try.prog 79 #[.int .i64 v, .int .i64 sn] W' (Num (fallN v sn) W')) := Lib.hid (fun W' => falling_any v sn W' hsn9 hsv (by omega))
          obtain ⟨F, hF⟩ : ∃ F, fallN v sn = F := ⟨_, rfl⟩
          obtain ⟨C, hC⟩ : ∃ C, chanceP ss (l.set k 0) = C := ⟨_, rfl⟩
          rw [hF] at HF1 hft hbd1 HFA
          rw [hC] at HF1 hft hbd1
          have hbdn := HBD.out
          have hw2 : IntKind.i64.wrap (nn + F * C) = nn + F * C := IntWalk.i64_in _ (by omega)
          have hw1 : IntKind.i64.wrap (F * C) = F * C := IntWalk.i64_in _ (by omega)
          have hw3 : IntKind.i64.wrap ((b : Int) + 1) = (b : Int) + 1 := IntWalk.i64_in _ (by omega)
          have hb1 : (0 : Int) ≤ (b : Int) + 1 := by omega
          have HC := Lib.hid hC
          clear hft hbd1 hbdn hF hC hnn hbd0
          have hnew : Hid (Blk (wr.alloc (.cells zero6 94)) wr.heap.size 94 zero6) := Lib.hid (Blk.new _ _ _)
          have hX2 : Hid (Blk (wr.alloc (.cells zero6 94)) w.heap.size 94 (ints l).toArray) := Lib.hid (HX1.out.alloc _)
          have hold : zero6.size = (ints l).toArray.size := by rw [ints6_size h6]; rfl
          have HBN := Lib.hid (below_setRow ((Below.refl _ wr).alloc (Nat.le_refl _) (.cells zero6 94)) (Nat.le_refl _) (ints l).toArray)
          have HN1 : Hid (Blk ((wr.alloc (.cells zero6 94)).setRow wr.heap.size (ints l).toArray) wr.heap.size 94 (ints l).toArray) := Lib.hid (setRow_heap _ _ _ _ _ _ hnew.out)
          go_upto_region 9 with (first | (refine wpList_load_row rfl _ (.tmp 4) rfl w.heap.size rfl _ _ _ _ HX1.out Try.underlying94 rfl hsz6 ?_) | (refine wpList_store_row rfl _ (.tmp 10) (.tmp 26) rfl wr.heap.size (ints l).toArray rfl rfl _ _ hnew.out hsz6 hold ints_one ?_))
          generalize hW1 : (wr.alloc (.cells zero6 94)).setRow wr.heap.size (ints l).toArray = W1 at HBN HN1
          unfold zero6 at hW1
          rw [hW1]
          clear hW1 hnew hX2 hold
          have hgs : wr.heap.size < W1.heap.size := HN1.out.lt
          have n0 : W1.cell? ⟨wr.heap.size, k, none⟩ = some (.int .i64 v) := by rw [HN1.out.cell]; exact ints_arr_get (by have := HVD.out; rw [← this]; exact get_getD (by rw [h6]; exact hlt))
          have nf := HN1.out.frozen k
          have HN2 : Hid (Blk (W1.setCell ⟨wr.heap.size, k, none⟩ (.int .i64 0)) wr.heap.size 94 (ints (l.set k 0)).toArray) := Lib.hid (by rw [← ints_arr_set]; exact HN1.out.set_ _ _)
          have HBN2 := Lib.hid (HBN.out.setCell (p := ⟨wr.heap.size, k, none⟩) (Nat.le_refl _) (.int .i64 0))
          go_upto_region 10 with fail
          generalize W1.setCell ⟨wr.heap.size, k, none⟩ (.int .i64 0) = W2 at HN2 HBN2 ⊢
          clear HN1 HBN hgs n0 nf
          have hgs : wr.heap.size < W2.heap.size := HN2.out.lt
          obtain ⟨y0, y1, y2, y3, y4, y5, hy⟩ := six hl2
          rw [hy] at HC hK2 HN2
          have hbs2 : bs < wr.heap.size := by omega
          have hgy2 : gy < wr.heap.size := by omega
          have had2 : ad.block < wr.heap.size := by omega
          have m1 := (HBN2.out.cell (p := ⟨bs, 0, none⟩) hbs2).trans e1
          have m2 := (HBN2.out.cell (p := ⟨gy, 0, none⟩) hgy2).trans e2
          have m3 := (HBN2.out.cell (p := ad.add b) (by rw [block_of_add]; exact had2)).trans e3
          unfold waysV at m2
          have p0 : W2.cell? ⟨wr.heap.size, 0, none⟩ = some (.int .i64 y0) := by rw [HN2.out.cell]; rfl
          have p1 : W2.cell? ⟨wr.heap.size, 1, none⟩ = some (.int .i64 y1) := by rw [HN2.out.cell]; rfl
          have p2 : W2.cell? ⟨wr.heap.size, 2, none⟩ = some (.int .i64 y2) := by rw [HN2.out.cell]; rfl
          have p3 : W2.cell? ⟨wr.heap.size, 3, none⟩ = some (.int .i64 y3) := by rw [HN2.out.cell]; rfl
          have p4 : W2.cell? ⟨wr.heap.size, 4, none⟩ = some (.int .i64 y4) := by rw [HN2.out.cell]; rfl
          have p5 : W2.cell? ⟨wr.heap.size, 5, none⟩ = some (.int .i64 y5) := by rw [HN2.out.cell]; rfl
          have HI : Hid (Calls Try.prog 119 #[.agg #[.int .i64 y0, .int .i64 y1, .int .i64 y2, .int .i64 y3, .int .i64 y4, .int .i64 y5], .int .i64 ((b : Int) + 1), .pointer (some ⟨bs, 0, none⟩), .pointer (some ⟨gy, 0, none⟩)] W2.drew (NumM C W2.drew)) := Lib.hid (by
            have := IH.out (pre ++ [(sn : Int)]) [y0, y1, y2, y3, y4, y5] W2.drew (by rw [HE.out]; simp) rfl hK2 (HR1.out.below HBN2.out.drew) (by show bs < W2.heap.size; omega) (by show gy < W2.heap.size; omega) m1 (by unfold waysV; exact m2)
            rw [List.length_append, HBL.out, HC.out] at this
            exact this)
          have k1 : bs < W2.drew.heap.size := by show bs < W2.heap.size; omega
          have k2 : gy < W2.drew.heap.size := by show gy < W2.heap.size; omega
          have k3 : (ad.add b).block < W2.drew.heap.size := by rw [block_of_add]; show ad.block < W2.heap.size; omega
          have k4 : wr.heap.size < W2.drew.heap.size := by show wr.heap.size < W2.heap.size; omega
          clear IH HR1 HN2 hK2 hl2 HC hy HX1 HVD e1 e2 e3
          go_region_held3 (fun w' => (w'.cell? ⟨bs, 0, none⟩ = some (.slice (some ad) n c) ∧ w'.cell? (ad.add b) = some (.int .i64 sn)) ∧ w'.cell? ⟨gy, 0, none⟩ = some (.func (.func 119) #[] #[.pointer (some ⟨bs, 0, none⟩), .pointer (some ⟨gy, 0, none⟩)]) ∧ w'.cell? ⟨wr.heap.size, 0, none⟩ = some (.int .i64 y0) ∧ w'.cell? ⟨wr.heap.size, 1, none⟩ = some (.int .i64 y1) ∧ w'.cell? ⟨wr.heap.size, 2, none⟩ = some (.int .i64 y2) ∧ w'.cell? ⟨wr.heap.size, 3, none⟩ = some (.int .i64 y3) ∧ w'.cell? ⟨wr.heap.size, 4, none⟩ = some (.int .i64 y4) ∧ w'.cell? ⟨wr.heap.size, 5, none⟩ = some (.int .i64 y5)) (first | exact ⟨⟨m1, m3⟩, m2, p0, p1, p2, p3, p4, p5⟩ | exact ⟨⟨(hcl.cell k1).trans m1, (hcl.cell k3).trans m3⟩, (hcl.cell k2).trans m2, (hcl.cell k4).trans p0, (hcl.cell k4).trans p1, (hcl.cell k4).trans p2, (hcl.cell k4).trans p3, (hcl.cell k4).trans p4, (hcl.cell k4).trans p5⟩) (first
            | (go_at_call 79; refine (HFA.out _).mono ?_; rintro e w9 ⟨rfl, rfl⟩)
            | (go_at_call 119; refine HI.out.mono ?_; rintro e wc ⟨rfl, hcl⟩))
          have HZ := Lib.hid (HB1.out.trans ((HBN2.out.drew.trans (hcl.mono (by show wr.heap.size ≤ W2.heap.size; omega))).mono hszr))
          clear hcl HBN2
          go_wp2
          go_roundw
          case rel => exact ⟨k + 1, by omega, by go_num, by rw [HF1.out], HZ.out⟩
          case measure => simp [intOf]; omega
        · have HN : Hid (chanceTo sn ss l (k + 1) = nn) := Lib.hid (by rw [chanceTo_succ, hnn]; unfold chStep; rw [HVD.out, if_neg hsv])
          have hg : ¬((sn : Int) ≤ v) := hsv
          clear hnn hsv
          go_wp2
          go_roundw
          case rel => exact ⟨k + 1, by omega, by go_num, by rw [HN.out], HB1.out⟩
          case measure => simp [intOf]; omega
      · obtain rfl : k = 6 := by omega
        have HN : Hid (chanceP ((sn : Int) :: ss) l = nn) := Lib.hid (HCP.out.trans hnn)
        clear hnn
        go_wp2
        go_ret
        exact ⟨ret_int HN.out.symm, HB.out.trans (hbel.mono HB.out.size)⟩
end Go.Proofs.Ytcmacejpoihhlaa

namespace Go.Proofs.Ytcmacejpoihhlaa
open Go.RowKit

set_option maxHeartbeats 2000000 in
set_option maxRecDepth 100000 in
theorem chance_any (A : Option Addr) (n c : Nat) (p l : List Int) (w : World) (h : RdI w A n p) (hk : chk p = 0) (h6 : l.length = 6) (hK : Kinds l) :
    Calls Try.prog 84 #[.agg (ints l).toArray, .slice A n c] w (NumM (chanceP (sizesOf p) l) w) := by
  have hlen := h.len
  have hck := chk_ok hk
  have hb9 := blk_le9 hk
  have hsz6 := left_size h6
  obtain ⟨a, r, hp⟩ : ∃ a r, p = a :: r := by
    cases p with
    | nil => simp at hck
    | cons a r => exact ⟨a, r, rfl⟩
  have HMX : Hid (mx a r + 1 = blk p) := Lib.hid (by rw [hp]; exact (blk_mx a r (hp ▸ chk_small hk)).symm)
  obtain ⟨m, hm⟩ : ∃ m : Nat, blk p = m := ⟨(blk p).toNat, by omega⟩
  have hm1 : 1 ≤ m := by omega
  have hm9 : m ≤ 9 := by omega
  have hn9 : n ≤ 9 := by omega
  have HSO := Lib.hid (fun k hk' => sizes_ok (p := p) (m := m) (fun v hv => by have h1 := hck.2.2.1 v hv; have h2 := lt_blk hv; omega) k hk')
  have HPV : Hid (∀ v ∈ p, 0 ≤ v ∧ v < m) := Lib.hid (fun v hv => by have h1 := hck.2.2.1 v hv; have h2 := lt_blk hv; omega)
  have HM := Lib.hid hm
  have HL := Lib.hid hlen
  have hmx : mx a r = (m : Int) - 1 := by have := HMX.out; omega
  obtain ⟨i0, hi0, hz0, hz1, hz2⟩ := info_parts intInfo
  clear hb9 hck hk hm hlen
  go_enter Try.func84, Try.ntmps84
  go_upto_region 1 with fail
  have HR := Lib.hid (h.alloc (.cells (ints l).toArray 94))
  have HB := Lib.hid ((Below.refl _ w).alloc (Nat.le_refl _) (.cells (ints l).toArray 94))
  have HX := Lib.hid (Blk.new w 94 (ints l).toArray)
  have hWs : (w.alloc (.cells (ints l).toArray 94)).heap.size = w.heap.size + 1 := by simp
  clear h
  generalize w.alloc (.cells (ints l).toArray 94) = W at HR HB HX hWs ⊢
  have HPA := Lib.hid hp
  have hMax := max_any A n c a r W (hp ▸ HR.out)
  rw [hmx] at hMax
  go_upto_region 2 with (first | (go_at_call 96; refine hMax.mono ?_; rintro e w' ⟨rfl, rfl⟩) | (at_make; go_must (refine wpList_make_full W rfl (.tmp 11) (.tmp 11) 22 rfl (w.heap.size + 1) 3 i0 (.int .i64 0) 1 Try.underlying22 hi0 hz0 hz1 .i64 .i64 m m m rfl rfl rfl rfl (by rw [hz2]; omega) (by unfold maxLen; omega) (by omega) ?_); intro w3 hown hg3))
  have HO3 : Hid (OwnI w3 (w.heap.size + 1) 3 (some ⟨w.heap.size + 1, 0, none⟩) m m (sizesTo p m 0)) := by
    refine ⟨⟨?_, by omega⟩, fun v hv => ?_⟩
    · rw [hWs, show (madeCells (Value.int .i64 0).cells (m * 1)).toList = ints (sizesTo p m 0) from by rw [Nat.mul_one]; show (madeCells #[Value.int .i64 0] m).toList = _; rw [toList_madeCells_one]; simp [ints, sizesTo]] at hown
      exact hown
    · have := (HSO.out 0 (by omega)).pos v hv
      exact I64.small (by omega)
  have HBW3 := Lib.hid ((Below.refl _ W).grown hg3 (Nat.le_refl _) (by simp))
  have hbs := HBW3.out.size
  obtain ⟨bs, hbse⟩ : ∃ bs, w3.heap.size = bs := ⟨_, rfl⟩
  have HO4 := Lib.hid (HO3.out.alloc (.cells #[.slice (some ⟨w.heap.size + 1, 0, none⟩) m m] 22))
  have HX4 := Lib.hid (Blk.new w3 22 #[.slice (some ⟨w.heap.size + 1, 0, none⟩) m m])
  have HB4 := Lib.hid (HBW3.out.alloc hbs (.cells #[.slice (some ⟨w.heap.size + 1, 0, none⟩) m m] 22))
  have hlt3 : w.heap.size + 1 < w3.heap.size := by
    have := (HO3.out.1.block (k := w.heap.size + 1) rfl).2
    omega
  rw [hbse] at HX4 hlt3 ⊢
  clear hown hg3 hi0 hz0 hz1 hz2 HO3 HBW3 hbs hMax hp hmx
  generalize w3.alloc (.cells #[.slice (some ⟨w.heap.size + 1, 0, none⟩) m m] 22) = w4 at HO4 HX4 HB4 ⊢
  clear hbse
  go_wp2_with fail
  go_loopw [15] (fun i wr => ∃ k : Nat, k ≤ n ∧ i = .int .i64 k ∧ OwnI wr (w.heap.size + 1) 3 (some ⟨w.heap.size + 1, 0, none⟩) m m (sizesTo p m k) ∧ Blk wr bs 22 #[.slice (some ⟨w.heap.size + 1, 0, none⟩) m m] ∧ Below W.heap.size W wr) (fun i _ => n - (intOf i).toNat)
  case atStart => exact ⟨0, by omega, rfl, HO4.out, HX4.out, HB4.out⟩
  case round =>
    obtain ⟨k, hk, rfl, hown, hblk, hbel⟩ := hrel
    have HO := Lib.hid hown
    have HXS := Lib.hid hblk
    have HBW := Lib.hid hbel
    have HRR := Lib.hid (HR.out.below hbel)
    have hbc : wr.cell? ⟨bs, 0, none⟩ = some (.slice (some ⟨w.heap.size + 1, 0, none⟩) m m) := by rw [HXS.out.cell]; rfl
    clear hown hblk hbel HO4 HX4 HB4
    by_cases hlt : k < n
    · obtain ⟨ad, v, rfl, _, hv, _, hcv⟩ := HRR.out.at_ hlt
      have hv2 := HPV.out v (List.mem_of_getElem? hv.out)
      obtain ⟨v, rfl⟩ : ∃ v' : Nat, v = v' := ⟨v.toNat, by omega⟩
      have hvm : v < m := by omega
      have hso := HSO.out k (by rw [HL.out]; exact hk)
      obtain ⟨u, hu⟩ : ∃ u, (sizesTo p m k)[v]? = some u := ⟨_, get_getD (by rw [hso.len]; exact hvm)⟩
      have hu0 := hso.pos u (List.mem_of_getElem? hu)
      have hcu := HO.out.cellAt hu
      have hfu := HO.out.frozenAt v
      have HN : Hid (sizesTo p m (k + 1) = (sizesTo p m k).set v (u + 1)) := Lib.hid (by rw [sizesTo_succ hv.out]; unfold sizeStep; rw [Int.toNat_natCast, getD_of_get hu])
      have HU : Hid (I64 (u + 1)) := Lib.hid (I64.small (by omega))
      have hu9 : u ≤ 9 := by omega
      have hu1 : 0 ≤ u := by omega
      clear hso hu hu0
      go_wp2
      go_roundw
      case rel => exact ⟨k + 1, by omega, by go_num, by rw [HN.out]; exact HO.out.stored v HU.out, HXS.out.far (p := ⟨w.heap.size + 1, v, none⟩) (by simp; omega) _, HBW.out.setCell (p := ⟨w.heap.size + 1, v, none⟩) (by rw [hWs]; simp) _⟩
      case measure => simp [intOf]; omega
    · obtain rfl : k = n := by omega
      have HSE : Hid (sizesTo p m k = sizesOf p) := Lib.hid (by unfold sizesOf; rw [HM.out, Int.toNat_natCast, HL.out])
      rw [HSE.out] at HO
      have hso := HSO.out k (by rw [HL.out]; exact Nat.le_refl _)
      rw [HSE.out] at hso
      go_upto_region 8 with fail
      have hgy := HBW.out.size
      have HO5 := Lib.hid (HO.out.alloc (.cells #[.nilFunc] 134))
      have HXS5 := Lib.hid (HXS.out.alloc (.cells #[.nilFunc] 134))
      have HXY := Lib.hid (Blk.new wr 134 #[.nilFunc])
      have HB5 := Lib.hid (HBW.out.alloc hgy (.cells #[.nilFunc] 134))
      have hbslt := HXS.out.lt
      obtain ⟨gy, hgye⟩ : ∃ gy, wr.heap.size = gy := ⟨_, rfl⟩
      rw [hgye] at HXY hgy hbslt ⊢
      clear HO HXS HBW hbc HRR
      generalize wr.alloc (.cells #[.nilFunc] 134) = w5 at HO5 HXS5 HXY HB5 ⊢
      clear hgye
      have hyc : w5.cell? ⟨gy, 0, none⟩ = some .nilFunc := by rw [HXY.out.cell]; rfl
      have hyf := HXY.out.frozen 0
      have q : (store (⟨gy, 0, none⟩ : Addr) (.func (.func 119) #[] #[.pointer (some ⟨bs, 0, none⟩), .pointer (some ⟨gy, 0, none⟩)])).run Try.prog w5 = .ok () (w5.setCell ⟨gy, 0, none⟩ (.func (.func 119) #[] #[.pointer (some ⟨bs, 0, none⟩), .pointer (some ⟨gy, 0, none⟩)])) := by
        rw [run_store _ _ _ _ _ rfl, hyc]
        simp [hyf]
      have HYW := Lib.hid (HXY.out.set_ 0 (waysV bs gy))
      have HO6 := Lib.hid (HO5.out.far (p := ⟨gy, 0, none⟩) (by simp; omega) (waysV bs gy))
      have HXS6 := Lib.hid (HXS5.out.far (p := ⟨gy, 0, none⟩) (by simp; omega) (waysV bs gy))
      have HB6 := Lib.hid (HB5.out.setCell (p := ⟨gy, 0, none⟩) hgy (waysV bs gy))
      clear HO5 HXS5 HB5 HXY
      go_upto_region 9 with fail
      generalize hw6 : w5.setCell ⟨gy, 0, none⟩ (waysV bs gy) = w6 at HYW HO6 HXS6 HB6
      unfold waysV at hw6
      rw [hw6]
      clear hw6 q hyc hyf
      have hbc : w6.cell? ⟨bs, 0, none⟩ = some (.slice (some ⟨w.heap.size + 1, 0, none⟩) m m) := by rw [HXS6.out.cell]; rfl
      have hyc : w6.cell? ⟨gy, 0, none⟩ = some (waysV bs gy) := by rw [HYW.out.cell]; rfl
      have HX6 := Lib.hid (HX.out.below HB6.out)
      have HI := Lib.hid (waysRec_any (some ⟨w.heap.size + 1, 0, none⟩) m m bs gy (sizesOf p) (fun s hs => (hso.pos s hs).1) (by rw [hso.sum]; exact hn9) hm9 (sizesOf p) [] l w6 rfl h6 hK HO6.out.rd HXS6.out.lt HYW.out.lt hbc hyc)
      unfold waysV at hyc
      go_wp2_with (first | (refine wpList_load_row rfl _ (.tmp 2) rfl w.heap.size rfl _ _ _ _ HX6.out Try.underlying94 rfl hsz6 ?_) | (go_at_call 119; refine HI.out.mono ?_; rintro e wc ⟨rfl, hcl⟩))
      go_ret
      exact ⟨rfl, HB.out.trans ((HB6.out.trans (hcl.mono HB6.out.size)).mono HB.out.size)⟩
end Go.Proofs.Ytcmacejpoihhlaa

namespace Go.Proofs.Ytcmacejpoihhlaa
open Go.RowKit

/-- three numbers, and new memory -/
def Num3M (v : Int × Int × Int) (w : World) (e : Ending) (w' : World) : Prop := e = .returned (.tuple #[.int .i64 v.1, .int .i64 v.2.1, .int .i64 v.2.2]) ∧ Below w.heap.size w w'
theorem int_max0 (v : Int) : (if 0 < v then v else 0) = max 0 v := by split <;> omega
theorem countedE_bad {c : List Int} {d : Int} (h : chkS c d ≠ 0) : countedE c d = (0, 0, chkS c d) := by unfold countedE; rw [if_pos h]
theorem countedE_ok {c : List Int} {d : Int} (h : chkS c d = 0) : countedE c d = (cntV (mostN c d) d, mostN c d, 0) := by unfold countedE; rw [if_neg (by omega)]
theorem cntV_sure {m d : Int} (h : m = d) : cntV m d = 1 := by unfold cntV; rw [if_pos h]
theorem cntV_never {m d : Int} (h : m ≠ d) (h0 : m = 0) : cntV m d = 2 := by unfold cntV; rw [if_neg h, if_pos h0]
theorem cntV_open {m d : Int} (h : m ≠ d) (h0 : m ≠ 0) : cntV m d = 3 := by unfold cntV; rw [if_neg h, if_neg h0]

set_option maxHeartbeats 1000000 in
set_option maxRecDepth 100000 in
theorem counted_any (A : Option Addr) (n c : Nat) (l : List Int) (d : Int) (w : World) (h : RdI w A n l) (hd : I64 d) : Calls Try.prog 40 #[.agg #[.slice A n c, .int .i64 d]] w (Num3M (countedE l d) w) := by
  have hlen := h.len
  go_enter Try.func40, Try.ntmps40
  go_upto_region 1 with fail
  have HA := Lib.hid (h.alloc (.cells #[.slice A n c, .int .i64 d] 24))
  have HB := Lib.hid ((Below.refl _ w).alloc (Nat.le_refl _) (.cells #[.slice A n c, .int .i64 d] 24))
  have HX := Lib.hid (Blk.new w 24 #[.slice A n c, .int .i64 d])
  clear h
  generalize w.alloc (.cells #[.slice A n c, .int .i64 d] 24) = W at HA HB HX ⊢
  have c0 : W.cell? ⟨w.heap.size, 0, none⟩ = some (.slice A n c) := by rw [HX.out.cell]; rfl
  have c1 : W.cell? ⟨w.heap.size, 1, none⟩ = some (.int .i64 d) := by rw [HX.out.cell]; rfl
  go_wp2_with fail
  refine (checkS_any A n c l d W HA.out hd).mono ?_; rintro e w2 ⟨rfl, hb⟩
  have HA2 := Lib.hid (HA.out.below hb)
  have HX2 := Lib.hid (HX.out.below hb)
  have HB2 := Lib.hid (HB.out.trans (hb.mono HB.out.size))
  have c02 : w2.cell? ⟨w.heap.size, 0, none⟩ = some (.slice A n c) := by rw [HX2.out.cell]; rfl
  have c12 : w2.cell? ⟨w.heap.size, 1, none⟩ = some (.int .i64 d) := by rw [HX2.out.cell]; rfl
  clear hb HX c0 c1 HX2
  by_cases hz : chkS l d = 0
  · have HV := Lib.hid (countedE_ok hz)
    have hk := chkS_ok hz
    have hmb := mostN_bd hz
    have hks := okCounts_mem hk.2.2.1
    have hmm := mxC_mem (l := l) (by omega) (fun v hv => by have := hks v hv; omega)
    have hm9 := hks _ hmm
    obtain ⟨M, hM⟩ : ∃ M, mostN l d = M := ⟨_, rfl⟩
    have hM2 : M = max 0 (d - sumI l + mxC l) := hM.symm
    obtain ⟨s, hse⟩ : ∃ s, sumI l = s := ⟨_, rfl⟩
    obtain ⟨x, hxe⟩ : ∃ x, mxC l = x := ⟨_, rfl⟩
    have HQ : Hid (∀ W', RdI W' A n l → Calls Try.prog 80 #[.slice A n c] W' (Num s W')) := Lib.hid (fun W' h' => by rw [← hse]; exact sumD_any A n c l W' h' (fun x hx => by have := hks x hx; omega) (by omega))
    have HMX : Hid (∀ W', RdI W' A n l → Calls Try.prog 96 #[.slice A n c] W' (Num x W')) := Lib.hid (fun W' h' => by
      match l, hlen, hk, hks, hxe, h' with
      | a :: r, _, _, hks, hxe, h' =>
        rw [← hxe, ← mxC_mx r (by have := hks a (by simp); omega)]
        exact (max_any A n c a r W' h').mono fun e w' h => ⟨h.1, h.2.symm⟩)
    rw [hM] at HV hmb
    rw [hxe] at hm9 hM2
    rw [hse] at hk hM2
    have hb : 1 ≤ d ∧ d ≤ 9 ∧ d ≤ s ∧ s ≤ 54 ∧ 1 ≤ x ∧ x ≤ 9 := ⟨by omega, by omega, by omega, by omega, by omega, by omega⟩
    have hd1 := hb.1
    have hd9 := hb.2.1
    have hw1 : IntKind.i64.wrap (d - s) = d - s := IntWalk.i64_in _ (by omega)
    have hw2 : IntKind.i64.wrap (d - s + x) = d - s + x := IntWalk.i64_in _ (by omega)
    have HM3 : Hid (max 0 (d - s + x) = M) := Lib.hid hM2.symm
    clear hk hks hmm hm9 hM hM2 hse hxe hb hlen
    rw [hz]
    clear hz
    go_upto_region 4 with fail
    go_quiet (first
      | (go_at_call 80; exact Calls.quiet_of_same (HQ.out _ (HA2.out.drewN _)))
      | (go_at_call 96; exact Calls.quiet_of_same (HMX.out _ (HA2.out.drewN _))))
    rw [HM3.out]
    clear hw1 hw2 HM3 HQ HMX
    have c13 : (w2.drewN nq).cell? ⟨w.heap.size, 1, none⟩ = some (.int .i64 d) := c12
    have HB3 := Lib.hid (below_drewN HB2.out nq)
    generalize w2.drewN nq = w3 at c13 HB3 ⊢
    by_cases h1 : M = d
    · subst h1
      rw [cntV_sure rfl] at HV
      go_wp2
      go_ret3
      rw [HV.out]; exact ⟨rfl, HB3.out⟩
    · by_cases h2 : M = 0
      · rw [cntV_never h1 h2] at HV
        subst h2
        have g1 : ((0 : Int) == d) = false := by simpa using h1
        clear h1
        go_wp2
        go_ret3
        rw [HV.out]; exact ⟨rfl, HB3.out⟩
      · rw [cntV_open h1 h2] at HV
        have g1 : (M == d) = false := by simpa using h1
        have g2 : (M == 0) = false := by simpa using h2
        clear h1 h2
        go_wp2
        go_ret3
        rw [HV.out]; exact ⟨rfl, HB3.out⟩
  · have HV := Lib.hid (countedE_bad hz)
    have g : (chkS l d != 0) = true := by simpa using hz
    clear hz
    generalize chkS l d = z at g HV ⊢
    go_wp2
    go_ret3
    rw [HV.out]; exact ⟨rfl, HB2.out⟩

/-! ### The least of some numbers -/
def mn (a : Int) (l : List Int) : Int := l.foldl min a
theorem mn_snoc (a : Int) (l : List Int) (v : Int) : mn a (l ++ [v]) = min (mn a l) v := by simp [mn]
theorem mn_neg (a : Int) (l : List Int) : decide (mn a l < 0) = negB (a :: l) := by
  unfold mn negB
  induction l generalizing a with
  | nil => rw [List.foldl_nil, List.any_cons, List.any_nil, Bool.or_false]
  | cons x l ih =>
    rw [List.foldl_cons, ih]
    simp only [List.any_cons]
    by_cases h1 : a < 0 <;> by_cases h2 : x < 0
    · rw [decide_eq_true h1, decide_eq_true h2, decide_eq_true (show min a x < 0 by omega)]; simp
    · rw [decide_eq_true h1, decide_eq_false h2, decide_eq_true (show min a x < 0 by omega)]; simp
    · rw [decide_eq_false h1, decide_eq_true h2, decide_eq_true (show min a x < 0 by omega)]; simp
    · rw [decide_eq_false h1, decide_eq_false h2, decide_eq_false (show ¬ min a x < 0 by omega)]; simp

set_option maxHeartbeats 400000 in
theorem min_any (A : Option Addr) (n c : Nat) (a : Int) (l : List Int) (w : World) (h : RdI w A n (a :: l)) :
    Calls Try.prog 103 #[.slice A n c] w fun e w' => e = .returned (.int .i64 (mn a l)) ∧ w = w' := by
  have hlen := h.len
  have hbd := h.bd
  have hn : 1 ≤ n := by rw [← hlen]; simp
  obtain ⟨ad, v, rfl, _, hv, _, hcell⟩ := h.at_ (show 0 < n by omega)
  obtain rfl : a = v := by simpa using hv.out
  rw [Addr.add_zero'] at hcell
  have HL := Lib.hid hlen; clear hlen hv
  go_enter Try.func103, Try.ntmps103
  go_wp2
  go_loop [3, 4] (fun nx i => ∃ (k : Nat), 1 ≤ k ∧ k ≤ n ∧ i = .int .i64 k ∧ nx = .int .i64 (mn a (l.take (k - 1)))) (fun _ i => n - (intOf i).toNat)
  case atStart => exact ⟨1, by omega, by omega, rfl, rfl⟩
  case round =>
    obtain ⟨k, hk1, hk, rfl, rfl⟩ := hrel
    by_cases hlt : k < n
    · obtain ⟨ad', v, e, _, hv, _, hcell⟩ := h.at_ hlt
      injection e with e; subst e
      have HB : Hid (mn a (l.take k) = min (mn a (l.take (k - 1))) v) := by
        obtain ⟨j, rfl⟩ : ∃ j, k = j + 1 := ⟨k - 1, by omega⟩
        have hv' : l[j]? = some v := by simpa using hv.out
        show mn a (l.take (j + 1)) = _
        rw [take_of_get hv', mn_snoc]; rfl
      obtain ⟨x, hx⟩ : ∃ x, x = mn a (l.take (k - 1)) := ⟨_, rfl⟩
      rw [← hx] at HB ⊢
      clear hx
      go_wp2
      go_round
      case rel => exact ⟨k + 1, by omega, by omega, by go_num, by rw [Nat.add_sub_cancel, HB.out]⟩
      case measure => simp [intOf]; omega
    · have HR : Hid (mn a (l.take (k - 1)) = mn a l) := by rw [List.take_of_length_le (by have := HL.out; simp at this; omega)]; rfl
      go_wp2
      go_ret
      exact ⟨ret_int HR.out, rfl⟩

/-! ### What may come next -/
/-- numbers, a number and an error -/
def IntsNumErr (x : List Int × Int × Int) (w : World) (e : Ending) (w' : World) : Prop :=
  ∃ A c, e = .returned (.tuple #[.slice A x.1.length c, .int .i64 x.2.1, .int .i64 x.2.2]) ∧ OwnI w' w.heap.size 3 A x.1.length c x.1 ∧ Below w.heap.size w w'
theorem IntsNumErr.none_ {w w' : World} {x : List Int × Int × Int} {z : Int} (h : x = ([], 0, z)) (hb : Below w.heap.size w w') : IntsNumErr x w (.returned (.tuple #[.slice none 0 0, .int .i64 0, .int .i64 z])) w' := by
  subst h; exact ⟨none, 0, rfl, OwnI.nil_ _ _ _, hb⟩
theorem RdI.of_blk {w : World} {g n : Nat} {t : TypeId} {l : List Int} (h : Blk w g t (ints l).toArray) (hn : l.length = n) (h4 : n ≤ 1000000) (hl : ∀ v ∈ l, I64 v) : RdI w (some ⟨g, 0, none⟩) n l :=
  ⟨⟨by simp [hn], by omega, fun _ => ⟨_, rfl, h.lt, fun j u hu => by
    show w.cell? (Addr.add ⟨g, 0, none⟩ j) = some u
    rw [show Addr.add ⟨g, 0, none⟩ j = ⟨g, j, none⟩ by unfold Addr.add; by_cases h0 : j = 0 <;> simp [h0]]
    rw [h.cell]; simpa using hu⟩⟩, hl⟩
theorem restE_chk {c seen : List Int} {d : Int} (h : chkS c d ≠ 0) : restE c d seen = ([], 0, chkS c d) := by unfold restE; rw [if_pos h]
theorem restE_full {c seen : List Int} {d : Int} (h : chkS c d = 0) (h1 : d < seen.length) : restE c d seen = ([], 0, 8) := by unfold restE; rw [if_neg (by omega), if_pos h1]
theorem restE_missing {c seen : List Int} {d : Int} (h : chkS c d = 0) (h1 : ¬d < seen.length) (h2 : inK c seen = false) : restE c d seen = ([], 0, 7) := by unfold restE; rw [if_neg (by omega), if_neg h1, if_pos h2]
theorem restE_over {c seen : List Int} {d : Int} (h : chkS c d = 0) (h1 : ¬d < seen.length) (h2 : inK c seen = true) (h3 : negB (restTo c seen seen.length) = true) : restE c d seen = ([], 0, 14) := by
  unfold restE; rw [if_neg (by omega), if_neg h1, if_neg (by rw [h2]; simp), if_pos h3]
theorem restE_all {c seen : List Int} {d : Int} (h : chkS c d = 0) (h2 : inK c seen = true) (h3 : negB (restTo c seen seen.length) = false) (h4 : (seen.length : Int) = d) : restE c d seen = ([], 0, 0) := by
  unfold restE; rw [if_neg (by omega), if_neg (by omega), if_neg (by rw [h2]; simp), if_neg (by rw [h3]; simp), if_pos h4]
theorem restE_some {c seen : List Int} {d : Int} (h : chkS c d = 0) (h1 : (seen.length : Int) < d) (h2 : inK c seen = true) (h3 : negB (restTo c seen seen.length) = false) :
    restE c d seen = (kindsOf (restTo c seen seen.length) 6, if (kindsOf (restTo c seen seen.length) 6).length = 1 then d - seen.length else 0, 0) := by
  unfold restE; rw [if_neg (by omega), if_neg (by omega), if_neg (by rw [h2]; simp), if_neg (by rw [h3]; simp), if_neg (by omega)]
theorem restTo_bd {c seen : List Int} (h6 : c.length ≤ 6) (hc : okCounts c = true) (j : Nat) : ∀ v ∈ restTo c seen j, -(j : Int) ≤ v ∧ v ≤ 9 := by
  intro v hv
  obtain ⟨m, hm, rfl⟩ := List.getElem_of_mem hv
  have hm6 : m < (pad6 c).length := by unfold restTo at hm; rwa [leftTo_len] at hm
  have hg := left_get (seen := seen) j m hm6
  have hk := (pad6_kinds h6 hc).at_ m
  have e : (leftTo (pad6 c) seen j).getD m 0 = (restTo c seen j)[m] := getD_of_get (List.getElem?_eq_getElem hm)
  rw [e] at hg
  have hle : (seen.take j).countP (fun k => k.toNat == m) ≤ j := Nat.le_trans (List.countP_le_length) (by simp; omega)
  omega
theorem restTo_len {c seen : List Int} (h6 : c.length ≤ 6) (j : Nat) : (restTo c seen j).length = 6 := by unfold restTo; rw [leftTo_len, pad6_len h6]
theorem restTo_succ {c seen : List Int} {j : Nat} {k : Int} (h : seen[j]? = some k) : restTo c seen (j + 1) = restStep (restTo c seen j) k := leftTo_succ h

set_option maxHeartbeats 2000000 in
set_option maxRecDepth 100000 in
theorem rest_any (A B : Option Addr) (n c m e0 : Nat) (l seen : List Int) (d : Int) (w : World) (h : RdI w A n l) (hs : RdI w B m seen) (hd : I64 d) : Calls Try.prog 50 #[.agg #[.slice A n c, .int .i64 d], .slice B m e0] w (IntsNumErr (restE l d seen) w) := by
  have hlen := h.len
  have hslen := hs.len
  have hmbd := hs.bd
  go_enter Try.func50, Try.ntmps50
  go_upto_region 1 with fail
  have HA := Lib.hid (h.alloc (.cells #[.slice A n c, .int .i64 d] 24))
  have HS := Lib.hid (hs.alloc (.cells #[.slice A n c, .int .i64 d] 24))
  have HB := Lib.hid ((Below.refl _ w).alloc (Nat.le_refl _) (.cells #[.slice A n c, .int .i64 d] 24))
  have HX := Lib.hid (Blk.new w 24 #[.slice A n c, .int .i64 d])
  clear h hs
  generalize w.alloc (.cells #[.slice A n c, .int .i64 d] 24) = W at HA HB HX HS ⊢
  have c0 : W.cell? ⟨w.heap.size, 0, none⟩ = some (.slice A n c) := by rw [HX.out.cell]; rfl
  have c1 : W.cell? ⟨w.heap.size, 1, none⟩ = some (.int .i64 d) := by rw [HX.out.cell]; rfl
  go_wp2_with fail
  refine (checkS_any A n c l d W HA.out hd).mono ?_; rintro e w2 ⟨rfl, hb⟩
  have HA2 := Lib.hid (HA.out.below hb)
  have HS2 := Lib.hid (HS.out.below hb)
  have HX2 := Lib.hid (HX.out.below hb)
  have HB2 := Lib.hid (HB.out.trans (hb.mono HB.out.size))
  have c02 : w2.cell? ⟨w.heap.size, 0, none⟩ = some (.slice A n c) := by rw [HX2.out.cell]; rfl
  have c12 : w2.cell? ⟨w.heap.size, 1, none⟩ = some (.int .i64 d) := by rw [HX2.out.cell]; rfl
  clear hb HX c0 c1 HA HS HB
  by_cases hz : chkS l d = 0
  · have hk := chkS_ok hz
    have HZ := Lib.hid hz
    have HOK := Lib.hid hk.2.2.1
    have hn1 : 1 ≤ n := by omega
    have hn6 : n ≤ 6 := by omega
    have hd1 : 1 ≤ d := by omega
    have hd9 : d ≤ 9 := by omega
    have HLN := Lib.hid hlen
    have HSL := Lib.hid hslen
    clear hk hlen hslen
    rw [hz]
    clear hz
    by_cases hfull : d < (m : Int)
    · have HV := Lib.hid (restE_full (seen := seen) HZ.out (by rw [HSL.out]; exact hfull))
      go_wp2
      go_ret3
      exact IntsNumErr.none_ HV.out HB2.out
    · have hmd : (m : Int) ≤ d := by omega
      have HNF : Hid (¬ d < (seen.length : Int)) := Lib.hid (by rw [HSL.out]; exact hfull)
      clear hfull
      go_wp2_with fail
      refine (leftOf_any A n c l w2 HA2.out hn6 hn1).mono ?_; rintro e w3 ⟨rfl, hb⟩
      have HA3 := Lib.hid (HA2.out.below hb)
      have HS3 := Lib.hid (HS2.out.below hb)
      have HX3 := Lib.hid (HX2.out.below hb)
      have HB3 := Lib.hid (HB2.out.trans (hb.mono HB2.out.size))
      clear hb HX2 c02 c12 HA2 HS2 HB2
      have h6 := pad6_len (c := l) (by rw [HLN.out]; exact hn6)
      have hsz6 := left_size h6
      have hold : zero6.size = (ints (pad6 l)).toArray.size := by rw [ints6_size h6]; rfl
      have hnew := Lib.hid (Blk.new w3 94 zero6)
      have HY4 : Hid (Blk ((w3.alloc (.cells zero6 94)).setRow w3.heap.size (ints (pad6 l)).toArray) w3.heap.size 94 (ints (restTo l seen 0)).toArray) := Lib.hid (setRow_heap _ _ _ _ _ _ hnew.out)
      have HB4 := Lib.hid (below_setRow ((Below.refl _ w3).alloc (Nat.le_refl _) (.cells zero6 94)) (Nat.le_refl _) (ints (pad6 l)).toArray)
      go_upto_region 7 with (refine wpList_store_row rfl _ (.tmp 8) (.tmp 25) rfl w3.heap.size (ints (pad6 l)).toArray rfl rfl _ _ hnew.out hsz6 hold ints_one ?_)
      generalize hW4 : (w3.alloc (.cells zero6 94)).setRow w3.heap.size (ints (pad6 l)).toArray = w4 at HY4 HB4
      unfold zero6 at hW4
      rw [hW4]
      obtain ⟨g, hg⟩ : ∃ g, w3.heap.size = g := ⟨_, rfl⟩
      have hgl : w.heap.size ≤ g := by rw [← hg]; exact HB3.out.size
      rw [hg] at HY4 HB4
      have HG := Lib.hid hg
      rw [hg]
      clear hW4 hnew hold hsz6 h6 hg
      have hfd : decide (d < (m : Int)) = false := decide_eq_false (by omega)
      have hm9 : m ≤ 9 := by omega
      have HBD : Hid (∀ j, ∀ v ∈ restTo l seen j, -(j : Int) ≤ v ∧ v ≤ 9) := Lib.hid (fun j => restTo_bd (by rw [HLN.out]; exact hn6) HOK.out j)
      have HRL : Hid (∀ j, (restTo l seen j).length = 6) := Lib.hid (fun j => restTo_len (by rw [HLN.out]; exact hn6) j)
      rw [hfd]
      go_wp2_with fail
      go_loopw [4, 5, 28] (fun s4 s5 i wr => s4 = .slice none 0 0 ∧ s5 = .int .i64 0 ∧ ∃ j : Nat, j ≤ m ∧ i = .int .i64 j ∧ inK l (seen.take j) = true ∧ Blk wr g 94 (ints (restTo l seen j)).toArray ∧ Below g w3 wr) (fun _ _ i _ => m - (intOf i).toNat)
      case atStart => exact ⟨rfl, rfl, 0, by omega, rfl, rfl, HY4.out, HB4.out⟩
      case round =>
        obtain ⟨rfl, rfl, j, hj, rfl, hin, hblk, hbel⟩ := hrel
        have HIN := Lib.hid hin
        have HY := Lib.hid hblk
        have HBE := Lib.hid hbel
        have hbel3 : Below w3.heap.size w3 wr := by rw [HG.out]; exact hbel
        have HS4 := Lib.hid (HS3.out.below hbel3)
        have HX4 := Lib.hid (HX3.out.below hbel3)
        have hgw : g ≤ wr.heap.size := by have := hbel3.size; rw [HG.out] at this; exact this
        have k0 : wr.cell? ⟨w.heap.size, 0, none⟩ = some (.slice A n c) := by rw [HX4.out.cell]; rfl
        have k1 : wr.cell? ⟨w.heap.size, 1, none⟩ = some (.int .i64 d) := by rw [HX4.out.cell]; rfl
        have HB4 := Lib.hid (HB3.out.trans (hbel3.mono HB3.out.size))
        clear hin hblk hbel hbel3 HY4
        by_cases hlt : j < m
        · obtain ⟨ad, v, rfl, _, hv, _, hcell⟩ := HS4.out.at_ hlt
          by_cases hr : v < 0 ∨ (n : Int) - 1 < v
          · have HV := Lib.hid (restE_missing HZ.out (by have := HNF.out; omega) (inK_no (List.mem_of_getElem? hv.out) (by rw [HLN.out]; exact hr)))
            have HW := Lib.hid (within_no hr)
            clear hr
            go_wp2_with fail
            refine (withinD_any v 0 ((n : Int) - 1) wr).mono ?_; rintro e w' ⟨rfl, rfl⟩
            rw [HW.out]
            go_wp2
            go_ret3
            exact IntsNumErr.none_ HV.out HB4.out
          · have hv0 : 0 ≤ v := by omega
            have hvn : v ≤ (n : Int) - 1 := by omega
            have HW := Lib.hid (within_yes hv0 hvn)
            have HT : Hid (inK l (seen.take (j + 1)) = true) := Lib.hid (by rw [inK_take hv.out, HIN.out, HLN.out]; simp; omega)
            obtain ⟨k, rfl⟩ : ∃ k : Nat, v = k := ⟨v.toNat, by omega⟩
            clear hr
            obtain ⟨x, hx⟩ : ∃ x, (restTo l seen j)[k]? = some x := ⟨_, get_getD (by rw [HRL.out]; omega)⟩
            have hxb := HBD.out j x (List.mem_of_getElem? hx)
            have q0 : wr.cell? ⟨g, k, none⟩ = some (.int .i64 x) := by rw [HY.out.cell, ints_arr_get hx]
            have q1 := HY.out.frozen k
            have HN : Hid (restTo l seen (j + 1) = (restTo l seen j).set k (x - 1)) := Lib.hid (by rw [restTo_succ hv.out]; unfold restStep; rw [Int.toNat_natCast, getD_of_get hx])
            have hk6 : k < 6 := by omega
            have hk6i : (k : Int) < 6 := by omega
            have hx1 : -9 ≤ x := by omega
            have hx9 : x ≤ 9 := by omega
            clear hx hxb
            go_wp2_with fail
            refine (withinD_any k 0 ((n : Int) - 1) wr).mono ?_; rintro e w' ⟨rfl, rfl⟩
            rw [HW.out]
            go_wp2
            go_roundw
            case rel => exact ⟨rfl, rfl, j + 1, by omega, by go_num, HT.out, by rw [HN.out, ← ints_arr_set]; exact HY.out.set_ _ _, HBE.out.setCell (p := ⟨g, k, none⟩) (Nat.le_refl _) _⟩
            case measure => simp [intOf]; omega
        · obtain rfl : j = m := by omega
          have HI : Hid (inK l seen = true) := Lib.hid (by have := HIN.out; rwa [List.take_of_length_le (by rw [HSL.out]; omega)] at this)
          obtain ⟨R, hR⟩ : ∃ R, restTo l seen j = R := ⟨_, rfl⟩
          have hbdR := HBD.out j
          have hRL := HRL.out j
          rw [hR] at hbdR hRL HY
          have HBR : Hid (∀ v ∈ R, -9 ≤ v ∧ v ≤ 9) := Lib.hid (fun v hv => by have := hbdR v hv; omega)
          have HRR := Lib.hid (show restTo l seen seen.length = R by rw [HSL.out, hR])
          obtain ⟨a, r, har⟩ : ∃ a r, R = a :: r := by
            match R, hRL with
            | a :: r, _ => exact ⟨a, r, rfl⟩
          have HRD : Hid (RdI wr (some ⟨g, 0, none⟩) 6 (a :: r)) := Lib.hid (by rw [← har]; exact RdI.of_blk HY.out hRL (by omega) (fun v hv => I64.small (by have := HBR.out v hv; omega)))
          have hng : decide (mn a r < 0) = negB R := by rw [har]; exact mn_neg a r
          obtain ⟨y, hy⟩ : ∃ y, mn a r = y := ⟨_, rfl⟩
          rw [hy] at hng
          have HMN : Hid (Calls Try.prog 103 #[.slice (some ⟨g, 0, none⟩) 6 6] wr fun e w' => e = .returned (.int .i64 y) ∧ wr = w') := Lib.hid (by rw [← hy]; exact min_any (some ⟨g, 0, none⟩) 6 6 a r wr HRD.out)
          have HRL6 := Lib.hid hRL
          clear hbdR hRL hy har HRD hR HIN HRL HBD
          by_cases hn0 : negB R = true
          · have HV := Lib.hid (restE_over HZ.out (by have := HNF.out; omega) HI.out (by rw [HRR.out]; exact hn0))
            have hy0 : y < 0 := by rw [hn0] at hng; exact of_decide_eq_true hng
            clear hng hn0
            go_wp2_with fail
            refine HMN.out.mono ?_; rintro e w' ⟨rfl, rfl⟩
            go_wp2
            go_ret3
            exact IntsNumErr.none_ HV.out HB4.out
          · have hn1' : negB R = false := by simpa using hn0
            have hy0 : 0 ≤ y := by rw [hn1'] at hng; have := of_decide_eq_false hng; omega
            have HNG := Lib.hid hn1'
            clear hng hn0 hn1'
            by_cases hjd : (j : Int) = d
            · have HV := Lib.hid (restE_all HZ.out HI.out (by rw [HRR.out]; exact HNG.out) (by rw [HSL.out]; exact hjd))
              go_wp2_with fail
              refine HMN.out.mono ?_; rintro e w' ⟨rfl, rfl⟩
              rw [← hjd] at k1
              go_wp2
              go_ret3
              exact IntsNumErr.none_ HV.out HB4.out
            · have HV := Lib.hid (restE_some HZ.out (by rw [HSL.out]; omega) HI.out (by rw [HRR.out]; exact HNG.out))
              rw [HRR.out, HSL.out] at HV
              have hjd2 : (j : Int) < d := by omega
              have gj : ((j : Int) == d) = false := by simpa using hjd
              have hszR := left_size HRL6.out
              clear hjd
              go_wp2_with fail
              refine HMN.out.mono ?_; rintro e w' ⟨rfl, rfl⟩
              go_wp2_with (first | (refine wpList_load_row rfl _ (.tmp 8) rfl g rfl _ _ _ _ HY.out Try.underlying94 rfl hszR ?_))
              obtain ⟨wm, rfl⟩ : ∃ wm, wm = wr := ⟨_, rfl⟩
              go_loopw [4, 54] (fun s i w9 => ∃ (k : Nat) (A' : Option Addr) (c' : Nat), k ≤ 6 ∧ i = .int .i64 k ∧ s = .slice A' (kindsOf R k).length c' ∧ OwnI w9 wm.heap.size 3 A' (kindsOf R k).length c' (kindsOf R k) ∧ Below wm.heap.size wm w9) (fun _ i _ => 6 - (intOf i).toNat)
              case atStart => exact ⟨0, none, 0, by omega, rfl, rfl, OwnI.nil_ _ _ _, Below.refl _ _⟩
              case round =>
                obtain ⟨k, A', c', hk, rfl, rfl, hown, hbel9⟩ := hrel
                have HO := Lib.hid hown
                have HB9 := Lib.hid hbel9
                have hkl := kindsOf_len R k
                have hsz9 := hbel9.size
                clear hown hbel9
                by_cases hlt6 : k < 6
                · obtain ⟨v, hv⟩ : ∃ v, R[k]? = some v := ⟨_, get_getD (by rw [HRL6.out]; exact hlt6)⟩
                  have q := run_index_left hv hlt6
                  have hvb := HBR.out v (List.mem_of_getElem? hv)
                  by_cases hv0 : 0 < v
                  · have HN : Hid (kindsOf R (k + 1) = kindsOf R k ++ [(k : Int)]) := Lib.hid (by rw [kindsOf_succ, getD_of_get hv, if_pos hv0])
                    have HNL : Hid ((kindsOf R (k + 1)).length = (kindsOf R k).length + 1) := Lib.hid (by rw [HN.out]; simp)
                    generalize kindsOf R k = K at HO HN hkl HNL ⊢
                    clear hv
                    go_wp2_with (at_builtin; go_must (refine wpList_appI1 _ rfl (.tmp 60) (.tmp 62) rfl _ rfl rfl HO.out (v := (k : Int)) (I64.small (by omega)) (by omega) hsz9 ?_); intro A2 c2 w' kk; have KK := Lib.hid kk; clear kk)
                    go_roundw
                    case rel => exact ⟨k + 1, A2, c2, by omega, by go_num, by rw [HNL.out], by rw [HNL.out, HN.out]; exact KK.out.own, HB9.out.trans KK.out.below⟩
                    case measure => simp [intOf]; omega
                  · have HN : Hid (kindsOf R (k + 1) = kindsOf R k) := Lib.hid (by rw [kindsOf_succ, getD_of_get hv, if_neg hv0])
                    have hv0' : v ≤ 0 := by omega
                    clear hv hv0
                    generalize kindsOf R k = K at HO HN hkl ⊢
                    go_wp2
                    go_roundw
                    case rel => exact ⟨k + 1, A', c', by omega, by go_num, by rw [HN.out], by rw [HN.out]; exact HO.out, HB9.out⟩
                    case measure => simp [intOf]; omega
                · obtain rfl : k = 6 := by omega
                  have z1 : wr.cell? ⟨w.heap.size, 1, none⟩ = some (.int .i64 d) := by
                    have hlt9 := (HX4.out.lt)
                    exact (HB9.out.cell (p := ⟨w.heap.size, 1, none⟩) hlt9).trans k1
                  have HBF := Lib.hid (HB4.out.trans (HB9.out.mono HB4.out.size))
                  have HOF := Lib.hid (HO.out.mono HB4.out.size)
                  generalize kindsOf R 6 = K at HO HOF HV hkl ⊢
                  by_cases hK1 : K.length = 1
                  · rw [if_pos hK1] at HV
                    rw [hK1] at HOF ⊢
                    have HK1 := Lib.hid hK1
                    clear hK1 hkl HO
                    go_wp2
                    go_ret3
                    rw [HV.out]
                    exact ⟨A', c', (by rw [HK1.out]; rfl), (by rw [HK1.out]; exact HOF.out), HBF.out⟩
                  · rw [if_neg hK1] at HV
                    have gk : ((K.length : Int) == 1) = false := by simp; omega
                    clear HO
                    go_wp2
                    go_ret3
                    rw [HV.out]
                    exact ⟨A', c', rfl, HOF.out, HBF.out⟩
  · have HV := Lib.hid (restE_chk (seen := seen) hz)
    have g : (chkS l d != 0) = true := by simpa using hz
    clear hz
    generalize chkS l d = z at g HV ⊢
    go_wp2
    go_ret3
    exact IntsNumErr.none_ HV.out HB2.out
end Go.Proofs.Ytcmacejpoihhlaa

namespace Go.Proofs.Ytcmacejpoihhlaa
open Go.RowKit

set_option maxHeartbeats 400000 in
theorem rwithin_any (n lo hi : Int) (w : World) : Calls Try.prog 89 #[.int .i64 n, .int .i64 lo, .int .i64 hi] w fun e w' => e = .returned (.bool (decide (lo ≤ n) && decide (n ≤ hi))) ∧ w' = w := by
  by_cases h : lo ≤ n
  · have g : decide (lo ≤ n) = true := decide_eq_true h
    go_enter Try.func89, Try.ntmps89
    go_wp2
    go_ret
    exact ⟨ret_bool (by rw [g, Bool.true_and]), rfl⟩
  · have g : decide (lo ≤ n) = false := decide_eq_false h
    go_enter Try.func89, Try.ntmps89
    go_wp2
    go_ret
    exact ⟨ret_bool (by simp), rfl⟩

set_option maxHeartbeats 400000 in
theorem rsum_any (A : Option Addr) (n c : Nat) (l : List Int) (w : World) (h : RdI w A n l) (hb : ∀ x ∈ l, 0 ≤ x ∧ x ≤ 1000) (hn : n ≤ 1000) : Calls Try.prog 82 #[.slice A n c] w (Num (sumI l) w) := by
  have hlen := h.len
  have HL := Lib.hid hlen
  have HBD := Lib.hid hb
  clear hb hlen
  go_enter Try.func82, Try.ntmps82
  go_wp2
  go_loop [3, 4] (fun s i => ∃ k : Nat, k ≤ n ∧ i = .int .i64 k ∧ s = .int .i64 (sumI (l.take k))) (fun _ i => n - (intOf i).toNat)
  case atStart => exact ⟨0, by omega, rfl, rfl⟩
  case round =>
    obtain ⟨k, hk, rfl, rfl⟩ := hrel
    have hs := sumI_take_bd HBD.out k
    have hs2 : (l.take k).length = k := by rw [List.length_take, HL.out]; omega
    rw [hs2] at hs
    obtain ⟨s, hse⟩ : ∃ s, sumI (l.take k) = s := ⟨_, rfl⟩
    rw [hse] at hs ⊢
    by_cases hlt : k < n
    · obtain ⟨ad, v, rfl, _, hv, _, hcell⟩ := h.at_ hlt
      have hv2 := HBD.out v (List.mem_of_getElem? hv.out)
      have HT : Hid (sumI (l.take (k + 1)) = s + v) := Lib.hid (by rw [take_of_get hv.out, sumI_snoc, hse])
      clear hse hs2
      go_wp2
      go_round
      case rel => exact ⟨k + 1, by omega, by go_num, by rw [HT.out]⟩
      case measure => simp [intOf]; omega
    · have HT : Hid (sumI l = s) := Lib.hid (by rw [← hse, List.take_of_length_le (by rw [HL.out]; omega)])
      clear hse hs2
      go_wp2
      go_ret
      exact ⟨ret_int HT.out.symm, rfl⟩

set_option maxHeartbeats 400000 in
theorem choices_any (f : Int) (d : Nat) (w : World) (hd : d ≤ 9) (hf : (d : Int) ≤ f) (h54 : f ≤ 54) : Calls Try.prog 81 #[.int .i64 f, .int .i64 d] w (Num (fallN f d) w) := by
  go_enter Try.func81, Try.ntmps81
  go_wp2
  go_loop [5, 6] (fun s i => ∃ k : Nat, k ≤ d ∧ i = .int .i64 k ∧ s = .int .i64 (fallN f k)) (fun _ i => d - (intOf i).toNat)
  case atStart => exact ⟨0, by omega, rfl, rfl⟩
  case round =>
    obtain ⟨k, hk, rfl, rfl⟩ := hrel
    by_cases hlt : k < d
    · have h1 := fallN_54 h54 (k + 1) (by omega) (by omega)
      have HE : Hid (fallN f (k + 1) = fallN f k * (f - k)) := rfl
      have hw : IntKind.i64.wrap (fallN f k * (f - k)) = fallN f k * (f - k) := by
        rw [← HE.out]
        exact IntWalk.i64_in _ (by omega)
      clear h1
      go_wp2
      go_round
      case rel => exact ⟨k + 1, by omega, by go_num, by rw [HE.out]⟩
      case measure => simp [intOf]; omega
    · obtain rfl : k = d := by omega
      go_wp2
      go_ret
      exact ⟨rfl, rfl⟩

set_option maxHeartbeats 1000000 in
set_option maxRecDepth 100000 in
theorem rcheckS_any (A : Option Addr) (n c : Nat) (l : List Int) (d : Int) (w : World) (h : RdI w A n l) (_hd : I64 d) : Calls Try.prog 33 #[.agg #[.slice A n c, .int .i64 d]] w (NumM (chkS l d) w) := by
  have hlen := h.len
  have hn := h.bd
  go_enter Try.func33, Try.ntmps33
  go_upto_region 1 with fail
  have HA := Lib.hid (h.alloc (.cells #[.slice A n c, .int .i64 d] 24))
  have HB := Lib.hid ((Below.refl _ w).alloc (Nat.le_refl _) (.cells #[.slice A n c, .int .i64 d] 24))
  have hbx := Blk.new w 24 #[.slice A n c, .int .i64 d]
  have HX := Lib.hid hbx
  clear hbx h
  generalize w.alloc (.cells #[.slice A n c, .int .i64 d] 24) = W at HA HB HX ⊢
  have c0 : W.cell? ⟨w.heap.size, 0, none⟩ = some (.slice A n c) := by rw [HX.out.cell]; rfl
  have c1 : W.cell? ⟨w.heap.size, 1, none⟩ = some (.int .i64 d) := by rw [HX.out.cell]; rfl
  clear HX
  by_cases h0 : n = 0
  · have HC := Lib.hid (chkS_short (l := l) (d := d) (by omega)); clear hlen
    subst h0
    go_wp2
    go_ret
    exact ⟨ret_int HC.out.symm, HB.out⟩
  by_cases h6 : 6 < n
  · have HC := Lib.hid (chkS_full (l := l) (d := d) (by omega)); clear hlen
    have g0 : ((n : Int) == 0) = false := by simp; omega
    go_wp2
    go_ret
    exact ⟨ret_int HC.out.symm, HB.out⟩
  have g0 : ((n : Int) == 0) = false := by simp; omega
  have g6 : (n : Int) ≤ 6 := by omega
  have hn0 : 0 < n := by omega
  have HL := Lib.hid hlen
  clear hlen
  go_wp2_with fail
  go_loop [3] (fun i => ∃ k : Nat, k ≤ n ∧ i = .int .i64 k ∧ Hid (okCounts (l.take k) = true)) (fun i => n - (intOf i).toNat)
  case atStart => exact ⟨0, by omega, rfl, rfl⟩
  case round =>
    obtain ⟨k, hk, rfl, HK⟩ := hrel
    by_cases hlt : k < n
    · obtain ⟨ad, v, rfl, _, hv, _, hcell⟩ := HA.out.at_ hlt
      by_cases hr : v < 1 ∨ 9 < v
      · have HC := Lib.hid (chkS_bad (d := d) (by rw [HL.out]; exact hn0) (by rw [HL.out]; omega) (okCounts_no hv.out hr))
        have HW := Lib.hid (within_no hr)
        clear hr
        go_wp2_with fail
        refine (rwithin_any v 1 9 W).mono ?_; rintro e w' ⟨rfl, rfl⟩
        rw [HW.out]
        go_wp2
        go_ret
        exact ⟨ret_int HC.out.symm, HB.out⟩
      · have hv1 : 1 ≤ v := by omega
        have hv9 : v ≤ 9 := by omega
        have HT : Hid (okCounts (l.take (k + 1)) = true) := Lib.hid (by rw [okCounts_take hv.out, HK.out]; simp; omega)
        have HW := Lib.hid (within_yes hv1 hv9)
        clear hr
        go_wp2_with fail
        refine (rwithin_any v 1 9 W).mono ?_; rintro e w' ⟨rfl, rfl⟩
        rw [HW.out]
        go_wp2
        go_round
        case rel => exact ⟨k + 1, by omega, by go_num, HT⟩
        case measure => simp [intOf]; omega
    · obtain rfl : k = n := by omega
      have hok : okCounts l = true := by have := HK.out; rwa [List.take_of_length_le (by rw [HL.out]; omega)] at this
      have HC := Lib.hid (chkS_good (d := d) (by rw [HL.out]; exact hn0) (by rw [HL.out]; omega) hok)
      have hs := okCounts_sum hok (by rw [HL.out]; omega)
      have HM := Lib.hid (okCounts_mem hok)
      obtain ⟨s, hse⟩ : ∃ s, sumI l = s := ⟨_, rfl⟩
      rw [hse] at hs HC
      have HS := Lib.hid hse
      clear hok hse HK
      go_upto_region 10 with fail
      have HSL : Hid (∀ x ∈ l, 0 ≤ x ∧ x ≤ 1000) := Lib.hid (fun x hx => by have := HM.out x hx; omega)
      have hk6 : k ≤ 1000 := by omega
      have HQ : Hid (∀ W', RdI W' A k l → Calls Try.prog 82 #[.slice A k c] W' (Num s W')) := Lib.hid (fun W' h' => by rw [← HS.out]; exact rsum_any A k c l W' h' HSL.out hk6)
      obtain ⟨y, hy⟩ : ∃ y, (decide (1 ≤ d) && decide (d ≤ min 9 s)) = y := ⟨_, rfl⟩
      have HW : Hid (∀ W', Calls Try.prog 89 #[.int .i64 d, .int .i64 1, .int .i64 (min 9 s)] W' fun e w' => e = .returned (.bool y) ∧ w' = W') := Lib.hid (fun W' => by rw [← hy]; exact rwithin_any d 1 (min 9 s) W')
      have HR : Hid (chkS l d = if y = true then 0 else 2) := Lib.hid (by rw [HC.out, ← hy]; simp only [Bool.and_eq_true, decide_eq_true_eq])
      clear hy HM HC HSL
      go_quiet (first
        | (go_at_call 82; exact Calls.quiet_of_same (HQ.out _ (HA.out.drewN _)))
        | (go_at_call 89; exact Calls.quiet_of_same (HW.out _)))
      cases y
      · go_wp2
        all_goals go_ret
        all_goals exact ⟨ret_int HR.out.symm, below_drewN HB.out _⟩
      · go_wp2
        all_goals go_ret
        all_goals exact ⟨ret_int HR.out.symm, below_drewN HB.out _⟩

set_option maxHeartbeats 1000000 in
set_option maxRecDepth 100000 in
theorem rways_any (A : Option Addr) (n c : Nat) (l : List Int) (d : Int) (w : World) (h : RdI w A n l) (hd : I64 d) : Calls Try.prog 29 #[.agg #[.slice A n c, .int .i64 d]] w (Num2M (waysE l d) w) := by
  have hlen := h.len
  go_enter Try.func29, Try.ntmps29
  go_upto_region 1 with fail
  have HA := Lib.hid (h.alloc (.cells #[.slice A n c, .int .i64 d] 24))
  have HB := Lib.hid ((Below.refl _ w).alloc (Nat.le_refl _) (.cells #[.slice A n c, .int .i64 d] 24))
  have HX := Lib.hid (Blk.new w 24 #[.slice A n c, .int .i64 d])
  clear h
  generalize w.alloc (.cells #[.slice A n c, .int .i64 d] 24) = W at HA HB HX ⊢
  have c0 : W.cell? ⟨w.heap.size, 0, none⟩ = some (.slice A n c) := by rw [HX.out.cell]; rfl
  have c1 : W.cell? ⟨w.heap.size, 1, none⟩ = some (.int .i64 d) := by rw [HX.out.cell]; rfl
  go_wp2_with fail
  refine (rcheckS_any A n c l d W HA.out hd).mono ?_; rintro e w2 ⟨rfl, hb⟩
  have HA2 := Lib.hid (HA.out.below hb)
  have HX2 := Lib.hid (HX.out.below hb)
  have HB2 := Lib.hid (HB.out.trans (hb.mono HB.out.size))
  have c02 : w2.cell? ⟨w.heap.size, 0, none⟩ = some (.slice A n c) := by rw [HX2.out.cell]; rfl
  have c12 : w2.cell? ⟨w.heap.size, 1, none⟩ = some (.int .i64 d) := by rw [HX2.out.cell]; rfl
  clear hb HX c0 c1 HX2
  by_cases hz : chkS l d = 0
  · have hk := chkS_ok hz
    have hks := okCounts_mem hk.2.2.1
    have HV : Hid (waysE l d = (fallN (sumI l) d.toNat, 0)) := Lib.hid (by unfold waysE; rw [if_neg (by omega)])
    obtain ⟨s, hse⟩ : ∃ s, sumI l = s := ⟨_, rfl⟩
    rw [hse] at hk HV
    obtain ⟨d, rfl⟩ : ∃ d' : Nat, d = d' := ⟨d.toNat, by omega⟩
    rw [Int.toNat_natCast] at HV
    have HQ : Hid (∀ W', RdI W' A n l → Calls Try.prog 82 #[.slice A n c] W' (Num s W')) := Lib.hid (fun W' h' => by rw [← hse]; exact rsum_any A n c l W' h' (fun x hx => by have := hks x hx; omega) (by omega))
    have HF : Hid (∀ W', Calls Try.prog 81 #[.int .i64 s, .int .i64 d] W' (Num (fallN s d) W')) := Lib.hid (fun W' => choices_any s d W' (by omega) (by omega) (by omega))
    clear hk hks hse
    rw [hz]
    clear hz
    go_wp2_with fail
    go_quiet (first
      | (go_at_call 82; exact Calls.quiet_of_same (HQ.out _ (HA2.out.drewN _)))
      | (go_at_call 81; exact Calls.quiet_of_same (HF.out _)))
    go_wp2
    go_ret2
    rw [HV.out]; exact ⟨rfl, below_drewN HB2.out _⟩
  · have HV : Hid (waysE l d = (0, chkS l d)) := Lib.hid (by unfold waysE; rw [if_pos hz])
    have g : (chkS l d != 0) = true := by simpa using hz
    clear hz
    generalize chkS l d = z at g HV ⊢
    go_wp2
    go_ret2
    rw [HV.out]; exact ⟨rfl, HB2.out⟩
set_option maxHeartbeats 1000000 in
set_option maxRecDepth 100000 in
theorem rshaped_any (A : Option Addr) (n c : Nat) (l : List Int) (d : Int) (w : World) (h : RdI w A n l) (hd : I64 d) : Calls Try.prog 92 #[.agg #[.slice A n c, .int .i64 d]] w (NumM (shapedC l d) w) := by
  go_enter Try.func92, Try.ntmps92
  go_upto_region 1 with fail
  have HA := Lib.hid (h.alloc (.cells #[.slice A n c, .int .i64 d] 24))
  have HB := Lib.hid ((Below.refl _ w).alloc (Nat.le_refl _) (.cells #[.slice A n c, .int .i64 d] 24))
  have HX := Lib.hid (Blk.new w 24 #[.slice A n c, .int .i64 d])
  clear h
  generalize w.alloc (.cells #[.slice A n c, .int .i64 d] 24) = W at HA HB HX ⊢
  have c0 : W.cell? ⟨w.heap.size, 0, none⟩ = some (.slice A n c) := by rw [HX.out.cell]; rfl
  have c1 : W.cell? ⟨w.heap.size, 1, none⟩ = some (.int .i64 d) := by rw [HX.out.cell]; rfl
  go_wp2_with fail
  refine (rcheckS_any A n c l d W HA.out hd).mono ?_; rintro e w2 ⟨rfl, hb⟩
  have HX2 := Lib.hid (HX.out.below hb)
  have HB2 := Lib.hid (HB.out.trans (hb.mono HB.out.size))
  have c12 : w2.cell? ⟨w.heap.size, 1, none⟩ = some (.int .i64 d) := by rw [HX2.out.cell]; rfl
  clear hb HX c0 c1 HX2
  by_cases hz : chkS l d = 0
  · by_cases h6 : 6 < d
    · have HV : Hid (shapedC l d = 8) := Lib.hid (by unfold shapedC; rw [if_neg (by omega), if_pos h6])
      rw [hz]
      go_wp2
      go_ret
      exact ⟨ret_int HV.out.symm, HB2.out⟩
    · have HV : Hid (shapedC l d = 0) := Lib.hid (by unfold shapedC; rw [if_neg (by omega), if_neg h6])
      rw [hz]
      have g6 : d ≤ 6 := by omega
      go_wp2
      go_ret
      exact ⟨ret_int HV.out.symm, HB2.out⟩
  · have HV : Hid (shapedC l d = chkS l d) := Lib.hid (by unfold shapedC; rw [if_pos hz])
    have g : (chkS l d != 0) = true := by simpa using hz
    clear hz
    generalize chkS l d = z at g HV ⊢
    go_wp2
    go_ret
    exact ⟨ret_int HV.out.symm, HB2.out⟩
end Go.Proofs.Ytcmacejpoihhlaa

namespace Go.Proofs.Ytcmacejpoihhlaa
open Go.RowKit

theorem chanceR_bd {c : List Int} (hc : Kinds c) : ∀ (ss : List Int) (t : List Bool), (∀ s ∈ ss, 0 ≤ s) → 0 ≤ chanceR c ss t ∧ chanceR c ss t ≤ (chBd ss : Int) := by
  intro ss
  induction ss with
  | nil => intro t _; exact (show (0 : Int) ≤ 1 ∧ (1 : Int) ≤ ((chBd [] : Nat) : Int) from ⟨by decide, by decide⟩)
  | cons s ss ih =>
    intro t hs
    rw [chanceR_cons]
    have key : ∀ k : Nat, 0 ≤ chanceRTo c s ss t k ∧ chanceRTo c s ss t k ≤ ((k * (9 ^ s.toNat * chBd ss) : Nat) : Int) := by
      intro k
      induction k with
      | zero => exact ⟨Int.le_refl _, by simp [chanceRTo]⟩
      | succ k ihk =>
        rw [chanceRTo_succ]
        have e : (k + 1) * (9 ^ s.toNat * chBd ss) = k * (9 ^ s.toNat * chBd ss) + 9 ^ s.toNat * chBd ss := Nat.succ_mul _ _
        unfold chStepR
        by_cases h : (t.getD k false || decide (c.getD k 0 < s)) = true
        · rw [if_pos h]; omega
        · rw [if_neg h]
          have hle : s ≤ c.getD k 0 := by
            rw [Bool.or_eq_true, decide_eq_true_eq] at h
            omega
          have h1 := chance_term (hs s (by simp)) hle (hc.at_ k).2 (ih (t.set k true) (fun x hx => hs x (by simp [hx])))
          omega
    have h := key c.length
    refine ⟨h.1, Int.le_trans h.2 ?_⟩
    rw [chBd_cons]
    exact Int.ofNat_le.2 (Nat.mul_le_mul_right _ hc.1)
theorem chanceRTo_bd {c : List Int} (hc : Kinds c) {s : Int} {ss : List Int} (t : List Bool) (hs : ∀ x ∈ s :: ss, 0 ≤ x) (k : Nat) (hk : k ≤ c.length) : 0 ≤ chanceRTo c s ss t k ∧ chanceRTo c s ss t k ≤ (chBd (s :: ss) : Int) := by
  have key : ∀ k : Nat, 0 ≤ chanceRTo c s ss t k ∧ chanceRTo c s ss t k ≤ ((k * (9 ^ s.toNat * chBd ss) : Nat) : Int) := by
    intro k
    induction k with
    | zero => exact ⟨Int.le_refl _, by simp [chanceRTo]⟩
    | succ k ihk =>
      rw [chanceRTo_succ]
      have e : (k + 1) * (9 ^ s.toNat * chBd ss) = k * (9 ^ s.toNat * chBd ss) + 9 ^ s.toNat * chBd ss := Nat.succ_mul _ _
      unfold chStepR
      by_cases h : (t.getD k false || decide (c.getD k 0 < s)) = true
      · rw [if_pos h]; omega
      · rw [if_neg h]
        have hle : s ≤ c.getD k 0 := by
          rw [Bool.or_eq_true, decide_eq_true_eq] at h
          omega
        have h1 := chance_term (hs s (by simp)) hle (hc.at_ k).2 (chanceR_bd hc ss (t.set k true) (fun x hx => hs x (by simp [hx])))
        omega
  have h := key k
  refine ⟨h.1, Int.le_trans h.2 ?_⟩
  rw [chBd_cons]
  exact Int.ofNat_le.2 (Nat.mul_le_mul_right _ (by have := hc.1; omega))
/-- a number, and the same memory -/
def NumS (v : Int) (w : World) (e : Ending) (w' : World) : Prop := e = .returned (.int .i64 v) ∧ Same w w'

set_option maxHeartbeats 2000000 in
set_option maxRecDepth 100000 in
theorem rchance_any (A B T : Option Addr) (n c m cb cap base : Nat) (l sizes : List Int) (hs0 : ∀ s ∈ sizes, 0 ≤ s) (hs9 : sumN sizes ≤ 9) (hm9 : m ≤ 9) (hn6 : n ≤ 6) (hK : Kinds l)
    (hA : ∀ g, T.map (·.block) = some g → A.map (·.block) ≠ some g) (hB : ∀ g, T.map (·.block) = some g → B.map (·.block) ≠ some g) :
    ∀ (ss pre : List Int) (t : List Bool) (w : World), sizes = pre ++ ss → RdI w A n l → RdI w B m sizes → Own w base 4 1 T n cap (bools t) →
    Calls Try.prog 121 #[.slice A n c, .slice B m cb, .int .i64 (pre.length : Int), .slice T n cap] w (NumS (chanceR l ss t) w) := by
  intro ss
  induction ss with
  | nil =>
    intro pre t w he h1 h2 ht
    rw [List.append_nil] at he
    subst he
    have hlen := h2.len
    clear h1 h2 ht hK hs0 hs9
    rw [hlen]
    go_enter Try.func121, Try.ntmps121
    go_wp2
    go_ret
    exact ⟨rfl, Same.refl _⟩
  | cons s ss ih =>
    intro pre t w he h1 h2 ht
    have hlen := h2.len
    have hln1 := h1.len
    have htl : t.length = n := by have := ht.len; simpa using this
    have hlb : pre.length < m := by rw [he] at hlen; simp at hlen; omega
    obtain ⟨bd, s', rfl, hbdl, hsg, _, hsc⟩ := h2.at_ hlb
    obtain rfl : s' = s := by
      have := hsg.out
      rw [he, List.getElem?_append_right (Nat.le_refl _), Nat.sub_self] at this
      simp at this; exact this.symm
    have hsnn := hs0 s' (by rw [he]; simp)
    have hsum : sumN (s' :: ss) ≤ 9 := by
      have key : ∀ a b : List Int, sumN (a ++ b) = sumN a + sumN b := by
        intro a b
        induction a with
        | nil => simp [sumN]
        | cons x a iha => simp only [List.cons_append, sumN_cons, iha]; omega
      have := key pre (s' :: ss)
      rw [← he] at this
      omega
    have hln2 : (s' :: ss).length ≤ 9 := by rw [he] at hlen; simp at hlen ⊢; omega
    have hss : ∀ x ∈ s' :: ss, 0 ≤ x := fun x hx => hs0 x (by rw [he]; exact List.mem_append_right _ hx)
    have hbd9 := chBd_9 hln2 hsum
    obtain ⟨sn, rfl⟩ : ∃ sn : Nat, s' = sn := ⟨s'.toNat, by omega⟩
    have hsn9 : sn ≤ 9 := by rw [sumN_cons] at hsum; omega
    have IH := Lib.hid ih
    have HE := Lib.hid he
    have HSS := Lib.hid hss
    have HBD := Lib.hid hbd9
    have HCP : Hid (chanceR l ((sn : Int) :: ss) t = chanceRTo l sn ss t n) := Lib.hid (by rw [chanceR_cons, hln1])
    obtain ⟨b, hb⟩ : ∃ b, pre.length = b := ⟨_, rfl⟩
    rw [hb] at hsc hlb ⊢
    have HBL := Lib.hid hb
    have HKK := Lib.hid hK
    have HS0 := Lib.hid hs0
    have HR1 := Lib.hid h1
    have HR2 := Lib.hid h2
    have HT := Lib.hid ht
    have HTL := Lib.hid htl
    have HL1 := Lib.hid hln1
    have HAA := Lib.hid (And.intro hA hB)
    clear ih he hss hbd9 hsum hln2 hsg hs0 hs9 hb hK h1 h2 ht htl hln1 hA hB hlen
    have hlbI : (b : Int) < m := by omega
    have g0 : ((b : Int) == m) = false := by simp; omega
    go_enter Try.func121, Try.ntmps121
    go_wp2_with fail
    go_loopw [9, 10] (fun nn i wr => ∃ k : Nat, k ≤ n ∧ i = .int .i64 k ∧ nn = .int .i64 (chanceRTo l sn ss t k) ∧ Same w wr) (fun _ i _ => n - (intOf i).toNat)
    case atStart => exact ⟨0, by omega, rfl, rfl, Same.refl _⟩
    case round =>
      obtain ⟨k, hk, rfl, rfl, hsame⟩ := hrel
      have hbd0 := chanceRTo_bd HKK.out t HSS.out k (by rw [HL1.out]; exact hk)
      obtain ⟨nn, hnn⟩ : ∃ nn, chanceRTo l sn ss t k = nn := ⟨_, rfl⟩
      rw [hnn] at hbd0 ⊢
      have HSM := Lib.hid hsame
      have e3 : wr.cell? (bd.add b) = some (.int .i64 sn) := (hsame.cell _).trans hsc
      clear hsame
      by_cases hlt : k < n
      · obtain ⟨ad, v, rfl, hadl, hv, _, hvc⟩ := HR1.out.at_ hlt
        have e4 : wr.cell? (ad.add k) = some (.int .i64 v) := (HSM.out.cell _).trans hvc
        have hv9 := HKK.out.2 v (List.mem_of_getElem? hv.out)
        have HVD := Lib.hid (getD_of_get (d := 0) hv.out)
        obtain ⟨g, rfl, hbg, hgl⟩ := HT.out.form (by omega)
        obtain ⟨tv, htv⟩ : ∃ tv, t[k]? = some tv := ⟨t[k]'(by rw [HTL.out]; exact hlt), List.getElem?_eq_getElem _⟩
        have e5w : w.cell? ⟨g, k, none⟩ = some (.bool tv) := by rw [HT.out.cellAt k (by omega), bools_get, htv]; rfl
        have e5 : wr.cell? ⟨g, k, none⟩ = some (.bool tv) := (HSM.out.cell _).trans e5w
        have HTV := Lib.hid (getD_of_get (d := false) htv)
        have hkI : (k : Int) < n := by omega
        clear hvc htv
        cases tv
        · by_cases hvs : v < (sn : Int)
          · have HN : Hid (chanceRTo l sn ss t (k + 1) = nn) := Lib.hid (by rw [chanceRTo_succ, hnn]; unfold chStepR; rw [HTV.out, HVD.out, if_pos (by simpa using hvs)])
            have gd : decide (v < (sn : Int)) = true := decide_eq_true hvs
            clear hnn e5w
            go_upto_region 7 with fail
            go_quiet (fail)
            go_wp2
            go_roundw
            case rel => exact ⟨k + 1, by omega, by go_num, by rw [HN.out], HSM.out.drewN _⟩
            case measure => simp [intOf]; omega
          · have gd : decide (v < (sn : Int)) = false := decide_eq_false hvs
            have hsv : (sn : Int) ≤ v := by omega
            have HF1 : Hid (chanceRTo l sn ss t (k + 1) = nn + fallN v sn * chanceR l ss (t.set k true)) := Lib.hid (by rw [chanceRTo_succ, hnn]; unfold chStepR; rw [HTV.out, HVD.out, if_neg (by simpa using hvs), Int.toNat_natCast])
            have hft := chance_term (s := (sn : Int)) (x := chanceR l ss (t.set k true)) (B := chBd ss) (by omega) hsv hv9.2 (chanceR_bd HKK.out ss (t.set k true) (fun x hx => HSS.out x (by simp [hx])))
            rw [Int.toNat_natCast] at hft
            have hbd1 := chanceRTo_bd HKK.out t HSS.out (k + 1) (by rw [HL1.out]; exact hlt)
            rw [HF1.out] at hbd1
            have HFA : Hid (∀ W', Calls Try.prog 81 #[.int .i64 v, .int .i64 sn] W' (Num (fallN v sn) W')) := Lib.hid (fun W' => choices_any v sn W' hsn9 hsv (by omega))
            obtain ⟨F, hF⟩ : ∃ F, fallN v sn = F := ⟨_, rfl⟩
            obtain ⟨C, hC⟩ : ∃ C, chanceR l ss (t.set k true) = C := ⟨_, rfl⟩
            rw [hF] at HF1 hft hbd1 HFA
            rw [hC] at HF1 hft hbd1
            have hbdn := HBD.out
            have HW2 : Hid (IntKind.i64.wrap (nn + F * C) = nn + F * C) := Lib.hid (IntWalk.i64_in _ (by omega))
            have HW1 : Hid (IntKind.i64.wrap (F * C) = F * C) := Lib.hid (IntWalk.i64_in _ (by omega))
            have HC := Lib.hid hC
            clear hft hbd1 hbdn hF hC hnn hbd0 hvs
            go_upto_region 7 with fail
            go_quiet (fail)
            have HSMq := Lib.hid (HSM.out.drewN nq)
            have e3' : (wr.drewN nq).cell? (bd.add b) = some (.int .i64 sn) := e3
            have e4' : (wr.drewN nq).cell? (ad.add k) = some (.int .i64 v) := e4
            have e5' : (wr.drewN nq).cell? ⟨g, k, none⟩ = some (.bool false) := e5
            have ef' : (wr.drewN nq).frozen? ⟨g, k, none⟩ = false := (HSMq.out.frozen _).trans (HT.out.frozenAt k)
            have HTq := Lib.hid (HSMq.out.own HT.out)
            have HR1q := Lib.hid (HSMq.out.rd HR1.out)
            have HR2q := Lib.hid (HSMq.out.rd HR2.out)
            clear e3 e4 e5 e5w HSM
            generalize wr.drewN nq = w2 at HSMq e3' e4' e5' ef' HTq HR1q HR2q ⊢
            have HAg := HAA.out.1 g rfl
            have HBg := HAA.out.2 g rfl
            have m3 : (w2.setCell ⟨g, k, none⟩ (.bool true)).cell? (bd.add b) = some (.int .i64 sn) := (World.cell?_setCell_far w2 ⟨g, k, none⟩ (bd.add b) (.bool true) (by rw [block_of_add]; exact fun e => HBg (by rw [Option.map_some, ← e]))).trans e3'
            have m4 : (w2.setCell ⟨g, k, none⟩ (.bool true)).cell? (ad.add k) = some (.int .i64 v) := (World.cell?_setCell_far w2 ⟨g, k, none⟩ (ad.add k) (.bool true) (by rw [block_of_add]; exact fun e => HAg (by rw [Option.map_some, ← e]))).trans e4'
            have HT3 : Hid (Own (w2.setCell ⟨g, k, none⟩ (.bool true)) base 4 1 (some ⟨g, 0, none⟩) n cap (bools (t.set k true))) := Lib.hid (by rw [← bools_set]; exact HTq.out.stored k _)
            have HR13 := Lib.hid (HR1q.out.setCell (p := ⟨g, k, none⟩) HAg (.bool true))
            have HR23 := Lib.hid (HR2q.out.setCell (p := ⟨g, k, none⟩) HBg (.bool true))
            have HBACK : Hid (∀ w', Same (w2.setCell ⟨g, k, none⟩ (.bool true)) w' → Same w (w'.setCell ⟨g, k, none⟩ (.bool false))) := Lib.hid (fun w' h => HSMq.out.trans (h.back e5'))
            have hcell3 : (w2.setCell ⟨g, k, none⟩ (.bool true)).cell? ⟨g, k, none⟩ = some (.bool true) := World.cell?_setCell_same' w2 ⟨g, k, none⟩ (.bool true) (by rw [e5']; rfl)
            have hfz3 := HT3.out.frozenAt k
            go_upto_region 9 with fail
            clear e3' e4' e5' ef' HTq HR1q HR2q HAg HBg
            generalize w2.setCell ⟨g, k, none⟩ (.bool true) = w3 at m3 m4 HT3 HR13 HR23 HBACK hcell3 hfz3 ⊢
            have hw1 : IntKind.i64.wrap (F * C) = F * C := HW1.out
            have hw2 : IntKind.i64.wrap (nn + F * C) = nn + F * C := HW2.out
            have hw3 : IntKind.i64.wrap ((b : Int) + 1) = (b : Int) + 1 := IntWalk.i64_in _ (by omega)
            have HI : Hid (∀ w', Same w3 w' → Calls Try.prog 121 #[.slice (some ad) n c, .slice (some bd) m cb, .int .i64 ((b : Int) + 1), .slice (some ⟨g, 0, none⟩) n cap] w' (NumS C w')) := Lib.hid (fun w' h => by
              have := IH.out (pre ++ [(sn : Int)]) (t.set k true) w' (by rw [HE.out]; simp) (h.rd HR13.out) (h.rd HR23.out) (h.own HT3.out)
              rw [List.length_append, HBL.out, HC.out] at this
              exact this)
            go_region_held3 (fun w' => w'.cell? (bd.add b) = some (.int .i64 sn) ∧ w'.cell? (ad.add k) = some (.int .i64 v)) (first | exact ⟨m3, m4⟩ | exact ⟨(hcl.cell _).trans m3, (hcl.cell _).trans m4⟩) (first
              | (go_at_call 81; refine (HFA.out _).mono ?_; rintro e w9 ⟨rfl, rfl⟩)
              | (go_at_call 121; refine (HI.out w3.drew (Same.refl w3).drew).mono ?_; rintro e wc ⟨rfl, hcl⟩))
            have HCL : Hid (Same w3 wc) := Lib.hid ((Same.refl w3).drew.trans hcl)
            have z1 : wc.cell? ⟨g, k, none⟩ = some (.bool true) := (HCL.out.cell _).trans hcell3
            have z2 : wc.frozen? ⟨g, k, none⟩ = false := (HCL.out.frozen _).trans hfz3
            clear hw1 hw2 hw3 hcl hcell3 hfz3 m3 m4
            go_wp2
            go_roundw
            case rel => exact ⟨k + 1, by omega, by go_num, by rw [HF1.out], HBACK.out _ HCL.out⟩
            case measure => simp [intOf]; omega
        · have HN : Hid (chanceRTo l sn ss t (k + 1) = nn) := Lib.hid (by rw [chanceRTo_succ, hnn]; unfold chStepR; rw [HTV.out, if_pos (by simp)])
          clear hnn e5w
          go_upto_region 7 with fail
          go_quiet (fail)
          go_wp2
          go_roundw
          case rel => exact ⟨k + 1, by omega, by go_num, by rw [HN.out], HSM.out.drewN _⟩
          case measure => simp [intOf]; omega
      · obtain rfl : k = n := by omega
        have HN : Hid (chanceR l ((sn : Int) :: ss) t = nn) := Lib.hid (HCP.out.trans hnn)
        clear hnn
        go_wp2
        go_ret
        exact ⟨ret_int HN.out.symm, HSM.out⟩
end Go.Proofs.Ytcmacejpoihhlaa
