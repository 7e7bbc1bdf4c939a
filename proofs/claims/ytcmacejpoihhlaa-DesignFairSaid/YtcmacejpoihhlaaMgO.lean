/- Walks: in how many ways a partition comes. Walks: in how many ways a partition comes: the program's chance. -/
import Derived.Laws.CopyRow
import Derived.Laws.CopyOwn
import Derived.Lib.SlBuf
import Derived.Deep.WholeRow
import Derived.Test.YtcmacejpoihhlaaMgI
import Derived.Test.YtcmacejpoihhlaaMgB
namespace Go.Proofs.Ytcmacejpoihhlaa
open Go.RowKit

theorem leftSize : (Try.prog.info? 94).map (·.size) = some 6 := by kernel_rfl
theorem ints6_size {l : List Int} (h : l.length = 6) : (ints l).toArray.size = 6 := by simp [h]
theorem left_size {l : List Int} (h : l.length = 6) : (Try.prog.info? 94).map (·.size) = some (ints l).toArray.size := by rw [ints6_size h]; exact leftSize
theorem ints_one {l : List Int} : (ints l).toArray.all (·.oneCell') = true := by simp only [List.all_toArray]; exact List.all_eq_true.2 (ints_oneCell' l)
def zero6 : Array Value := #[.int .i64 0, .int .i64 0, .int .i64 0, .int .i64 0, .int .i64 0, .int .i64 0]

set_option maxHeartbeats 1000000 in
set_option maxRecDepth 100000 in
theorem leftOf_any (A : Option Addr) (n c : Nat) (l : List Int) (w : World) (h : RdI w A n l) (hn : n ≤ 6) (hn1 : 1 ≤ n) :
    Calls Try.prog 85 #[.slice A n c] w fun e w' => e = .returned (.agg (ints (pad6 l)).toArray) ∧ Below w.heap.size w w' := by
  have hlen := h.len
  have h6 := pad6_len (c := l) (by omega)
  go_enter Try.func85, Try.ntmps85
  go_upto_region 2 with fail
  have HA := Lib.hid ((h.alloc (.cells zero6 94)).alloc (.cells zero6 94))
  have HB := Lib.hid (((Below.refl _ w).alloc (Nat.le_refl _) (.cells zero6 94)).alloc (by simp) (.cells zero6 94))
  have hx0 := (Blk.new w 94 zero6).alloc (.cells zero6 94)
  have hx1 := Blk.new (w.alloc (.cells zero6 94)) 94 zero6
  rw [show (w.alloc (.cells zero6 94)).heap.size = w.heap.size + 1 by simp] at hx1
  have HX0 := Lib.hid hx0
  have HX1 := Lib.hid hx1
  clear hx0 hx1 h
  generalize hW : (w.alloc (.cells zero6 94)).alloc (.cells zero6 94) = W at HA HB HX0 HX1
  unfold zero6 at hW
  rw [hW]
  clear hW
  obtain ⟨ad, rfl, hadl, hcells⟩ := HA.out.1.2.2 (by omega)
  have hrow : (zero6.toList.take 0 ++ ints l ++ zero6.toList.drop (0 + (ints l).length)).toArray = (ints (pad6 l)).toArray := by
    have e2 : zero6.toList = List.replicate 6 (.int .i64 0) := rfl
    rw [e2, List.take_zero, List.nil_append, List.drop_replicate, Nat.zero_add, ints_length]
    unfold pad6
    rw [ints_append]
    have e3 : ints (List.replicate (6 - l.length) 0) = List.replicate (6 - l.length) (.int .i64 0) := by unfold ints; rw [List.map_replicate]
    rw [e3]
  have hcp := run_copy_row (P := Try.prog) W 22 22 3 3 (w.heap.size + 1) 0 6 6 ad n c _ 94 (ints l) Try.underlying22 (by kernel_rfl) HX1.out (by rw [ints_length, hlen]; exact (Nat.min_eq_left hn).symm) (fun j v hv => hcells j v hv) (by rw [ints_length]; show _ ≤ 6; omega) (ints_oneCell' l)
  rw [hrow] at hcp
  have HX2 : Hid (Blk (W.setRow (w.heap.size + 1) (ints (pad6 l)).toArray) (w.heap.size + 1) 94 (ints (pad6 l)).toArray) := Lib.hid (setRow_heap W _ _ _ _ _ HX1.out)
  have HX3 : Hid (Blk (W.setRow (w.heap.size + 1) (ints (pad6 l)).toArray) w.heap.size 94 zero6) := Lib.hid ((setRow_other W _ _ _ (by omega)).trans HX0.out)
  have HB3 := Lib.hid (below_setRow HB.out (Nat.le_succ w.heap.size) (ints (pad6 l)).toArray)
  have hold : zero6.size = (ints (pad6 l)).toArray.size := by rw [ints6_size h6]; rfl
  have hsz := left_size h6
  clear hrow hcells HA HB HX0 HX1
  go_upto_region 3 with (at_builtin; refine Lib.wpList_copy_run _ rfl _ _ _ _ rfl _ _ rfl rfl hcp ?_)
  clear hcp
  generalize W.setRow (w.heap.size + 1) (ints (pad6 l)).toArray = W2 at HX2 HX3 HB3 ⊢
  go_wp2_with (first | (refine wpList_load_row rfl _ (.tmp 3) rfl (w.heap.size + 1) rfl _ _ _ _ HX2.out Try.underlying94 rfl hsz ?_) | (refine wpList_store_row rfl _ (.tmp 2) (.tmp 7) rfl w.heap.size (ints (pad6 l)).toArray rfl rfl _ _ HX3.out hsz hold ints_one ?_))
  exact bodyPost_ret (v := .agg (ints (pad6 l)).toArray) (results_cell_row rfl _ _ w.heap.size 94 _ (0, 0) _ rfl (setRow_heap W2 w.heap.size _ _ _ _ HX3.out) Try.underlying94 rfl hsz) rfl ⟨rfl, below_setRow HB3.out (Nat.le_refl _) _⟩

theorem six {l : List Int} (h : l.length = 6) : ∃ a b c d e f, l = [a, b, c, d, e, f] := by
  match l, h with
  | [a, b, c, d, e, f], _ => exact ⟨a, b, c, d, e, f, rfl⟩
theorem run_index_left {l : List Int} {k : Nat} {v : Int} (hk : l[k]? = some v) (h6 : k < 6) (wx : World) : (Instr.index 94 (.agg (ints l).toArray) (.int .i64 (k : Int))).run Try.prog wx = .ok (.int .i64 v) wx := by
  have hix : (ints l).toArray[k]? = some (.int .i64 v) := ints_arr_get hk
  have hn : (0 : Int) ≤ k ∧ (k : Int) < ((6 : Nat) : Int) := by omega
  have hu : Try.prog.underlying 94 = some (.array 6 3) := Try.underlying94
  simp [Instr.index, run_underlying hu, asIntOf, go_sem]
  simp at hix
  rw [if_pos (by omega)]
  simp [hix, go_sem]
def waysV (bs gy : Nat) : Value := .func (.func 119) #[] #[.pointer (some ⟨bs, 0, none⟩), .pointer (some ⟨gy, 0, none⟩)]

set_option maxHeartbeats 2000000 in
set_option maxRecDepth 100000 in
theorem waysRec_any (A : Option Addr) (n c bs gy : Nat) (sizes : List Int) (hs0 : ∀ s ∈ sizes, 0 ≤ s) (hs9 : sumN sizes ≤ 9) (hn9 : n ≤ 9) : ∀ (ss pre l : List Int) (w : World), sizes = pre ++ ss → l.length = 6 → Kinds l → RdI w A n sizes →
    bs < w.heap.size → gy < w.heap.size → w.cell? ⟨bs, 0, none⟩ = some (.slice A n c) → w.cell? ⟨gy, 0, none⟩ = some (waysV bs gy) →
    Calls Try.prog 119 #[.agg (ints l).toArray, .int .i64 (pre.length : Int), .pointer (some ⟨bs, 0, none⟩), .pointer (some ⟨gy, 0, none⟩)] w (NumM (chanceP ss l) w) := by
  intro ss
  induction ss with
  | nil =>
    intro pre l w he h6 hK h hbs hgy hcs hcy
    rw [List.append_nil] at he
    subst he
    have hlen := h.len
    have HB := Lib.hid ((Below.refl _ w).alloc (Nat.le_refl _) (.cells (ints l).toArray 94))
    have hcs' := (World.cell?_alloc_lt w (.cells (ints l).toArray 94) ⟨bs, 0, none⟩ hbs).trans hcs
    clear h hK hs0 hs9
    rw [hlen]
    go_enter Try.func119, Try.ntmps119
    go_wp2
    go_ret
    exact ⟨rfl, HB.out⟩
  | cons s ss ih =>
    intro pre l w he h6 hK h hbs hgy hcs hcy
    have hlen := h.len
    have hln : pre.length < n := by rw [he] at hlen; simp at hlen; omega
    obtain ⟨ad, s', rfl, hadl, hsg, _, hsc⟩ := h.at_ hln
    obtain rfl : s' = s := by
      have := hsg.out
      rw [he, List.getElem?_append_right (Nat.le_refl _), Nat.sub_self] at this
      simp at this; exact this.symm
    have hsnn := hs0 s' (by rw [he]; simp)
    have hsum : sumN (s' :: ss) ≤ 9 := by
      have key : ∀ a b : List Int, sumN (a ++ b) = sumN a + sumN b := by
        intro a b
        induction a with
        | nil => simp [sumN]
        | cons x a iha => simp only [List.cons_append, sumN_cons, iha]; omega
      have := key pre (s' :: ss)
      rw [← he] at this
      omega
    have hln2 : (s' :: ss).length ≤ 9 := by rw [he] at hlen; simp at hlen ⊢; omega
    have hss : ∀ x ∈ s' :: ss, 0 ≤ x := fun x hx => hs0 x (by rw [he]; exact List.mem_append_right _ hx)
    have hbd9 := chBd_9 hln2 hsum
    obtain ⟨sn, rfl⟩ : ∃ sn : Nat, s' = sn := ⟨s'.toNat, by omega⟩
    have hsn9 : sn ≤ 9 := by rw [sumN_cons] at hsum; omega
    have IH := Lib.hid ih
    have HE := Lib.hid he
    have HSS := Lib.hid hss
    have HBD := Lib.hid hbd9
    have HCP : Hid (chanceP ((sn : Int) :: ss) l = chanceTo sn ss l 6) := Lib.hid (by rw [chanceP_cons, h6])
    obtain ⟨b, hb⟩ : ∃ b, pre.length = b := ⟨_, rfl⟩
    rw [hb] at hsc hln ⊢
    have HBL := Lib.hid hb
    have HKK := Lib.hid hK
    have HS0 := Lib.hid hs0
    clear ih he hss hbd9 hsum hln2 hsg hs0 hs9 hb hK
    have hlb : (b : Int) < n := by omega
    have g0 : ((b : Int) == n) = false := by simp; omega
    go_enter Try.func119, Try.ntmps119
    go_upto_region 1 with fail
    have HR := Lib.hid (h.alloc (.cells (ints l).toArray 94))
    have HB := Lib.hid ((Below.refl _ w).alloc (Nat.le_refl _) (.cells (ints l).toArray 94))
    have HX := Lib.hid (Blk.new w 94 (ints l).toArray)
    have c1 := (World.cell?_alloc_lt w (.cells (ints l).toArray 94) ⟨bs, 0, none⟩ hbs).trans hcs
    have c2 := (World.cell?_alloc_lt w (.cells (ints l).toArray 94) ⟨gy, 0, none⟩ hgy).trans hcy
    have c3 := (World.cell?_alloc_lt w (.cells (ints l).toArray 94) (ad.add b) (by rw [block_of_add]; exact hadl)).trans hsc
    have hWs : w.heap.size < (w.alloc (.cells (ints l).toArray 94)).heap.size := by simp
    clear h
    have hsz6 := left_size h6
    generalize w.alloc (.cells (ints l).toArray 94) = W at HR HB HX c1 c2 c3 hWs ⊢
    go_wp2_with (first | (refine wpList_load_row rfl _ (.tmp 4) rfl w.heap.size rfl _ _ _ _ HX.out Try.underlying94 rfl hsz6 ?_))
    have hbsW : bs < W.heap.size := by omega
    have hgyW : gy < W.heap.size := by omega
    have hadW : ad.block < W.heap.size := by omega
    go_loopw [7, 16] (fun nn i wr => ∃ k : Nat, k ≤ 6 ∧ i = .int .i64 k ∧ nn = .int .i64 (chanceTo sn ss l k) ∧ Below W.heap.size W wr) (fun _ i _ => 6 - (intOf i).toNat)
    case atStart => exact ⟨0, by omega, rfl, rfl, Below.refl _ _⟩
    case round =>
      obtain ⟨k, hk, rfl, rfl, hbel⟩ := hrel
      have hbd0 := chanceTo_bd HSS.out HKK.out k (by rw [h6]; exact hk)
      obtain ⟨nn, hnn⟩ : ∃ nn, chanceTo sn ss l k = nn := ⟨_, rfl⟩
      rw [hnn] at hbd0 ⊢
      by_cases hlt : k < 6
      · obtain ⟨v, hv⟩ : ∃ v, l[k]? = some v := ⟨_, get_getD (by rw [h6]; exact hlt)⟩
        have q := run_index_left hv hlt
        have hv9 := HKK.out.2 v (List.mem_of_getElem? hv)
        have HVD := Lib.hid (getD_of_get (d := 0) hv)
        have HR1 := Lib.hid (HR.out.below hbel)
        have HX1 := Lib.hid (HX.out.below hbel)
        have HB1 := Lib.hid hbel
        have hszr := hbel.size
        have e1 := (hbel.cell (p := ⟨bs, 0, none⟩) hbsW).trans c1
        have e2 := (hbel.cell (p := ⟨gy, 0, none⟩) hgyW).trans c2
        have e3 := (hbel.cell (p := ad.add b) (by rw [block_of_add]; exact hadW)).trans c3
        clear hbel hv
        by_cases hsv : (sn : Int) ≤ v
        · go_upto_region 8 with fail
          have HF1 : Hid (chanceTo sn ss l (k + 1) = nn + fallN v sn * chanceP ss (l.set k 0)) := Lib.hid (by rw [chanceTo_succ, hnn]; unfold chStep; rw [HVD.out, if_pos hsv, Int.toNat_natCast])
          have hft := chance_term (s := (sn : Int)) (x := chanceP ss (l.set k 0)) (B := chBd ss) (by omega) hsv hv9.2 (chanceP_bd ss (l.set k 0) (fun x hx => HSS.out x (by simp [hx])) (HKK.out.set k))
          rw [Int.toNat_natCast] at hft
          have hbd1 := chanceTo_bd HSS.out HKK.out (k + 1) (by rw [h6]; exact hlt)
          rw [HF1.out] at hbd1
          have hK2 := HKK.out.set k
          have hl2 : (l.set k 0).length = 6 := by rw [List.length_set]; exact h6
          have HFA : Hid (∀ W', Calls Try.prog 79 #[.int .i64 v, .int .i64 sn] W' (Num (fallN v sn) W')) := Lib.hid (fun W' => falling_any v sn W' hsn9 hsv (by omega))
          obtain ⟨F, hF⟩ : ∃ F, fallN v sn = F := ⟨_, rfl⟩
          obtain ⟨C, hC⟩ : ∃ C, chanceP ss (l.set k 0) = C := ⟨_, rfl⟩
          rw [hF] at HF1 hft hbd1 HFA
          rw [hC] at HF1 hft hbd1
          have hbdn := HBD.out
          have hw2 : IntKind.i64.wrap (nn + F * C) = nn + F * C := IntWalk.i64_in _ (by omega)
          have hw1 : IntKind.i64.wrap (F * C) = F * C := IntWalk.i64_in _ (by omega)
          have hw3 : IntKind.i64.wrap ((b : Int) + 1) = (b : Int) + 1 := IntWalk.i64_in _ (by omega)
          have hb1 : (0 : Int) ≤ (b : Int) + 1 := by omega
          have HC := Lib.hid hC
          clear hft hbd1 hbdn hF hC hnn hbd0
          have hnew : Hid (Blk (wr.alloc (.cells zero6 94)) wr.heap.size 94 zero6) := Lib.hid (Blk.new _ _ _)
          have hX2 : Hid (Blk (wr.alloc (.cells zero6 94)) w.heap.size 94 (ints l).toArray) := Lib.hid (HX1.out.alloc _)
          have hold : zero6.size = (ints l).toArray.size := by rw [ints6_size h6]; rfl
          have HBN := Lib.hid (below_setRow ((Below.refl _ wr).alloc (Nat.le_refl _) (.cells zero6 94)) (Nat.le_refl _) (ints l).toArray)
          have HN1 : Hid (Blk ((wr.alloc (.cells zero6 94)).setRow wr.heap.size (ints l).toArray) wr.heap.size 94 (ints l).toArray) := Lib.hid (setRow_heap _ _ _ _ _ _ hnew.out)
          go_upto_region 9 with (first | (refine wpList_load_row rfl _ (.tmp 4) rfl w.heap.size rfl _ _ _ _ HX1.out Try.underlying94 rfl hsz6 ?_) | (refine wpList_store_row rfl _ (.tmp 10) (.tmp 26) rfl wr.heap.size (ints l).toArray rfl rfl _ _ hnew.out hsz6 hold ints_one ?_))
          generalize hW1 : (wr.alloc (.cells zero6 94)).setRow wr.heap.size (ints l).toArray = W1 at HBN HN1
          unfold zero6 at hW1
          rw [hW1]
          clear hW1 hnew hX2 hold
          have hgs : wr.heap.size < W1.heap.size := HN1.out.lt
          have n0 : W1.cell? ⟨wr.heap.size, k, none⟩ = some (.int .i64 v) := by rw [HN1.out.cell]; exact ints_arr_get (by have := HVD.out; rw [← this]; exact get_getD (by rw [h6]; exact hlt))
          have nf := HN1.out.frozen k
          have HN2 : Hid (Blk (W1.setCell ⟨wr.heap.size, k, none⟩ (.int .i64 0)) wr.heap.size 94 (ints (l.set k 0)).toArray) := Lib.hid (by rw [← ints_arr_set]; exact HN1.out.set_ _ _)
          have HBN2 := Lib.hid (HBN.out.setCell (p := ⟨wr.heap.size, k, none⟩) (Nat.le_refl _) (.int .i64 0))
          go_upto_region 10 with fail
          generalize W1.setCell ⟨wr.heap.size, k, none⟩ (.int .i64 0) = W2 at HN2 HBN2 ⊢
          clear HN1 HBN hgs n0 nf
          have hgs : wr.heap.size < W2.heap.size := HN2.out.lt
          obtain ⟨y0, y1, y2, y3, y4, y5, hy⟩ := six hl2
          rw [hy] at HC hK2 HN2
          have hbs2 : bs < wr.heap.size := by omega
          have hgy2 : gy < wr.heap.size := by omega
          have had2 : ad.block < wr.heap.size := by omega
          have m1 := (HBN2.out.cell (p := ⟨bs, 0, none⟩) hbs2).trans e1
          have m2 := (HBN2.out.cell (p := ⟨gy, 0, none⟩) hgy2).trans e2
          have m3 := (HBN2.out.cell (p := ad.add b) (by rw [block_of_add]; exact had2)).trans e3
          unfold waysV at m2
          have p0 : W2.cell? ⟨wr.heap.size, 0, none⟩ = some (.int .i64 y0) := by rw [HN2.out.cell]; rfl
          have p1 : W2.cell? ⟨wr.heap.size, 1, none⟩ = some (.int .i64 y1) := by rw [HN2.out.cell]; rfl
          have p2 : W2.cell? ⟨wr.heap.size, 2, none⟩ = some (.int .i64 y2) := by rw [HN2.out.cell]; rfl
          have p3 : W2.cell? ⟨wr.heap.size, 3, none⟩ = some (.int .i64 y3) := by rw [HN2.out.cell]; rfl
          have p4 : W2.cell? ⟨wr.heap.size, 4, none⟩ = some (.int .i64 y4) := by rw [HN2.out.cell]; rfl
          have p5 : W2.cell? ⟨wr.heap.size, 5, none⟩ = some (.int .i64 y5) := by rw [HN2.out.cell]; rfl
          have HI : Hid (Calls Try.prog 119 #[.agg #[.int .i64 y0, .int .i64 y1, .int .i64 y2, .int .i64 y3, .int .i64 y4, .int .i64 y5], .int .i64 ((b : Int) + 1), .pointer (some ⟨bs, 0, none⟩), .pointer (some ⟨gy, 0, none⟩)] W2.drew (NumM C W2.drew)) := Lib.hid (by
            have := IH.out (pre ++ [(sn : Int)]) [y0, y1, y2, y3, y4, y5] W2.drew (by rw [HE.out]; simp) rfl hK2 (HR1.out.below HBN2.out.drew) (by show bs < W2.heap.size; omega) (by show gy < W2.heap.size; omega) m1 (by unfold waysV; exact m2)
            rw [List.length_append, HBL.out, HC.out] at this
            exact this)
          have k1 : bs < W2.drew.heap.size := by show bs < W2.heap.size; omega
          have k2 : gy < W2.drew.heap.size := by show gy < W2.heap.size; omega
          have k3 : (ad.add b).block < W2.drew.heap.size := by rw [block_of_add]; show ad.block < W2.heap.size; omega
          have k4 : wr.heap.size < W2.drew.heap.size := by show wr.heap.size < W2.heap.size; omega
          clear IH HR1 HN2 hK2 hl2 HC hy HX1 HVD e1 e2 e3
          go_region_held3 (fun w' => (w'.cell? ⟨bs, 0, none⟩ = some (.slice (some ad) n c) ∧ w'.cell? (ad.add b) = some (.int .i64 sn)) ∧ w'.cell? ⟨gy, 0, none⟩ = some (.func (.func 119) #[] #[.pointer (some ⟨bs, 0, none⟩), .pointer (some ⟨gy, 0, none⟩)]) ∧ w'.cell? ⟨wr.heap.size, 0, none⟩ = some (.int .i64 y0) ∧ w'.cell? ⟨wr.heap.size, 1, none⟩ = some (.int .i64 y1) ∧ w'.cell? ⟨wr.heap.size, 2, none⟩ = some (.int .i64 y2) ∧ w'.cell? ⟨wr.heap.size, 3, none⟩ = some (.int .i64 y3) ∧ w'.cell? ⟨wr.heap.size, 4, none⟩ = some (.int .i64 y4) ∧ w'.cell? ⟨wr.heap.size, 5, none⟩ = some (.int .i64 y5)) (first | exact ⟨⟨m1, m3⟩, m2, p0, p1, p2, p3, p4, p5⟩ | exact ⟨⟨(hcl.cell k1).trans m1, (hcl.cell k3).trans m3⟩, (hcl.cell k2).trans m2, (hcl.cell k4).trans p0, (hcl.cell k4).trans p1, (hcl.cell k4).trans p2, (hcl.cell k4).trans p3, (hcl.cell k4).trans p4, (hcl.cell k4).trans p5⟩) (first
            | (go_at_call 79; refine (HFA.out _).mono ?_; rintro e w9 ⟨rfl, rfl⟩)
            | (go_at_call 119; refine HI.out.mono ?_; rintro e wc ⟨rfl, hcl⟩))
          have HZ := Lib.hid (HB1.out.trans ((HBN2.out.drew.trans (hcl.mono (by show wr.heap.size ≤ W2.heap.size; omega))).mono hszr))
          clear hcl HBN2
          go_wp2
          go_roundw
          case rel => exact ⟨k + 1, by omega, by go_num, by rw [HF1.out], HZ.out⟩
          case measure => simp [intOf]; omega
        · have HN : Hid (chanceTo sn ss l (k + 1) = nn) := Lib.hid (by rw [chanceTo_succ, hnn]; unfold chStep; rw [HVD.out, if_neg hsv])
          have hg : ¬((sn : Int) ≤ v) := hsv
          clear hnn hsv
          go_wp2
          go_roundw
          case rel => exact ⟨k + 1, by omega, by go_num, by rw [HN.out], HB1.out⟩
          case measure => simp [intOf]; omega
      · obtain rfl : k = 6 := by omega
        have HN : Hid (chanceP ((sn : Int) :: ss) l = nn) := Lib.hid (HCP.out.trans hnn)
        clear hnn
        go_wp2
        go_ret
        exact ⟨ret_int HN.out.symm, HB.out.trans (hbel.mono HB.out.size)⟩
end Go.Proofs.Ytcmacejpoihhlaa

namespace Go.Proofs.Ytcmacejpoihhlaa
open Go.RowKit

set_option maxHeartbeats 2000000 in
set_option maxRecDepth 100000 in
theorem chance_any (A : Option Addr) (n c : Nat) (p l : List Int) (w : World) (h : RdI w A n p) (hk : chk p = 0) (h6 : l.length = 6) (hK : Kinds l) :
    Calls Try.prog 84 #[.agg (ints l).toArray, .slice A n c] w (NumM (chanceP (sizesOf p) l) w) := by
  have hlen := h.len
  have hck := chk_ok hk
  have hb9 := blk_le9 hk
  have hsz6 := left_size h6
  obtain ⟨a, r, hp⟩ : ∃ a r, p = a :: r := by
    cases p with
    | nil => simp at hck
    | cons a r => exact ⟨a, r, rfl⟩
  have HMX : Hid (mx a r + 1 = blk p) := Lib.hid (by rw [hp]; exact (blk_mx a r (hp ▸ chk_small hk)).symm)
  obtain ⟨m, hm⟩ : ∃ m : Nat, blk p = m := ⟨(blk p).toNat, by omega⟩
  have hm1 : 1 ≤ m := by omega
  have hm9 : m ≤ 9 := by omega
  have hn9 : n ≤ 9 := by omega
  have HSO := Lib.hid (fun k hk' => sizes_ok (p := p) (m := m) (fun v hv => by have h1 := hck.2.2.1 v hv; have h2 := lt_blk hv; omega) k hk')
  have HPV : Hid (∀ v ∈ p, 0 ≤ v ∧ v < m) := Lib.hid (fun v hv => by have h1 := hck.2.2.1 v hv; have h2 := lt_blk hv; omega)
  have HM := Lib.hid hm
  have HL := Lib.hid hlen
  have hmx : mx a r = (m : Int) - 1 := by have := HMX.out; omega
  obtain ⟨i0, hi0, hz0, hz1, hz2⟩ := info_parts intInfo
  clear hb9 hck hk hm hlen
  go_enter Try.func84, Try.ntmps84
  go_upto_region 1 with fail
  have HR := Lib.hid (h.alloc (.cells (ints l).toArray 94))
  have HB := Lib.hid ((Below.refl _ w).alloc (Nat.le_refl _) (.cells (ints l).toArray 94))
  have HX := Lib.hid (Blk.new w 94 (ints l).toArray)
  have hWs : (w.alloc (.cells (ints l).toArray 94)).heap.size = w.heap.size + 1 := by simp
  clear h
  generalize w.alloc (.cells (ints l).toArray 94) = W at HR HB HX hWs ⊢
  have HPA := Lib.hid hp
  have hMax := max_any A n c a r W (hp ▸ HR.out)
  rw [hmx] at hMax
  go_upto_region 2 with (first | (go_at_call 96; refine hMax.mono ?_; rintro e w' ⟨rfl, rfl⟩) | (at_make; go_must (refine wpList_make_full W rfl (.tmp 11) (.tmp 11) 22 rfl (w.heap.size + 1) 3 i0 (.int .i64 0) 1 Try.underlying22 hi0 hz0 hz1 .i64 .i64 m m m rfl rfl rfl rfl (by rw [hz2]; omega) (by unfold maxLen; omega) (by omega) ?_); intro w3 hown hg3))
  have HO3 : Hid (OwnI w3 (w.heap.size + 1) 3 (some ⟨w.heap.size + 1, 0, none⟩) m m (sizesTo p m 0)) := by
    refine ⟨⟨?_, by omega⟩, fun v hv => ?_⟩
    · rw [hWs, show (madeCells (Value.int .i64 0).cells (m * 1)).toList = ints (sizesTo p m 0) from by rw [Nat.mul_one]; show (madeCells #[Value.int .i64 0] m).toList = _; rw [toList_madeCells_one]; simp [ints, sizesTo]] at hown
      exact hown
    · have := (HSO.out 0 (by omega)).pos v hv
      exact I64.small (by omega)
  have HBW3 := Lib.hid ((Below.refl _ W).grown hg3 (Nat.le_refl _) (by simp))
  have hbs := HBW3.out.size
  obtain ⟨bs, hbse⟩ : ∃ bs, w3.heap.size = bs := ⟨_, rfl⟩
  have HO4 := Lib.hid (HO3.out.alloc (.cells #[.slice (some ⟨w.heap.size + 1, 0, none⟩) m m] 22))
  have HX4 := Lib.hid (Blk.new w3 22 #[.slice (some ⟨w.heap.size + 1, 0, none⟩) m m])
  have HB4 := Lib.hid (HBW3.out.alloc hbs (.cells #[.slice (some ⟨w.heap.size + 1, 0, none⟩) m m] 22))
  have hlt3 : w.heap.size + 1 < w3.heap.size := by
    have := (HO3.out.1.block (k := w.heap.size + 1) rfl).2
    omega
  rw [hbse] at HX4 hlt3 ⊢
  clear hown hg3 hi0 hz0 hz1 hz2 HO3 HBW3 hbs hMax hp hmx
  generalize w3.alloc (.cells #[.slice (some ⟨w.heap.size + 1, 0, none⟩) m m] 22) = w4 at HO4 HX4 HB4 ⊢
  clear hbse
  go_wp2_with fail
  go_loopw [15] (fun i wr => ∃ k : Nat, k ≤ n ∧ i = .int .i64 k ∧ OwnI wr (w.heap.size + 1) 3 (some ⟨w.heap.size + 1, 0, none⟩) m m (sizesTo p m k) ∧ Blk wr bs 22 #[.slice (some ⟨w.heap.size + 1, 0, none⟩) m m] ∧ Below W.heap.size W wr) (fun i _ => n - (intOf i).toNat)
  case atStart => exact ⟨0, by omega, rfl, HO4.out, HX4.out, HB4.out⟩
  case round =>
    obtain ⟨k, hk, rfl, hown, hblk, hbel⟩ := hrel
    have HO := Lib.hid hown
    have HXS := Lib.hid hblk
    have HBW := Lib.hid hbel
    have HRR := Lib.hid (HR.out.below hbel)
    have hbc : wr.cell? ⟨bs, 0, none⟩ = some (.slice (some ⟨w.heap.size + 1, 0, none⟩) m m) := by rw [HXS.out.cell]; rfl
    clear hown hblk hbel HO4 HX4 HB4
    by_cases hlt : k < n
    · obtain ⟨ad, v, rfl, _, hv, _, hcv⟩ := HRR.out.at_ hlt
      have hv2 := HPV.out v (List.mem_of_getElem? hv.out)
      obtain ⟨v, rfl⟩ : ∃ v' : Nat, v = v' := ⟨v.toNat, by omega⟩
      have hvm : v < m := by omega
      have hso := HSO.out k (by rw [HL.out]; exact hk)
      obtain ⟨u, hu⟩ : ∃ u, (sizesTo p m k)[v]? = some u := ⟨_, get_getD (by rw [hso.len]; exact hvm)⟩
      have hu0 := hso.pos u (List.mem_of_getElem? hu)
      have hcu := HO.out.cellAt hu
      have hfu := HO.out.frozenAt v
      have HN : Hid (sizesTo p m (k + 1) = (sizesTo p m k).set v (u + 1)) := Lib.hid (by rw [sizesTo_succ hv.out]; unfold sizeStep; rw [Int.toNat_natCast, getD_of_get hu])
      have HU : Hid (I64 (u + 1)) := Lib.hid (I64.small (by omega))
      have hu9 : u ≤ 9 := by omega
      have hu1 : 0 ≤ u := by omega
      clear hso hu hu0
      go_wp2
      go_roundw
      case rel => exact ⟨k + 1, by omega, by go_num, by rw [HN.out]; exact HO.out.stored v HU.out, HXS.out.far (p := ⟨w.heap.size + 1, v, none⟩) (by simp; omega) _, HBW.out.setCell (p := ⟨w.heap.size + 1, v, none⟩) (by rw [hWs]; simp) _⟩
      case measure => simp [intOf]; omega
    · obtain rfl : k = n := by omega
      have HSE : Hid (sizesTo p m k = sizesOf p) := Lib.hid (by unfold sizesOf; rw [HM.out, Int.toNat_natCast, HL.out])
      rw [HSE.out] at HO
      have hso := HSO.out k (by rw [HL.out]; exact Nat.le_refl _)
      rw [HSE.out] at hso
      go_upto_region 8 with fail
      have hgy := HBW.out.size
      have HO5 := Lib.hid (HO.out.alloc (.cells #[.nilFunc] 134))
      have HXS5 := Lib.hid (HXS.out.alloc (.cells #[.nilFunc] 134))
      have HXY := Lib.hid (Blk.new wr 134 #[.nilFunc])
      have HB5 := Lib.hid (HBW.out.alloc hgy (.cells #[.nilFunc] 134))
      have hbslt := HXS.out.lt
      obtain ⟨gy, hgye⟩ : ∃ gy, wr.heap.size = gy := ⟨_, rfl⟩
      rw [hgye] at HXY hgy hbslt ⊢
      clear HO HXS HBW hbc HRR
      generalize wr.alloc (.cells #[.nilFunc] 134) = w5 at HO5 HXS5 HXY HB5 ⊢
      clear hgye
      have hyc : w5.cell? ⟨gy, 0, none⟩ = some .nilFunc := by rw [HXY.out.cell]; rfl
      have hyf := HXY.out.frozen 0
      have q : (store (⟨gy, 0, none⟩ : Addr) (.func (.func 119) #[] #[.pointer (some ⟨bs, 0, none⟩), .pointer (some ⟨gy, 0, none⟩)])).run Try.prog w5 = .ok () (w5.setCell ⟨gy, 0, none⟩ (.func (.func 119) #[] #[.pointer (some ⟨bs, 0, none⟩), .pointer (some ⟨gy, 0, none⟩)])) := by
        rw [run_store _ _ _ _ _ rfl, hyc]
        simp [hyf]
      have HYW := Lib.hid (HXY.out.set_ 0 (waysV bs gy))
      have HO6 := Lib.hid (HO5.out.far (p := ⟨gy, 0, none⟩) (by simp; omega) (waysV bs gy))
      have HXS6 := Lib.hid (HXS5.out.far (p := ⟨gy, 0, none⟩) (by simp; omega) (waysV bs gy))
      have HB6 := Lib.hid (HB5.out.setCell (p := ⟨gy, 0, none⟩) hgy (waysV bs gy))
      clear HO5 HXS5 HB5 HXY
      go_upto_region 9 with fail
      generalize hw6 : w5.setCell ⟨gy, 0, none⟩ (waysV bs gy) = w6 at HYW HO6 HXS6 HB6
      unfold waysV at hw6
      rw [hw6]
      clear hw6 q hyc hyf
      have hbc : w6.cell? ⟨bs, 0, none⟩ = some (.slice (some ⟨w.heap.size + 1, 0, none⟩) m m) := by rw [HXS6.out.cell]; rfl
      have hyc : w6.cell? ⟨gy, 0, none⟩ = some (waysV bs gy) := by rw [HYW.out.cell]; rfl
      have HX6 := Lib.hid (HX.out.below HB6.out)
      have HI := Lib.hid (waysRec_any (some ⟨w.heap.size + 1, 0, none⟩) m m bs gy (sizesOf p) (fun s hs => (hso.pos s hs).1) (by rw [hso.sum]; exact hn9) hm9 (sizesOf p) [] l w6 rfl h6 hK HO6.out.rd HXS6.out.lt HYW.out.lt hbc hyc)
      unfold waysV at hyc
      go_wp2_with (first | (refine wpList_load_row rfl _ (.tmp 2) rfl w.heap.size rfl _ _ _ _ HX6.out Try.underlying94 rfl hsz6 ?_) | (go_at_call 119; refine HI.out.mono ?_; rintro e wc ⟨rfl, hcl⟩))
      go_ret
      exact ⟨rfl, HB.out.trans ((HB6.out.trans (hcl.mono HB6.out.size)).mono HB.out.size)⟩
end Go.Proofs.Ytcmacejpoihhlaa
