/- Walks: the partitions that come behind one, handed out in order: up to the first. -/
import Derived.RangeFuncNested
import Derived.RangeFuncBound
import Derived.RangeFuncCalls
import Derived.RangeFuncLeaves
import Derived.Shelf.Abstract
import Derived.Shelf.RegionOpen
import Derived.OwnWalkIn
import Derived.TacticsInMore
import Derived.LoopNIn
import Derived.LoopIn
import Derived.Lib.SliceRun
import Derived.Test.YtooepkpgffpcjaaDoorAfter
namespace Go.Proofs.YtooepkpgffpcjaaDoor
open Go.RowKit Go.Shelf

def zeroFrom (l : List Int) (o : Nat) : Nat → List Int
  | 0 => l
  | m + 1 => zeroFrom (l.set o 0) (o + 1) m
theorem set_take {l : List Int} {o : Nat} {z : Int} (h : o < l.length) : (l.set o z).take (o + 1) = l.take o ++ [z] := by
  rw [take_of_get (List.getElem?_set_self h)]
  congr 1
  apply List.ext_getElem?
  intro i
  simp only [List.getElem?_take]
  split
  · rw [List.getElem?_set_ne (by omega)]
  · rfl
theorem zeroFrom_eq (m : Nat) : ∀ (l : List Int) (o : Nat), o + m = l.length → zeroFrom l o m = l.take o ++ List.replicate m 0 := by
  induction m with
  | zero => intro l o h; simp only [zeroFrom, List.replicate_zero, List.append_nil]; rw [List.take_of_length_le (by omega)]
  | succ m ih =>
    intro l o h
    rw [zeroFrom, ih _ _ (by rw [List.length_set]; omega), set_take (by omega), List.append_assoc]
    rfl
theorem clear_next {l : List Int} {k : Nat} (h : k < l.length) : zeroFrom (l.set k (l.getD k 0 + 1)) (k + 1) (l.length - (k + 1)) = nextAt l k := by
  rw [zeroFrom_eq _ _ _ (by rw [List.length_set]; omega), set_take h]
  rfl
theorem own_zero {base g n c : Nat} {e : TypeId} (m : Nat) : ∀ (w : World) (l : List Int) (o : Nat), OwnI w base e (some ⟨g, 0, none⟩) n c l → OwnI (w.setCells g o (List.replicate m (.int .i64 0))) base e (some ⟨g, 0, none⟩) n c (zeroFrom l o m) := by
  induction m with
  | zero => intro w l o h; exact h
  | succ m ih =>
    intro w l o h
    rw [List.replicate_succ]
    exact ih _ _ (o + 1) (h.stored o (I64.small (by omega)))
theorem below_zero {B g : Nat} {a : World} (hg : B ≤ g) (m : Nat) : ∀ (w : World) (o : Nat), Below B a w → Below B a (w.setCells g o (List.replicate m (.int .i64 0))) := by
  induction m with
  | zero => intro w o h; exact h
  | succ m ih =>
    intro w o h
    rw [List.replicate_succ]
    exact ih _ (o + 1) (h.setCell (p := ⟨g, o, none⟩) hg _)
theorem clear_run {base g n c : Nat} {w : World} {l : List Int} (h : OwnI w base 3 (some ⟨g, 0, none⟩) n c l) (o cc : Nat) (ho : o ≤ n) :
    (Builtin.clear_ #[22] 0 #[.slice (some ⟨g, o, none⟩) (n - o) cc]).run Tryd.prog w = .ok (.tuple #[]) (w.setCells g o (List.replicate (n - o) (.int .i64 0))) := by
  rcases Nat.eq_zero_or_pos (n - o) with hz | hp
  · rw [hz]
    simp [Builtin.clear_, run_underlying Tryd.underlying22, World.setCells]
  · refine Lib.run_clear_slice w 22 3 0 (.int .i64 0) Tryd.underlying22 zeroInt rfl rfl g o (n - o) cc hp (fun j hj => ?_) (fun j _ => h.frozenAt _)
    obtain ⟨v, hv⟩ : ∃ v, l[o + j]? = some v := ⟨_, get_getD (by rw [h.len]; omega)⟩
    rw [h.cellAt hv]; rfl

theorem clear_run0 (w : World) (g o cc : Nat) : (Builtin.clear_ #[22] 0 #[.slice (some ⟨g, o, none⟩) 0 cc]).run Tryd.prog w = .ok (.tuple #[]) w := by
  simp [Builtin.clear_, run_underlying Tryd.underlying22]

/-- the iterator's maker: what it was given lies in a box -/
theorem after_any (A : Option Addr) (n c : Nat) (w : World) : Calls Tryd.prog 97 #[.slice A n c] w fun e w' => e = .returned (.func (.func 118) #[] #[.pointer (some ⟨w.heap.size, 0, none⟩)]) ∧ w' = w.alloc (.cells #[.slice A n c] 22) := by
  go_enter Tryd.func97, Tryd.ntmps97
  go_wp2
  go_ret
  exact ⟨rfl, rfl⟩

set_option maxHeartbeats 1000000 in
set_option maxRecDepth 100000 in
theorem iter_any (lp : Nat) (Jx : Option Addr → Nat → List Int → World → Prop) (bx : Nat) (A : Option Addr) (n c : Nat) (l : List Int) (W : World) (hb : W.cell? ⟨bx, 0, none⟩ = some (.slice A n c)) (h : RdI W A n l) (h0 : chk l = 0)
    (hY : ∀ (A' : Option Addr) (c' : Nat) (q : List Int) (W1 : World), Below W.heap.size W W1 → nextL l = some q → OwnI W1 W.heap.size 3 A' n c' q → YieldAt Fence.wide 1 Tryd.prog lp #[.slice A' n c'] W1 fun e W' => e = .returned (.bool false) ∧ Jx A' c' q W') :
    CallsIn Fence.wide 2 Tryd.prog 118 #[.func (.yield lp) #[] #[], .pointer (some ⟨bx, 0, none⟩)] W fun e W' => (∃ v, e = .returned v) ∧
      ((nextL l = none ∧ Below W.heap.size W W') ∨ (∃ A' c' q, nextL l = some q ∧ Jx A' c' q W')) := by
  have hln := h.len
  have hn1 : 1 ≤ n := by have := (chk_ok h0).1; omega
  have hn9 : n ≤ 9 := by have := (chk_ok h0).2.1; omega
  have HCK := Lib.hid h0
  have HLN := Lib.hid hln
  have HNL : Hid (nextL l = nextFrom l (n - 1)) := Lib.hid (by unfold nextL; rw [hln])
  have HY := Lib.hid hY
  have hA : A.isNone = false := by
    obtain ⟨ad, e, _⟩ := h.1.2.2 (by omega)
    rw [e]; rfl
  clear h0 hY
  refine callsIn_of_wp Tryd.func118 rfl trivial ?_ rfl
  simp only [Tryd.ntmps118, List.size_toArray, List.length_cons, List.length_nil, Nat.reduceAdd, Nat.reduceSub, Array.replicate_succ, Array.replicate_zero, List.push_toArray, List.append_toArray, List.nil_append, List.cons_append]
  refine wpIn_wide.2 (wp_scope_straight ((wpIn_wide (n := 2)).1 ?_))
  gi_wp2_with (refine ⟨trivial, ?_⟩; gi_at_call 82; refine (callsIn_wide.2 (clone_any A n c l W h (by omega) hA)).mono ?_; rintro e w1 ⟨G, co, rfl, ho, hbl⟩; rw [hln] at ho; rw [hln]; have HO1 := Lib.hid ho; have HB1 := Lib.hid hbl; clear ho hbl)
  refine wpIn_label ?_
  gi_wp2
  gi_loopw [4] (fun i wr => ∃ k : Nat, k < n ∧ i = .int .i64 k ∧ Hid (nextL l = nextFrom l k) ∧ OwnI wr W.heap.size 3 G n co l ∧ Below W.heap.size W wr) (fun i _ => (intOf i).toNat)
  case atStart => exact ⟨n - 1, by omega, by congr 1; omega, HNL, HO1.out, HB1.out⟩
  case round =>
    obtain ⟨k, hkn, rfl, HN, hown, hbel⟩ := hrel
    have HO := Lib.hid hown
    have HB := Lib.hid hbel
    clear hown hbel HNL HO1 HB1
    by_cases hk1 : 1 ≤ k
    · obtain ⟨g, rfl, hgb, _⟩ := HO.out.form (by omega)
      obtain ⟨v, hv⟩ : ∃ v, l[k]? = some v := ⟨_, get_getD (by rw [HLN.out]; exact hkn)⟩
      have hcell0 := HO.out.cellAt hv
      have hfz := HO.out.frozenAt k
      have hv9 := (chk_ok HCK.out).2.2.1 v (List.mem_of_getElem? hv)
      have hb9 := blk_take_le HCK.out k
      obtain ⟨b, hb⟩ : ∃ b : Nat, blk (l.take k) = b := ⟨(blk (l.take k)).toNat, by omega⟩
      have HT := Lib.hid (HO.out.rd.take_ (k := k) (by omega))
      have HSM := Lib.hid ((chk_small HCK.out).take k)
      have HBB := Lib.hid hb
      have HV := Lib.hid (getD_of_get (d := 0) hv)
      have hbb : b ≤ k := by omega
      have hk0 : (0 : Int) ≤ k := by omega
      have hkI : (k : Int) < n := by omega
      have hkp : 0 < (k : Int) := by omega
      have hcn : n ≤ co := by
        rcases HO.out.1.1.2 with ⟨_, h0⟩ | ⟨g', cap, cur, hv', _, _, hnc, _⟩
        · omega
        · injection hv' with e1 e2 e3; omega
      have hkc : (k : Int) ≤ co := by omega
      have hkp' : 0 < k := hk1
      by_cases hlt : v < b
      · have HY1 := Lib.hid (nextFrom_yes hk1 (by rw [HV.out, hb]; exact hlt))
        clear hb hb9 hv
        gi_wp2_with fail
        refine wpIn_wide.2 ?_
        go_region_held3 (fun w' => w'.cell? ⟨g, k, none⟩ = some (.int .i64 v)) (first | exact hcell0) (first
            | (go_at_call 81; refine (blocks_any (some ⟨g, 0, none⟩) k co (l.take k) wr.drew HT.out.drew HSM.out hkp').mono ?_; rintro en w' ⟨rfl, rfl⟩; rw [HBB.out]))
        have HO2 : Hid (OwnI (wr.setCell ⟨g, k, none⟩ (.int .i64 (v + 1))).drew W.heap.size 3 (some ⟨g, 0, none⟩) n co (l.set k (v + 1))) := Lib.hid (HO.out.stored k (I64.small (by omega)))
        have hcl := clear_run HO2.out (k + 1) (co - (k + 1)) (by omega)
        have hcl0 : co = k + 1 → (Builtin.clear_ #[22] 0 #[.slice (some ⟨g, 0, none⟩) (n - (k + 1)) 0]).run Tryd.prog (wr.setCell ⟨g, k, none⟩ (.int .i64 (v + 1))).drew = .ok (.tuple #[]) (((wr.setCell ⟨g, k, none⟩ (.int .i64 (v + 1))).drew).setCells g (k + 1) (List.replicate (n - (k + 1)) (.int .i64 0))) := fun e => by
          rw [show n - (k + 1) = 0 by omega]
          exact clear_run0 _ g 0 0
        have HO3 := Lib.hid (own_zero (n - (k + 1)) _ _ (k + 1) HO2.out)
        have HZN : Hid (zeroFrom (l.set k (v + 1)) (k + 1) (n - (k + 1)) = nextAt l k) := Lib.hid (by rw [← HV.out, ← HLN.out]; exact clear_next (by rw [HLN.out]; exact hkn))
        rw [HZN.out] at HO3
        have HB3 := Lib.hid (below_zero hgb (n - (k + 1)) _ (k + 1) ((HB.out.setCell (p := ⟨g, k, none⟩) hgb (.int .i64 (v + 1))).drew))
        clear HO2
        generalize ((wr.setCell ⟨g, k, none⟩ (.int .i64 (v + 1))).drew).setCells g (k + 1) (List.replicate (n - (k + 1)) (.int .i64 0)) = w3 at hcl hcl0 HO3 HB3
        have HNLL := Lib.hid (HN.out.trans HY1.out)
        have HLA : Hid ((nextAt l k).length = n) := Lib.hid (by rw [nextAt_length (by rw [HLN.out]; exact hkn)]; exact HLN.out)
        generalize nextAt l k = q at HO3 HNLL HLA
        have HCO := Lib.hid hcl0
        clear hcl0
        by_cases hco : co = k + 1
        · have hcl0 := HCO.out hco
          rw [show n - (k + 1) = 0 by omega] at hcl0
          subst hco
          gi_wp2_with fail
          refine ⟨trivial, ?_⟩
          refine (callsIn_wide.2 (clone_any (some ⟨g, 0, none⟩) n (k + 1) q w3 HO3.out.rd (by omega) rfl)).mono ?_
          rintro e w4 ⟨G4, c4, rfl, ho, hbl⟩
          rw [HLA.out] at ho
          rw [HLA.out]
          have HO4 := Lib.hid (ho.mono HB3.out.size)
          have HB4 := Lib.hid (HB3.out.trans (hbl.mono HB3.out.size))
          clear ho hbl
          obtain ⟨fn, tmps, assign, body, hy, hR⟩ := HY.out G4 c4 q w4 HB4.out HNLL.out HO4.out
          gi_wp2_with fail
          refine hR.mono ?_
          rintro e W' ⟨rfl, hjx⟩
          gi_wp2
          rw [Exit.noGoto_ret]
          refine bodyPost_ret (results_none rfl _ _ _) rfl ?_
          exact ⟨⟨_, rfl⟩, .inr ⟨G4, c4, q, HNLL.out, hjx⟩⟩
        · have hcc : k + 1 < co := by omega
          have hcc2 : (k : Int) + 1 < co := by omega
          gi_wp2_with fail
          refine ⟨trivial, ?_⟩
          refine (callsIn_wide.2 (clone_any (some ⟨g, 0, none⟩) n co q w3 HO3.out.rd (by omega) rfl)).mono ?_
          rintro e w4 ⟨G4, c4, rfl, ho, hbl⟩
          rw [HLA.out] at ho
          rw [HLA.out]
          have HO4 := Lib.hid (ho.mono HB3.out.size)
          have HB4 := Lib.hid (HB3.out.trans (hbl.mono HB3.out.size))
          clear ho hbl
          obtain ⟨fn, tmps, assign, body, hy, hR⟩ := HY.out G4 c4 q w4 HB4.out HNLL.out HO4.out
          gi_wp2_with fail
          refine hR.mono ?_
          rintro e W' ⟨rfl, hjx⟩
          gi_wp2
          rw [Exit.noGoto_ret]
          refine bodyPost_ret (results_none rfl _ _ _) rfl ?_
          exact ⟨⟨_, rfl⟩, .inr ⟨G4, c4, q, HNLL.out, hjx⟩⟩
      · have HY1 := Lib.hid (nextFrom_no hk1 (by rw [HV.out, hb]; exact hlt))
        clear hb hb9 hv
        gi_wp2_with fail
        refine wpIn_wide.2 ?_
        go_region_held3 (fun w' => w'.cell? ⟨g, k, none⟩ = some (.int .i64 v)) (first | exact hcell0) (first
            | (go_at_call 81; refine (blocks_any (some ⟨g, 0, none⟩) k co (l.take k) wr.drew HT.out.drew HSM.out hkp').mono ?_; rintro en w' ⟨rfl, rfl⟩; rw [HBB.out]))
        gi_wp2
        exact ⟨⟨k - 1, by omega, by congr 1; omega, HN.out.trans HY1.out, HO.out.drew, HB.out.drew⟩, by simp [intOf]; omega⟩
    · obtain rfl : k = 0 := by omega
      have HZ : Hid (nextL l = none) := Lib.hid HN.out
      gi_wp2
      rw [Exit.noGoto_normal]
      go_end0
      exact ⟨⟨_, rfl⟩, .inl ⟨HZ.out, HB.out⟩⟩
end Go.Proofs.YtooepkpgffpcjaaDoor
