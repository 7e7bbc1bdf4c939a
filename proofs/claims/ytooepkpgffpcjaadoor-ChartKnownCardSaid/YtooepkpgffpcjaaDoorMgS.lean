/- Walks: the partitions that come behind one, handed out in order: up to the first. Walk: the program's Next: the first that the iterator hands out. -/
import Derived.RangeFuncNested
import Derived.RangeFuncBound
import Derived.RangeFuncCalls
import Derived.RangeFuncLeaves
import Derived.Shelf.Abstract
import Derived.Shelf.RegionOpen
import Derived.OwnWalkIn
import Derived.TacticsInMore
import Derived.LoopNIn
import Derived.LoopIn
import Derived.Lib.SliceRun
import Derived.Test.YtooepkpgffpcjaaDoorMgO
namespace Go.Proofs.YtooepkpgffpcjaaDoor
open Go.RowKit Go.Shelf

def zeroFrom (l : List Int) (o : Nat) : Nat → List Int
  | 0 => l
  | m + 1 => zeroFrom (l.set o 0) (o + 1) m
theorem set_take {l : List Int} {o : Nat} {z : Int} (h : o < l.length) : (l.set o z).take (o + 1) = l.take o ++ [z] := by
  rw [take_of_get (List.getElem?_set_self h)]
  congr 1
  apply List.ext_getElem?
  intro i
  simp only [List.getElem?_take]
  split
  · rw [List.getElem?_set_ne (by omega)]
  · rfl
theorem zeroFrom_eq (m : Nat) : ∀ (l : List Int) (o : Nat), o + m = l.length → zeroFrom l o m = l.take o ++ List.replicate m 0 := by
  induction m with
  | zero => intro l o h; simp only [zeroFrom, List.replicate_zero, List.append_nil]; rw [List.take_of_length_le (by omega)]
  | succ m ih =>
    intro l o h
    rw [zeroFrom, ih _ _ (by rw [List.length_set]; omega), set_take (by omega), List.append_assoc]
    rfl
theorem clear_next {l : List Int} {k : Nat} (h : k < l.length) : zeroFrom (l.set k (l.getD k 0 + 1)) (k + 1) (l.length - (k + 1)) = nextAt l k := by
  rw [zeroFrom_eq _ _ _ (by rw [List.length_set]; omega), set_take h]
  rfl
theorem own_zero {base g n c : Nat} {e : TypeId} (m : Nat) : ∀ (w : World) (l : List Int) (o : Nat), OwnI w base e (some ⟨g, 0, none⟩) n c l → OwnI (w.setCells g o (List.replicate m (.int .i64 0))) base e (some ⟨g, 0, none⟩) n c (zeroFrom l o m) := by
  induction m with
  | zero => intro w l o h; exact h
  | succ m ih =>
    intro w l o h
    rw [List.replicate_succ]
    exact ih _ _ (o + 1) (h.stored o (I64.small (by omega)))
theorem below_zero {B g : Nat} {a : World} (hg : B ≤ g) (m : Nat) : ∀ (w : World) (o : Nat), Below B a w → Below B a (w.setCells g o (List.replicate m (.int .i64 0))) := by
  induction m with
  | zero => intro w o h; exact h
  | succ m ih =>
    intro w o h
    rw [List.replicate_succ]
    exact ih _ (o + 1) (h.setCell (p := ⟨g, o, none⟩) hg _)
theorem clear_run {base g n c : Nat} {w : World} {l : List Int} (h : OwnI w base 3 (some ⟨g, 0, none⟩) n c l) (o cc : Nat) (ho : o ≤ n) :
    (Builtin.clear_ #[22] 0 #[.slice (some ⟨g, o, none⟩) (n - o) cc]).run Tryd.prog w = .ok (.tuple #[]) (w.setCells g o (List.replicate (n - o) (.int .i64 0))) := by
  rcases Nat.eq_zero_or_pos (n - o) with hz | hp
  · rw [hz]
    simp [Builtin.clear_, run_underlying Tryd.underlying22, World.setCells]
  · refine Lib.run_clear_slice w 22 3 0 (.int .i64 0) Tryd.underlying22 zeroInt rfl rfl g o (n - o) cc hp (fun j hj => ?_) (fun j _ => h.frozenAt _)
    obtain ⟨v, hv⟩ : ∃ v, l[o + j]? = some v := ⟨_, get_getD (by rw [h.len]; omega)⟩
    rw [h.cellAt hv]; rfl

theorem clear_run0 (w : World) (g o cc : Nat) : (Builtin.clear_ #[22] 0 #[.slice (some ⟨g, o, none⟩) 0 cc]).run Tryd.prog w = .ok (.tuple #[]) w := by
  simp [Builtin.clear_, run_underlying Tryd.underlying22]

/-- the iterator's maker: what it was given lies in a box -/
theorem after_any (A : Option Addr) (n c : Nat) (w : World) : Calls Tryd.prog 97 #[.slice A n c] w fun e w' => e = .returned (.func (.func 118) #[] #[.pointer (some ⟨w.heap.size, 0, none⟩)]) ∧ w' = w.alloc (.cells #[.slice A n c] 22) := by
  go_enter Tryd.func97, Tryd.ntmps97
  go_wp2
  go_ret
  exact ⟨rfl, rfl⟩

set_option maxHeartbeats 1000000 in
set_option maxRecDepth 100000 in
theorem iter_any (lp : Nat) (Jx : Option Addr → Nat → List Int → World → Prop) (bx : Nat) (A : Option Addr) (n c : Nat) (l : List Int) (W : World) (hb : W.cell? ⟨bx, 0, none⟩ = some (.slice A n c)) (h : RdI W A n l) (h0 : chk l = 0)
    (hY : ∀ (A' : Option Addr) (c' : Nat) (q : List Int) (W1 : World), Below W.heap.size W W1 → nextL l = some q → OwnI W1 W.heap.size 3 A' n c' q → YieldAt Fence.wide 1 Tryd.prog lp #[.slice A' n c'] W1 fun e W' => e = .returned (.bool false) ∧ Jx A' c' q W') :
    CallsIn Fence.wide 2 Tryd.prog 118 #[.func (.yield lp) #[] #[], .pointer (some ⟨bx, 0, none⟩)] W fun e W' => (∃ v, e = .returned v) ∧
      ((nextL l = none ∧ Below W.heap.size W W') ∨ (∃ A' c' q, nextL l = some q ∧ Jx A' c' q W')) := by
  have hln := h.len
  have hn1 : 1 ≤ n := by have := (chk_ok h0).1; omega
  have hn9 : n ≤ 9 := by have := (chk_ok h0).2.1; omega
  have HCK := Lib.hid h0
  have HLN := Lib.hid hln
  have HNL : Hid (nextL l = nextFrom l (n - 1)) := Lib.hid (by unfold nextL; rw [hln])
  have HY := Lib.hid hY
  have hA : A.isNone = false := by
    obtain ⟨ad, e, _⟩ := h.1.2.2 (by omega)
    rw [e]; rfl
  clear h0 hY
  refine callsIn_of_wp Tryd.func118 rfl trivial ?_ rfl
  simp only [Tryd.ntmps118, List.size_toArray, List.length_cons, List.length_nil, Nat.reduceAdd, Nat.reduceSub, Array.replicate_succ, Array.replicate_zero, List.push_toArray, List.append_toArray, List.nil_append, List.cons_append]
  refine wpIn_wide.2 (wp_scope_straight ((wpIn_wide (n := 2)).1 ?_))
  gi_wp2_with (refine ⟨trivial, ?_⟩; gi_at_call 82; refine (callsIn_wide.2 (clone_any A n c l W h (by omega) hA)).mono ?_; rintro e w1 ⟨G, co, rfl, ho, hbl⟩; rw [hln] at ho; rw [hln]; have HO1 := Lib.hid ho; have HB1 := Lib.hid hbl; clear ho hbl)
  refine wpIn_label ?_
  gi_wp2
  gi_loopw [4] (fun i wr => ∃ k : Nat, k < n ∧ i = .int .i64 k ∧ Hid (nextL l = nextFrom l k) ∧ OwnI wr W.heap.size 3 G n co l ∧ Below W.heap.size W wr) (fun i _ => (intOf i).toNat)
  case atStart => exact ⟨n - 1, by omega, by congr 1; omega, HNL, HO1.out, HB1.out⟩
  case round =>
    obtain ⟨k, hkn, rfl, HN, hown, hbel⟩ := hrel
    have HO := Lib.hid hown
    have HB := Lib.hid hbel
    clear hown hbel HNL HO1 HB1
    by_cases hk1 : 1 ≤ k
    · obtain ⟨g, rfl, hgb, _⟩ := HO.out.form (by omega)
      obtain ⟨v, hv⟩ : ∃ v, l[k]? = some v := ⟨_, get_getD (by rw [HLN.out]; exact hkn)⟩
      have hcell0 := HO.out.cellAt hv
      have hfz := HO.out.frozenAt k
      have hv9 := (chk_ok HCK.out).2.2.1 v (List.mem_of_getElem? hv)
      have hb9 := blk_take_le HCK.out k
      obtain ⟨b, hb⟩ : ∃ b : Nat, blk (l.take k) = b := ⟨(blk (l.take k)).toNat, by omega⟩
      have HT := Lib.hid (HO.out.rd.take_ (k := k) (by omega))
      have HSM := Lib.hid ((chk_small HCK.out).take k)
      have HBB := Lib.hid hb
      have HV := Lib.hid (getD_of_get (d := 0) hv)
      have hbb : b ≤ k := by omega
      have hk0 : (0 : Int) ≤ k := by omega
      have hkI : (k : Int) < n := by omega
      have hkp : 0 < (k : Int) := by omega
      have hcn : n ≤ co := by
        rcases HO.out.1.1.2 with ⟨_, h0⟩ | ⟨g', cap, cur, hv', _, _, hnc, _⟩
        · omega
        · injection hv' with e1 e2 e3; omega
      have hkc : (k : Int) ≤ co := by omega
      have hkp' : 0 < k := hk1
      by_cases hlt : v < b
      · have HY1 := Lib.hid (nextFrom_yes hk1 (by rw [HV.out, hb]; exact hlt))
        clear hb hb9 hv
        gi_wp2_with fail
        refine wpIn_wide.2 ?_
        go_region_held3 (fun w' => w'.cell? ⟨g, k, none⟩ = some (.int .i64 v)) (first | exact hcell0) (first
            | (go_at_call 81; refine (blocks_any (some ⟨g, 0, none⟩) k co (l.take k) wr.drew HT.out.drew HSM.out hkp').mono ?_; rintro en w' ⟨rfl, rfl⟩; rw [HBB.out]))
        have HO2 : Hid (OwnI (wr.setCell ⟨g, k, none⟩ (.int .i64 (v + 1))).drew W.heap.size 3 (some ⟨g, 0, none⟩) n co (l.set k (v + 1))) := Lib.hid (HO.out.stored k (I64.small (by omega)))
        have hcl := clear_run HO2.out (k + 1) (co - (k + 1)) (by omega)
        have hcl0 : co = k + 1 → (Builtin.clear_ #[22] 0 #[.slice (some ⟨g, 0, none⟩) (n - (k + 1)) 0]).run Tryd.prog (wr.setCell ⟨g, k, none⟩ (.int .i64 (v + 1))).drew = .ok (.tuple #[]) (((wr.setCell ⟨g, k, none⟩ (.int .i64 (v + 1))).drew).setCells g (k + 1) (List.replicate (n - (k + 1)) (.int .i64 0))) := fun e => by
          rw [show n - (k + 1) = 0 by omega]
          exact clear_run0 _ g 0 0
        have HO3 := Lib.hid (own_zero (n - (k + 1)) _ _ (k + 1) HO2.out)
        have HZN : Hid (zeroFrom (l.set k (v + 1)) (k + 1) (n - (k + 1)) = nextAt l k) := Lib.hid (by rw [← HV.out, ← HLN.out]; exact clear_next (by rw [HLN.out]; exact hkn))
        rw [HZN.out] at HO3
        have HB3 := Lib.hid (below_zero hgb (n - (k + 1)) _ (k + 1) ((HB.out.setCell (p := ⟨g, k, none⟩) hgb (.int .i64 (v + 1))).drew))
        clear HO2
        generalize ((wr.setCell ⟨g, k, none⟩ (.int .i64 (v + 1))).drew).setCells g (k + 1) (List.replicate (n - (k + 1)) (.int .i64 0)) = w3 at hcl hcl0 HO3 HB3
        have HNLL := Lib.hid (HN.out.trans HY1.out)
        have HLA : Hid ((nextAt l k).length = n) := Lib.hid (by rw [nextAt_length (by rw [HLN.out]; exact hkn)]; exact HLN.out)
        generalize nextAt l k = q at HO3 HNLL HLA
        have HCO := Lib.hid hcl0
        clear hcl0
        by_cases hco : co = k + 1
        · have hcl0 := HCO.out hco
          rw [show n - (k + 1) = 0 by omega] at hcl0
          subst hco
          gi_wp2_with fail
          refine ⟨trivial, ?_⟩
          refine (callsIn_wide.2 (clone_any (some ⟨g, 0, none⟩) n (k + 1) q w3 HO3.out.rd (by omega) rfl)).mono ?_
          rintro e w4 ⟨G4, c4, rfl, ho, hbl⟩
          rw [HLA.out] at ho
          rw [HLA.out]
          have HO4 := Lib.hid (ho.mono HB3.out.size)
          have HB4 := Lib.hid (HB3.out.trans (hbl.mono HB3.out.size))
          clear ho hbl
          obtain ⟨fn, tmps, assign, body, hy, hR⟩ := HY.out G4 c4 q w4 HB4.out HNLL.out HO4.out
          gi_wp2_with fail
          refine hR.mono ?_
          rintro e W' ⟨rfl, hjx⟩
          gi_wp2
          rw [Exit.noGoto_ret]
          refine bodyPost_ret (results_none rfl _ _ _) rfl ?_
          exact ⟨⟨_, rfl⟩, .inr ⟨G4, c4, q, HNLL.out, hjx⟩⟩
        · have hcc : k + 1 < co := by omega
          have hcc2 : (k : Int) + 1 < co := by omega
          gi_wp2_with fail
          refine ⟨trivial, ?_⟩
          refine (callsIn_wide.2 (clone_any (some ⟨g, 0, none⟩) n co q w3 HO3.out.rd (by omega) rfl)).mono ?_
          rintro e w4 ⟨G4, c4, rfl, ho, hbl⟩
          rw [HLA.out] at ho
          rw [HLA.out]
          have HO4 := Lib.hid (ho.mono HB3.out.size)
          have HB4 := Lib.hid (HB3.out.trans (hbl.mono HB3.out.size))
          clear ho hbl
          obtain ⟨fn, tmps, assign, body, hy, hR⟩ := HY.out G4 c4 q w4 HB4.out HNLL.out HO4.out
          gi_wp2_with fail
          refine hR.mono ?_
          rintro e W' ⟨rfl, hjx⟩
          gi_wp2
          rw [Exit.noGoto_ret]
          refine bodyPost_ret (results_none rfl _ _ _) rfl ?_
          exact ⟨⟨_, rfl⟩, .inr ⟨G4, c4, q, HNLL.out, hjx⟩⟩
      · have HY1 := Lib.hid (nextFrom_no hk1 (by rw [HV.out, hb]; exact hlt))
        clear hb hb9 hv
        gi_wp2_with fail
        refine wpIn_wide.2 ?_
        go_region_held3 (fun w' => w'.cell? ⟨g, k, none⟩ = some (.int .i64 v)) (first | exact hcell0) (first
            | (go_at_call 81; refine (blocks_any (some ⟨g, 0, none⟩) k co (l.take k) wr.drew HT.out.drew HSM.out hkp').mono ?_; rintro en w' ⟨rfl, rfl⟩; rw [HBB.out]))
        gi_wp2
        exact ⟨⟨k - 1, by omega, by congr 1; omega, HN.out.trans HY1.out, HO.out.drew, HB.out.drew⟩, by simp [intOf]; omega⟩
    · obtain rfl : k = 0 := by omega
      have HZ : Hid (nextL l = none) := Lib.hid HN.out
      gi_wp2
      rw [Exit.noGoto_normal]
      go_end0
      exact ⟨⟨_, rfl⟩, .inl ⟨HZ.out, HB.out⟩⟩
end Go.Proofs.YtooepkpgffpcjaaDoor

namespace Go.Proofs.YtooepkpgffpcjaaDoor
open Go.RowKit Go.Shelf
attribute [local go_sem] Oper.semAt_some

/-- a range over a function, outermost, at no fence: the iterator's call -/
theorem wpIn_range1 {P : Program} {g : Operand} {ps : Array Tmp} {assign body : Code} {Q : Exit → Act → World → Prop} {a : Act} {w : World} {gf : Nat} {lb : Array Value}
    (hg : a.eval g = Value.func (Fn.func gf) #[] lb) (eg : ∀ (args : Array Value) (w : World), (callFunc gf args).run P w = Result.ok (Next.enter gf args) w)
    (h : ∀ (fn : FuncId) (rec : Loop), rec = { state := .ready, pending := none, fn := fn, tmps := a.tmps, params := ps, assign := assign, body := body, defers := w.heap.size } →
      ∀ W1, W1 = (w.alloc (.deferred (some []))).alloc (.loop rec) → CallsIn Fence.wide (3 - 1) P gf (#[.func (.yield (w.heap.size + 1)) #[] #[]] ++ lb) W1 (rangePost Fence.wide 3 P (w.heap.size + 1) Q { a with defers := [{ target := .collected w.heap.size, args := #[] }] ++ a.defers })) :
    (Code.rangeFunc g ps assign body).wpIn Fence.wide 3 P Q a w := by
  refine wpIn_rangeFunc ?_
  intro fn _
  obtain ⟨W1, hW1⟩ : ∃ W1, W1 = (w.alloc (.deferred (some []))).alloc (.loop { state := .ready, pending := none, fn := fn, tmps := a.tmps, params := ps, assign := assign, body := body, defers := w.heap.size }) := ⟨_, rfl⟩
  have hc := h fn _ rfl W1 hW1
  refine ⟨w.heap.size + 1, [{ target := .collected w.heap.size, args := #[] }], W1, { target := .fn (.func gf) lb, args := #[.func (.yield (w.heap.size + 1)) #[] #[]] }, W1, gf, #[.func (.yield (w.heap.size + 1)) #[] #[]] ++ lb, W1, ?_, ?_, ?_, ?_, ?_, ?_⟩

  · rw [hW1]; exact run_enterLoop_outer _ _ _ _ _
  · simp only [resolve, hg]
    simp [go_sem]
  · intro f' _; trivial
  · simp [invoke, go_sem, eg]
  · intro _; omega
  · exact hc

set_option maxHeartbeats 1000000 in
set_option maxRecDepth 100000 in
theorem next_any (A : Option Addr) (n c : Nat) (l : List Int) (w : World) (h : RdI w A n l) : Calls Tryd.prog 47 #[.slice A n c] w (IntsErr (nextE l) w) := by
  by_cases h0 : chk l = 0
  · have HV : Hid (nextE l = match nextL l with | some q => (q, 0) | none => ([], 7)) := Lib.hid (by unfold nextE; rw [if_neg (by omega)]; rfl)
    have HK := Lib.hid h0
    clear h0
    refine (callsIn_wide (n := 3)).1 ?_
    refine callsIn_of_wp_marks Tryd.func47 rfl trivial ?_ rfl
    simp only [Tryd.ntmps47, List.size_toArray, List.length_cons, List.length_nil, Nat.reduceAdd, Nat.reduceSub, Array.replicate_succ, Array.replicate_zero, List.push_toArray, List.append_toArray, List.nil_append, List.cons_append]
    gi_wp2_with fail
    have hs0 : ((w.alloc (.cells #[.slice none 0 0] 22)).alloc (.cells #[.int .i64 0] 30)).heap.size = w.heap.size + 2 := by simp
    have hb0 : Below w.heap.size w ((w.alloc (.cells #[.slice none 0 0] 22)).alloc (.cells #[.int .i64 0] 30)) := ((Below.refl _ w).alloc (Nat.le_refl _) _).alloc (by simp) _
    have b2 : Blk ((w.alloc (.cells #[.slice none 0 0] 22)).alloc (.cells #[.int .i64 0] 30)) w.heap.size 22 #[.slice none 0 0] := (Blk.new w _ _).alloc _
    have b3 : Blk ((w.alloc (.cells #[.slice none 0 0] 22)).alloc (.cells #[.int .i64 0] 30)) (w.heap.size + 1) 30 #[.int .i64 0] := by
      have := Blk.new (w.alloc (.cells #[.slice none 0 0] 22)) 30 #[.int .i64 0]
      simpa using this
    have HA := Lib.hid (h.below hb0)
    have HS := Lib.hid hs0
    have HB0 := Lib.hid hb0
    have HB2 := Lib.hid b2
    have HB3 := Lib.hid b3
    clear hs0 hb0 b2 b3 h
    generalize (w.alloc (.cells #[.slice none 0 0] 22)).alloc (.cells #[.int .i64 0] 30) = W0 at HA HS HB0 HB2 HB3 ⊢
    refine ⟨trivial, ?_⟩
    refine (callsIn_wide.2 (check_any A n c l W0 HA.out)).mono ?_; rintro e w' ⟨rfl, rfl⟩
    rw [HK.out]
    gi_wp2_with fail
    refine ⟨trivial, ?_⟩
    refine (callsIn_wide.2 (after_any A n c W0)).mono ?_; rintro e w' ⟨rfl, rfl⟩
    have hs1 : (W0.alloc (.cells #[.slice A n c] 22)).heap.size = w.heap.size + 3 := by have := HS.out; simp; omega
    have hb1 := HB0.out.trans ((Below.refl _ W0).alloc HB0.out.size (.cells #[.slice A n c] 22))
    have hbox := Blk.new W0 22 #[.slice A n c]
    rw [HS.out] at hbox
    rw [HS.out]
    have HA1 := Lib.hid (HA.out.alloc (.cells #[.slice A n c] 22))
    have HB12 := Lib.hid (HB2.out.alloc (.cells #[.slice A n c] 22))
    have HB13 := Lib.hid (HB3.out.alloc (.cells #[.slice A n c] 22))
    have HS1 := Lib.hid hs1
    have HB1 := Lib.hid hb1
    have HBX := Lib.hid hbox
    clear hs1 hb1 hbox HA HB0 HB2 HB3 HS
    generalize W0.alloc (.cells #[.slice A n c] 22) = w1 at HA1 HB12 HB13 HS1 HB1 HBX ⊢
    gi_wp2_with fail
    refine wpIn_range1 (gf := 118) (lb := #[.pointer (some ⟨w.heap.size + 2, 0, none⟩)]) rfl (enters_of Tryd.func118 (by kernel_rfl) rfl) ?_
    intro fn rec hrec WL hWL
    have hst : rec.state = .ready := by rw [hrec]
    have hps : rec.params.size = 1 := by rw [hrec]; rfl
    have hsz : (w1.alloc (.deferred (some []))).heap.size = w1.heap.size + 1 := by simp
    have hbl : Below w1.heap.size w1 WL := by rw [hWL]; exact ((Below.refl _ w1).alloc (Nat.le_refl _) _).alloc (by simp) _
    have hD : WL.heap[w1.heap.size]? = some (.deferred (some [])) := by
      rw [hWL]; exact (Below.heap_alloc _ _ _ (by simp)).trans (World.alloc_heap_new w1 _)
    have hR : WL.heap[w1.heap.size + 1]? = some (.loop rec) := by
      rw [hWL]; have := World.alloc_heap_new (w1.alloc (.deferred (some []))) (.loop rec); rwa [hsz] at this
    have hLS : WL.heap.size = w.heap.size + 5 := by rw [hWL]; have := HS1.out; simp; omega
    have HBL := Lib.hid hbl
    have HD := Lib.hid hD
    have HR := Lib.hid hR
    have HLS := Lib.hid hLS
    have HAL := Lib.hid (HA1.out.below hbl)
    have HXL := Lib.hid (HBX.out.below hbl)
    have H2L := Lib.hid (HB12.out.below hbl)
    have H3L := Lib.hid (HB13.out.below hbl)
    have HBW := Lib.hid (HB1.out.trans (hbl.mono HB1.out.size))
    have hDs : w1.heap.size = w.heap.size + 3 := HS1.out
    rw [hDs] at HD HR ⊢
    have HREC := Lib.hid hrec
    have hbox : WL.cell? ⟨w.heap.size + 2, 0, none⟩ = some (.slice A n c) := by rw [HXL.out.cell]; rfl
    clear hsz hbl hD hR hLS hWL hrec HBL HXL HB12 HB13 HA1 HB1 HBX HS1 hDs
    refine (iter_any (w.heap.size + 3 + 1) (fun A' c' q W' => W'.heap[w.heap.size + 3 + 1]? = some (.loop { rec with state := .done, pending := some .ret }) ∧ W'.heap[w.heap.size + 3]? = some (.deferred (some [])) ∧
        Blk W' w.heap.size 22 #[.slice A' n c'] ∧ Blk W' (w.heap.size + 1) 30 #[.int .i64 0] ∧ OwnI W' w.heap.size 3 A' n c' q ∧ Below w.heap.size w W' ∧ ∀ b, A'.map (·.block) = some b → w.heap.size + 5 ≤ b) (w.heap.size + 2) A n c l WL hbox HAL.out HK.out ?_).mono ?_
    · intro A' c' q W2 hb hq ho
      have hl : W2.heap[w.heap.size + 3 + 1]? = some (.loop rec) := (hb.block _ (by have := HLS.out; omega)).trans HR.out
      have hd : W2.heap[w.heap.size + 3]? = some (.deferred (some [])) := (hb.block _ (by have := HLS.out; omega)).trans HD.out
      have hy := run_yield (P := Tryd.prog) (args := #[.slice A' n c']) hl (by rw [hps]; rfl)
      refine ⟨_, _, _, _, hy, roundIn_of_wpIn trivial ?_⟩
      have hlt : w.heap.size + 3 + 1 < W2.heap.size := (Array.getElem?_eq_some_iff.1 hl).1
      have hbr := run_beginRound (P := Tryd.prog) hl hst
      obtain ⟨WB, hWB⟩ : ∃ WB, WB = W2.putObj (w.heap.size + 3 + 1) (.loop { rec with state := .busy }) := ⟨_, rfl⟩
      have hgB : W2.grownBy WB (some (w.heap.size + 3 + 1)) := by rw [hWB]; exact grownBy_putObj' _ _ _
      have hlB : WB.heap[w.heap.size + 3 + 1]? = some (.loop { rec with state := .busy }) := by rw [hWB]; exact World.putObj_heap_same hlt
      have hdB : WB.heap[w.heap.size + 3]? = some (.deferred (some [])) := by rw [hWB]; exact (World.putObj_heap_other (by omega)).trans hd
      have H2B : Hid (Blk WB w.heap.size 22 #[.slice none 0 0]) := Lib.hid ((H2L.out.below hb).grown hgB (fun e => by injection e with e; omega))
      have H3B : Hid (Blk WB (w.heap.size + 1) 30 #[.int .i64 0]) := Lib.hid ((H3L.out.below hb).grown hgB (fun e => by injection e with e; omega))
      have HOB : Hid (OwnI WB w.heap.size 3 A' n c' q) := Lib.hid ((ho.grown hgB (by
        cases e : A'.map (·.block) with
        | none => exact .inl rfl
        | some b => exact .inr (fun e2 => by injection e2 with e2; have := (ho.1.block e).1; have := HLS.out; omega))).mono (by have := HLS.out; omega))
      have HBB : Hid (Below w.heap.size w WB) := Lib.hid ((HBW.out.trans (hb.mono HBW.out.size)).grown hgB (by have := HBW.out.size; have := hb.size; omega) (fun b e => by injection e with e; omega))
      have HAO : Hid (∀ b, A'.map (·.block) = some b → w.heap.size + 5 ≤ b) := Lib.hid fun b hb' => by have := (ho.1.block hb').1; have := HLS.out; omega
      rw [← hWB] at hbr
      have c2 : WB.cell? ⟨w.heap.size, 0, none⟩ = some (.slice none 0 0) := by rw [H2B.out.cell]; rfl
      have c3 : WB.cell? ⟨w.heap.size + 1, 0, none⟩ = some (.int .i64 0) := by rw [H3B.out.cell]; rfl
      have f2 := H2B.out.frozen 0
      have f3 := H3B.out.frozen 0
      have HLB := Lib.hid hlB
      have HDB := Lib.hid hdB
      clear hlB hdB hWB hgB hl hd hy hb hq ho hlt
      obtain ⟨W3, hW3⟩ : ∃ W3, W3 = (WB.setCell ⟨w.heap.size, 0, none⟩ (.slice A' n c')).setCell ⟨w.heap.size + 1, 0, none⟩ (.int .i64 0) := ⟨_, rfl⟩
      have hk3 : KeepsOthers WB W3 := by rw [hW3]; exact (KeepsOthers.setCell _ _ _).trans (KeepsOthers.setCell _ _ _)
      have hl3 := hk3.same _ _ HLB.out rfl
      have hd3 := hk3.same _ _ HDB.out rfl
      have hlt3 := (Array.getElem?_eq_some_iff.1 hl3).1
      have h23 : Blk W3 w.heap.size 22 #[.slice A' n c'] := by rw [hW3]; exact (H2B.out.set_ 0 (.slice A' n c')).far (p := ⟨w.heap.size + 1, 0, none⟩) (by simp) _
      have h33 : Blk W3 (w.heap.size + 1) 30 #[.int .i64 0] := by rw [hW3]; exact (H3B.out.far (p := ⟨w.heap.size, 0, none⟩) (by simp) _).set_ 0 (.int .i64 0)
      have ho3 : OwnI W3 w.heap.size 3 A' n c' q := by
        rw [hW3]
        exact (HOB.out.far (p := ⟨w.heap.size, 0, none⟩) (fun e => by have h9 : w.heap.size + 5 ≤ w.heap.size := HAO.out _ e; omega) _).far (p := ⟨w.heap.size + 1, 0, none⟩) (fun e => by have h9 : w.heap.size + 5 ≤ w.heap.size + 1 := HAO.out _ e; omega) _
      have hb3 : Below w.heap.size w W3 := by rw [hW3]; exact (HBB.out.setCell (p := ⟨w.heap.size, 0, none⟩) (Nat.le_refl _) _).setCell (p := ⟨w.heap.size + 1, 0, none⟩) (by simp) _
      have HL3 := Lib.hid hl3
      have HF := Lib.hid (And.intro (And.intro hd3 hlt3) (And.intro (And.intro h23 h33) (And.intro ho3 hb3)))
      clear hl3 hd3 hlt3 h23 h33 ho3 hb3 hk3
      have e := HREC.out
      subst e
      gi_wp2
      refine ⟨WB, hbr, ?_⟩
      gi_wp2
      rw [← hW3]
      obtain ⟨⟨hd3, hlt3⟩, ⟨h23, h33⟩, ho3, hb3⟩ := HF.out
      have hsz3 := hb3.size
      have hg3 := fun o' => grownBy_putObj' W3 (w.heap.size + 3 + 1) o'
      refine ⟨_, _, run_endRound (some .ret) HL3.out, rfl, World.putObj_heap_same hlt3, (World.putObj_heap_other (by omega)).trans hd3, h23.grown (hg3 _) (fun e => by injection e with e; omega), h33.grown (hg3 _) (fun e => by injection e with e; omega), ?_, hb3.grown (hg3 _) (by omega) (fun b e => by injection e with e; omega), HAO.out⟩
      refine ho3.grown (hg3 _) ?_
      cases e : A'.map (·.block) with
      | none => exact .inl rfl
      | some b => exact .inr (fun e2 => by injection e2 with e2; have := HAO.out b e; omega)
    · rintro e W2 ⟨⟨v, rfl⟩, (⟨hq, hb⟩ | ⟨A', c', q, hq, hL, hDD, hb2, hb3, ho, hb, hao⟩)⟩
      · have hl : W2.heap[w.heap.size + 3 + 1]? = some (.loop rec) := (hb.block _ (by have := HLS.out; omega)).trans HR.out
        have hd : W2.heap[w.heap.size + 3]? = some (.deferred (some [])) := (hb.block _ (by have := HLS.out; omega)).trans HD.out
        have hel := run_endLoop (P := Tryd.prog) hl (by rw [hst]; simp)
        have hpe : rec.pending = none := by rw [HREC.out]
        rw [hpe] at hel
        obtain ⟨W4, hW4⟩ : ∃ W4, W4 = W2.putObj (w.heap.size + 3 + 1) (.loop { rec with state := .exhausted }) := ⟨_, rfl⟩
        rw [hpe] at hW4
        have hg4 : W2.grownBy W4 (some (w.heap.size + 3 + 1)) := by rw [hW4]; exact grownBy_putObj' _ _ _
        have hd4 : W4.heap[w.heap.size + 3]? = some (.deferred (some [])) := by rw [hW4]; exact (World.putObj_heap_other (by omega)).trans hd
        have h24 : Blk W4 w.heap.size 22 #[.slice none 0 0] := (H2L.out.below hb).grown hg4 (fun e => by injection e with e; omega)
        have h34 : Blk W4 (w.heap.size + 1) 30 #[.int .i64 0] := (H3L.out.below hb).grown hg4 (fun e => by injection e with e; omega)
        have hb4 : Below w.heap.size w W4 := (HBW.out.trans (hb.mono HBW.out.size)).grown hg4 (by have := HBW.out.size; have := hb.size; omega) (fun b e => by injection e with e; omega)
        rw [← hW4] at hel
        have c2 : W4.cell? ⟨w.heap.size, 0, none⟩ = some (.slice none 0 0) := by rw [h24.cell]; rfl
        have c3 : W4.cell? ⟨w.heap.size + 1, 0, none⟩ = some (.int .i64 0) := by rw [h34.cell]; rfl
        have f2 := h24.frozen 0
        have f3 := h34.frozen 0
        obtain ⟨W5, hW5⟩ : ∃ W5, W5 = (W4.setCell ⟨w.heap.size, 0, none⟩ (.slice none 0 0)).setCell ⟨w.heap.size + 1, 0, none⟩ (.int .i64 7) := ⟨_, rfl⟩
        have hk5 : KeepsOthers W4 W5 := by rw [hW5]; exact (KeepsOthers.setCell _ _ _).trans (KeepsOthers.setCell _ _ _)
        have hd5 := hk5.same _ _ hd4 rfl
        have h25 : Blk W5 w.heap.size 22 #[.slice none 0 0] := by rw [hW5]; exact (h24.set_ 0 (.slice none 0 0)).far (p := ⟨w.heap.size + 1, 0, none⟩) (by simp) _
        have h35 : Blk W5 (w.heap.size + 1) 30 #[.int .i64 7] := by rw [hW5]; exact (h34.far (p := ⟨w.heap.size, 0, none⟩) (by simp) _).set_ 0 (.int .i64 7)
        have hb5 : Below w.heap.size w W5 := by rw [hW5]; exact (hb4.setCell (p := ⟨w.heap.size, 0, none⟩) (Nat.le_refl _) _).setCell (p := ⟨w.heap.size + 1, 0, none⟩) (by simp) _
        have hg6 := grownBy_putObj' W5 (w.heap.size + 3) (.deferred none)
        have h26 := h25.grown hg6 (fun e => by injection e with e; omega)
        have h36 := h35.grown hg6 (fun e => by injection e with e; omega)
        have hb6 : Below w.heap.size w (W5.putObj (w.heap.size + 3) (.deferred none)) := hb5.grown hg6 (by have := hb5.size; omega) (fun b e => by injection e with e; omega)
        have c26 : (W5.putObj (w.heap.size + 3) (.deferred none)).cell? ⟨w.heap.size, 0, none⟩ = some (.slice none 0 0) := by rw [h26.cell]; rfl
        have c36 : (W5.putObj (w.heap.size + 3) (.deferred none)).cell? ⟨w.heap.size + 1, 0, none⟩ = some (.int .i64 7) := by rw [h36.cell]; rfl
        have HF := Lib.hid (And.intro hd5 (And.intro hb6 (And.intro c26 c36)))
        rw [hq] at HV
        clear h24 h34 hb4 hg4 hd4 hW4 hk5 hd5 h25 h35 hb5 hg6 h26 h36 hb6 c26 c36 hl hd hb hq
        refine ⟨none, W4, hel, ?_⟩
        gi_wp2
        rw [← hW5]
        obtain ⟨hd5, hb6, c26, c36⟩ := HF.out
        refine ⟨by simp, .inl ⟨_, _, rfl, run_takeDeferred hd5, ?_⟩⟩
        refine ⟨.tuple #[.slice none 0 0, .int .i64 7], by simp [results, Tryd.f47, go_sem, c26, c36], ?_⟩
        rw [HV.out]
        exact ⟨none, 0, rfl, OwnI.nil_ _ _ _, hb6⟩
      · have hel := run_endLoop (P := Tryd.prog) hL (by simp)
        obtain ⟨W4, hW4⟩ : ∃ W4, W4 = W2.putObj (w.heap.size + 3 + 1) (.loop { rec with state := .exhausted, pending := some .ret }) := ⟨_, rfl⟩
        have hg4 : W2.grownBy W4 (some (w.heap.size + 3 + 1)) := by rw [hW4]; exact grownBy_putObj' _ _ _
        have hd4 : W4.heap[w.heap.size + 3]? = some (.deferred (some [])) := by rw [hW4]; exact (World.putObj_heap_other (by omega)).trans hDD
        have h24 := hb2.grown hg4 (fun e => by injection e with e; omega)
        have h34 := hb3.grown hg4 (fun e => by injection e with e; omega)
        have hne : ∀ r, r < w.heap.size + 5 → A'.map (·.block) = none ∨ A'.map (·.block) ≠ some r := fun r hr => by
          cases e : A'.map (·.block) with
          | none => exact .inl rfl
          | some b => exact .inr (fun e2 => by injection e2 with e2; have := hao b e; omega)
        have ho4 := ho.grown hg4 (hne _ (by omega))
        have hsz2 := hb.size
        have hb4 : Below w.heap.size w W4 := hb.grown hg4 (by omega) (fun b e => by injection e with e; omega)
        have hg6 := grownBy_putObj' W4 (w.heap.size + 3) (.deferred none)
        have h26 := h24.grown hg6 (fun e => by injection e with e; omega)
        have h36 := h34.grown hg6 (fun e => by injection e with e; omega)
        have ho6 := ho4.grown hg6 (hne _ (by omega))
        have hsz4 := hb4.size
        have hb6 : Below w.heap.size w (W4.putObj (w.heap.size + 3) (.deferred none)) := hb4.grown hg6 (by omega) (fun b e => by injection e with e; omega)
        have c26 : (W4.putObj (w.heap.size + 3) (.deferred none)).cell? ⟨w.heap.size, 0, none⟩ = some (.slice A' n c') := by rw [h26.cell]; rfl
        have c36 : (W4.putObj (w.heap.size + 3) (.deferred none)).cell? ⟨w.heap.size + 1, 0, none⟩ = some (.int .i64 0) := by rw [h36.cell]; rfl
        have hlq : q.length = n := ho.len
        refine ⟨some .ret, W4, by rw [hW4]; exact hel, ?_⟩
        rw [hq] at HV
        have HF := Lib.hid (And.intro hd4 (And.intro hb6 (And.intro c26 (And.intro c36 ho6))))
        clear h24 h34 hg4 hd4 hW4 hg6 h26 h36 hb6 c26 c36 hb ho ho4 ho6 hb2 hb3 hb4 hel hL hDD hne
        gi_wp2
        obtain ⟨hd4, hb6, c26, c36, ho6⟩ := HF.out
        refine ⟨by simp, .inl ⟨_, _, rfl, run_takeDeferred hd4, ?_⟩⟩
        refine ⟨.tuple #[.slice A' n c', .int .i64 0], by simp [results, Tryd.f47, go_sem, c26, c36], ?_⟩
        rw [HV.out]
        exact ⟨A', c', by simp only [hlq], by simp only [hlq]; exact ho6, hb6⟩
  · have HV : Hid (nextE l = ([], chk l)) := Lib.hid (by unfold nextE; rw [if_pos h0])
    have hb0 : Below w.heap.size w ((w.alloc (.cells #[.slice none 0 0] 22)).alloc (.cells #[.int .i64 0] 30)) := ((Below.refl _ w).alloc (Nat.le_refl _) _).alloc (by simp) _
    have HC := Lib.hid (check_any A n c l _ (h.below hb0))
    generalize chk l = z at HC h0 HV
    have g1 : (z == 0) = false := by simpa using h0
    have g2 : (z != 0) = true := by simpa using h0
    clear h0 hb0
    go_enter Tryd.func47, Tryd.ntmps47
    go_wp2_with fail
    refine HC.out.mono ?_; rintro e w' ⟨rfl, rfl⟩
    go_wp2
    have h2 : Blk ((w.alloc (.cells #[.slice none 0 0] 22)).alloc (.cells #[.int .i64 z] 30)) w.heap.size 22 #[.slice none 0 0] := (Blk.new w _ _).alloc _
    have h3 : Blk ((w.alloc (.cells #[.slice none 0 0] 22)).alloc (.cells #[.int .i64 z] 30)) (w.heap.size + 1) 30 #[.int .i64 z] := by
      have := Blk.new (w.alloc (.cells #[.slice none 0 0] 22)) 30 #[.int .i64 z]
      simpa using this
    have c2 : ((w.alloc (.cells #[.slice none 0 0] 22)).alloc (.cells #[.int .i64 z] 30)).cell? ⟨w.heap.size, 0, none⟩ = some (.slice none 0 0) := by rw [h2.cell]; rfl
    have c3 : ((w.alloc (.cells #[.slice none 0 0] 22)).alloc (.cells #[.int .i64 z] 30)).cell? ⟨w.heap.size + 1, 0, none⟩ = some (.int .i64 z) := by rw [h3.cell]; rfl
    refine bodyPost_ret (v := .tuple #[.slice none 0 0, .int .i64 z]) (by simp [results, Tryd.f47, go_sem, c2, c3]) rfl ?_
    rw [HV.out]
    exact ⟨none, 0, rfl, OwnI.nil_ _ _ _, ((Below.refl _ w).alloc (Nat.le_refl _) _).alloc (by simp) _⟩
end Go.Proofs.YtooepkpgffpcjaaDoor
