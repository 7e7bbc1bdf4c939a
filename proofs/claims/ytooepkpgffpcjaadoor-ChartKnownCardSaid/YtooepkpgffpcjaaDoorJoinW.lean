/- Walks: what is joined: the program's and the reference's. -/
import Derived.Test.YtooepkpgffpcjaaDoorMeetR
namespace Go.Proofs.YtooepkpgffpcjaaDoor
open Go.RowKit

/-- the labels, behind m rounds of relabelling -/
def relS (f t : Int) (o : List Int) (m : Nat) : List Int := relb f t (o.take m) ++ o.drop m
theorem relS_zero (f t : Int) (o : List Int) : relS f t o 0 = o := by simp [relS, relb]
theorem relS_all {f t : Int} {o : List Int} {n : Nat} (h : o.length = n) : relS f t o n = relb f t o := by
  unfold relS; rw [List.take_of_length_le (by omega), List.drop_of_length_le (by omega), List.append_nil]
theorem relS_get {f t : Int} {o : List Int} {m : Nat} {v : Int} (h : o[m]? = some v) : (relS f t o m)[m]? = some v := by
  have hm := (List.getElem?_eq_some_iff.1 h).1
  have hl : (relb f t (o.take m)).length = m := by rw [relb_length, List.length_take]; omega
  unfold relS
  rw [List.getElem?_append_right (by omega), hl, Nat.sub_self, drop_of_get h]; rfl
theorem relS_step {f t : Int} {o : List Int} {m : Nat} {v : Int} (h : o[m]? = some v) : relS f t o (m + 1) = (relS f t o m).set m (if v = f then t else v) := by
  have hm := (List.getElem?_eq_some_iff.1 h).1
  have hl : (relb f t (o.take m)).length = m := by rw [relb_length, List.length_take]; omega
  unfold relS
  rw [drop_of_get h, List.set_append_right _ _ (by omega), hl, Nat.sub_self, List.set_cons_zero, take_of_get h]
  simp [relb]
theorem set_same {l : List Int} {m : Nat} {v : Int} (h : l[m]? = some v) : l.set m v = l := by
  apply List.ext_getElem?
  intro i
  by_cases e : m = i
  · subst e; rw [List.getElem?_set_self (List.getElem?_eq_some_iff.1 h).1, h]
  · rw [List.getElem?_set_ne e]
theorem relS_step_eq {f t : Int} {o : List Int} {m : Nat} (h : o[m]? = some f) : relS f t o (m + 1) = (relS f t o m).set m t := by rw [relS_step h, if_pos rfl]
theorem relS_step_ne {f t : Int} {o : List Int} {m : Nat} {v : Int} (h : o[m]? = some v) (hv : v ≠ f) : relS f t o (m + 1) = relS f t o m := by rw [relS_step h, if_neg hv, set_same (relS_get h)]

def Small9 (o : List Int) : Prop := ∀ v ∈ o, 0 ≤ v ∧ v < 9
theorem Small9.relb {o : List Int} (h : Small9 o) (f : Int) {t : Int} (ht : 0 ≤ t ∧ t < 9) : Small9 (relb f t o) := relb_small h ht
theorem joinStep_ok {r o : List Int} {i k n : Nat} (h : Small9 o ∧ o.length = n) (hk : k < n) : Small9 (joinStep r i o k) ∧ (joinStep r i o k).length = n := by
  unfold joinStep
  split
  · exact ⟨h.1.relb _ (h.1 _ (getD_mem (by omega))), by rw [relb_length]; exact h.2⟩
  · exact h
theorem joinRow_ok {r o : List Int} {i n : Nat} (h : Small9 o ∧ o.length = n) (k : Nat) (hk : k ≤ n) : Small9 ((List.range k).foldl (joinStep r i) o) ∧ ((List.range k).foldl (joinStep r i) o).length = n := by
  induction k with
  | zero => exact h
  | succ k ih => rw [foldl_range_succ]; exact joinStep_ok (ih (by omega)) (by omega)
theorem joinTo_ok {l r : List Int} {n : Nat} (h : Small9 l ∧ l.length = n) (k : Nat) (hk : k ≤ n) : Small9 (joinTo l r k) ∧ (joinTo l r k).length = n := by
  induction k with
  | zero => exact h
  | succ k ih =>
    have e : joinTo l r (k + 1) = joinRow r (joinTo l r k) k := foldl_range_succ _ _ _
    rw [e]; exact joinRow_ok (ih (by omega)) k (by omega)
theorem joinTo_succ (l r : List Int) (k : Nat) : joinTo l r (k + 1) = joinRow r (joinTo l r k) k := foldl_range_succ _ _ _

set_option maxHeartbeats 1000000 in
set_option maxRecDepth 100000 in
theorem joinP_any (A B : Option Addr) (n m c d : Nat) (l r : List Int) (w : World) (h1 : RdI w A n l) (h2 : RdI w B m r) :
    Calls Tryd.prog 53 #[.slice A n c, .slice B m d] w (IntsErr (joinE l r) w) := by
  have c1 := both_any A B n m c d l r w h1 h2
  by_cases h0 : chk2 l r = 0
  · obtain ⟨k1, k2, k3⟩ := chk2_ok h0
    have HV : Hid (joinE l r = (joinL l r, 0)) := by show joinE l r = _; unfold joinE; rw [if_neg (by omega)]
    have hln := h1.len
    have hrm := h2.len
    obtain rfl : n = m := by omega
    have hn1 := (chk_ok k1).1
    have hn9 : n ≤ 9 := by have := (chk_ok k1).2.1; omega
    rw [h0] at c1
    have HC := Lib.hid c1
    have HS : Hid (Small9 l ∧ l.length = n) := ⟨(chk_ok k1).2.2.1, hln⟩
    have HL2 := Lib.hid hrm
    have hA : A.isNone = false := by
      obtain ⟨ad, e, _⟩ := h1.1.2.2 (by omega)
      rw [e]; rfl
    have HF : Hid (ofL (joinTo l r n) = joinL l r) := Lib.hid (by rw [← hln]; exact joinL_of (join_prog l r))
    have HJL : Hid ((joinL l r).length = n) := Lib.hid (by rw [joinL_length, hln])
    clear h0 c1 k1 k2 k3 hrm hn1
    go_enter Tryd.func53, Tryd.ntmps53
    go_wp2_with fail
    refine HC.out.mono ?_; rintro e w' ⟨rfl, rfl⟩
    go_wp2_with fail
    refine (clone_any A n c l w h1 (by omega) hA).mono ?_; rintro e w1 ⟨G, co, rfl, ho, hb⟩
    rw [hln] at ho
    rw [hln]
    have HO1 := Lib.hid ho
    have HB1 := Lib.hid hb
    clear ho hb hln h1
    go_wp2_with fail
    go_loopw [24] (fun i wr => ∃ k : Nat, k ≤ n ∧ i = .int .i64 k ∧ OwnI wr w.heap.size 3 G n co (joinTo l r k) ∧ Below w.heap.size w wr) (fun i _ => n - (intOf i).toNat)
    case atStart => exact ⟨0, by omega, rfl, HO1.out, HB1.out⟩
    case round =>
      obtain ⟨i, hi, rfl, hown, hbel⟩ := hrel
      have HO := Lib.hid hown
      have HB := Lib.hid hbel
      clear hown hbel HO1 HB1
      by_cases hin : i < n
      · obtain ⟨g, rfl, hgb, _⟩ := HO.out.form (by omega)
        have HSO := Lib.hid (joinTo_ok (r := r) HS.out i (by omega))
        have HSU := Lib.hid (joinTo_succ l r i)
        generalize joinTo l r i = O at HO HSO HSU
        go_wp2_with fail
        go_loopw [28] (fun j wr => ∃ k : Nat, k ≤ i ∧ j = .int .i64 k ∧ OwnI wr w.heap.size 3 (some ⟨g, 0, none⟩) n co ((List.range k).foldl (joinStep r i) O) ∧ Below w.heap.size w wr) (fun j _ => i - (intOf j).toNat)
        case atStart => exact ⟨0, by omega, rfl, HO.out, HB.out⟩
        case round =>
          obtain ⟨k, hk, rfl, hown, hbel⟩ := hrel
          have HO2 := Lib.hid hown
          have HB2 := Lib.hid hbel
          clear hown hbel HO HB
          by_cases hki : k < i
          · have HSP := Lib.hid (joinRow_ok (r := r) (i := i) HSO.out k (by omega))
            have HSS : Hid ((List.range (k + 1)).foldl (joinStep r i) O = joinStep r i ((List.range k).foldl (joinStep r i) O) k) := Lib.hid (foldl_range_succ _ _ _)
            generalize (List.range k).foldl (joinStep r i) O = P at HO2 HSP HSS
            obtain ⟨bd, v, rfl, hbd, hv, _, hcellv⟩ := h2.at_ hin
            obtain ⟨bd', v', e2, _, hv', _, hcellv'⟩ := h2.at_ (k := k) (by omega)
            obtain rfl := Option.some.inj e2
            rw [← HB2.out.cell (by rw [block_of_add]; exact hbd)] at hcellv hcellv'
            clear e2
            by_cases he : v = v'
            · obtain ⟨f, hf⟩ : ∃ f, P[i]? = some f := ⟨_, get_getD (by rw [HSP.out.2]; exact hin)⟩
              obtain ⟨t, ht⟩ : ∃ t, P[k]? = some t := ⟨_, get_getD (by rw [HSP.out.2]; omega)⟩
              have HPE : Hid (joinStep r i P k = relb f t P) := Lib.hid (by unfold joinStep; rw [getD_of_get hv.out, getD_of_get hv'.out, if_pos he, getD_of_get hf, getD_of_get ht])
              have hcf := HO2.out.cellAt hf
              have hct := HO2.out.cellAt ht
              have HT9 := Lib.hid (HSP.out.1 t (List.mem_of_getElem? ht))
              have HT64 := Lib.hid (I64.small (v := t) (by have := HT9.out; omega))
              subst he
              have g1 : (v != v) = false := by simp
              clear hf ht
              go_wp2_with fail
              go_quiet (fail)
              go_wp2_with fail
              go_quiet (fail)
              go_wp2_with fail
              go_loopw [50] (fun j wr => ∃ q : Nat, q ≤ n ∧ j = .int .i64 q ∧ OwnI wr w.heap.size 3 (some ⟨g, 0, none⟩) n co (relS f t P q) ∧ Below w.heap.size w wr) (fun j _ => n - (intOf j).toNat)
              case atStart => exact ⟨0, by omega, rfl, by rw [relS_zero]; exact HO2.out.drewN _, below_drewN HB2.out _⟩
              case round =>
                obtain ⟨q, hq, rfl, hown, hbel⟩ := hrel
                have HO3 := Lib.hid hown
                have HB3 := Lib.hid hbel
                clear hown hbel HO2 HB2
                by_cases hqn : q < n
                · obtain ⟨z, hz⟩ : ∃ z, P[q]? = some z := ⟨_, get_getD (by rw [HSP.out.2]; exact hqn)⟩
                  have hcz := HO3.out.cellAt (relS_get (f := f) (t := t) hz)
                  by_cases hzf : z = f
                  · subst hzf
                    have HSE := Lib.hid (relS_step_eq (t := t) hz)
                    have hfz := HO3.out.frozenAt q
                    clear hz
                    go_wp2
                    go_roundw
                    case rel => exact ⟨q + 1, by omega, by go_num, by rw [HSE.out]; exact HO3.out.stored q HT64.out, HB3.out.setCell (p := ⟨g, q, none⟩) hgb _⟩
                    case measure => simp [intOf]; omega
                  · have HSE := Lib.hid (relS_step_ne (t := t) hz hzf)
                    have g2 : (z == f) = false := by simpa using hzf
                    clear hz hzf
                    go_wp2
                    go_roundw
                    case rel => exact ⟨q + 1, by omega, by go_num, by rw [HSE.out]; exact HO3.out, HB3.out⟩
                    case measure => simp [intOf]; omega
                · obtain rfl : q = n := by omega
                  have HRA : Hid (relS f t P q = relb f t P) := Lib.hid (relS_all HSP.out.2)
                  go_wp2
                  go_roundw
                  case rel => exact ⟨k + 1, by omega, by go_num, by rw [HSS.out, HPE.out, ← HRA.out]; exact HO3.out, HB3.out⟩
                  case measure => simp [intOf]; omega
            · have HPE : Hid (joinStep r i P k = P) := Lib.hid (by unfold joinStep; rw [getD_of_get hv.out, getD_of_get hv'.out, if_neg he])
              have g1 : (v != v') = true := by simpa using he
              have g2 : (v == v') = false := by simpa using he
              clear he
              go_wp2_with fail
              go_quiet (fail)
              go_wp2
              go_roundw
              case rel => exact ⟨k + 1, by omega, by go_num, by rw [HSS.out, HPE.out]; exact HO2.out.drewN _, below_drewN HB2.out _⟩
              case measure => simp [intOf]; omega
          · obtain rfl : k = i := by omega
            go_wp2
            go_roundw
            case rel => exact ⟨k + 1, by omega, by go_num, by rw [HSU.out]; exact HO2.out, HB2.out⟩
            case measure => simp [intOf]; omega
      · obtain rfl : i = n := by omega
        go_wp2_with fail
        refine (number_any G i co (joinTo l r i) wr HO.out.rd (by omega)).mono ?_; rintro e w2 ⟨A2, c2, rfl, ho2, hb2⟩
        rw [HF.out, HJL.out] at ho2
        rw [HF.out, HJL.out]
        have HO2 := Lib.hid (ho2.mono HB.out.size)
        have HB2 := Lib.hid (HB.out.trans (hb2.mono HB.out.size))
        clear ho2 hb2
        go_wp2
        go_ret2
        rw [HV.out]
        refine ⟨A2, c2, ?_, ?_, HB2.out⟩
        · show _ = _; rw [HJL.out]; rfl
        · show OwnI _ _ _ _ (joinL l r).length _ _; rw [HJL.out]; exact HO2.out
  · have HV : Hid (joinE l r = ([], chk2 l r)) := by show joinE l r = _; unfold joinE; rw [if_pos h0]
    generalize chk2 l r = z at c1 h0 HV
    have HC := Lib.hid c1
    have g1 : (z == 0) = false := by simpa using h0
    have g2 : (z != 0) = true := by simpa using h0
    clear c1 h0
    go_enter Tryd.func53, Tryd.ntmps53
    go_wp2_with fail
    refine HC.out.mono ?_; rintro e w' ⟨rfl, rfl⟩
    go_wp2
    go_ret2
    rw [HV.out]; exact IntsErr.none_ _ _
end Go.Proofs.YtooepkpgffpcjaaDoor
