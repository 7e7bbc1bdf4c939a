/- Walk: numbering labels by a map, at labels that are numbers; Of. -/
import Derived.Test.YtooepkpgffpcjaaDoorOf
import Derived.Maps.OwnSet
namespace Go.Proofs.YtooepkpgffpcjaaDoor
open Go.RowKit

/-- a map that holds where each label stands among those that were met -/
def Met (D : DataW Unit) (s : List Int) : Prop :=
  Maps.Tidy D ∧ Maps.size D = s.length ∧ ∀ x : Int, Maps.has D (.int .i64 x) = decide (x ∈ s) ∧ (x ∈ s → D.atKey (.int .i64 x) (.lit (.int .i64 0)) = .lit (.int .i64 (s.idxOf x)))
theorem Met.nil_ : Met (.map []) [] := ⟨Maps.tidy_empty, rfl, fun x => ⟨rfl, fun h => by cases h⟩⟩
theorem Met.put {D : DataW Unit} {s : List Int} (h : Met D s) {x : Int} (hx : x ∉ s) : Met (D.put (.int .i64 x) (.lit (.int .i64 s.length))) (s ++ [x]) := by
  obtain ⟨ht, hs, hh⟩ := h
  have hk : WideAt.IsKeyLit (.int .i64 x) := trivial
  have hx0 : Maps.has D (.int .i64 x) = false := by rw [(hh x).1]; simpa using hx
  refine ⟨ht.put hk _, ?_, fun y => ?_⟩
  · rw [Maps.size_put ht, hx0, hs]; simp
  · by_cases e : y = x
    · subst e
      refine ⟨?_, fun _ => ?_⟩
      · rw [Maps.has_put_same ht.isMap hk]; simp
      · rw [Maps.atKey_put_same ht.isMap hk, List.idxOf_append, if_neg hx]; simp
    · have hne : (Lit.int .i64 y) ≠ (Lit.int .i64 x) := fun h => e (by injection h)
      refine ⟨?_, fun hy => ?_⟩
      · rw [Maps.has_put_other hne, (hh y).1]; simp [e]
      · have hy' : y ∈ s := by simpa [e] using hy
        rw [Maps.atKey_put_other hne, (hh y).2 hy', List.idxOf_append, if_pos hy']
theorem Met.at_ {D : DataW Unit} {s : List Int} (h : Met D s) {x c : Int} (hx : x ∈ s) (hc : D.atKey (.int .i64 x) (.lit (.int .i64 0)) = .lit (.int .i64 c)) : c = (s.idxOf x : Int) := by
  rw [(h.2.2 x).2 hx] at hc
  injection hc with hc
  injection hc with _ hc
  exact hc.symm

theorem lawInt : Maps.Keyed Tryd.prog 3 := Maps.int_keyed Tryd.underlying3
theorem zeroInt (w : World) : (zeroValue 3).run Tryd.prog w = .ok (.int .i64 0) w := by kernel_rfl
theorem keyInt {v : Int} (h : I64 v) : keyOf Tryd.prog 3 (.int .i64 v) = some (.int .i64 v) :=
  Maps.keyOf_int_mk Tryd.underlying3 (by simpa [Lit.wf, IntKind.min, IntKind.max, IntKind.signed, IntKind.bits, I64] using h)
theorem wfInt {v : Int} (h : I64 v) : (Lit.int .i64 v).wf = true := by simpa [Lit.wf, IntKind.min, IntKind.max, IntKind.signed, IntKind.bits, I64] using h

/-- the numbering's map in a world -/
def MapI (w : World) (b n : Nat) (D : DataW Unit) : Prop := w.ownsMap Tryd.prog 3 (plainElem Tryd.prog 3) b n D

set_option maxHeartbeats 1000000 in
theorem number_any (A : Option Addr) (n c : Nat) (l : List Int) (w : World) (h : RdI w A n l) (hn : n ≤ 1000) :
    Calls Tryd.prog 89 #[.slice A n c] w (Listed (ofL l) w) := by
  have HL := Lib.hid h.len
  have hmm := @run_makeMap Tryd.prog
  go_enter Tryd.func89, Tryd.ntmps89
  go_wp2_with fail
  go_loopw [4, 12] (fun o i wr => ∃ k : Nat, k ≤ n ∧ i = .int .i64 k ∧ ∃ Ao co D, o = .slice Ao k co ∧
      OwnI wr (w.heap.size + 1) 3 Ao k co (ofL (l.take k)) ∧ MapI wr w.heap.size k D ∧ Met D (seenOf (l.take k)) ∧ Below w.heap.size w wr ∧ w.heap.size + 1 ≤ wr.heap.size) (fun _ i _ => n - (intOf i).toNat)
  case atStart => exact ⟨0, by omega, rfl, none, 0, .map [], rfl, OwnI.nil_ _ _ _, World.ownsMap_made _ _ _ _, Met.nil_, (Below.refl _ _).alloc (Nat.le_refl _) _, by simp⟩
  case round =>
    obtain ⟨k, hk, rfl, Ao, co, D, rfl, hoo, hmp, hmt, hbel, hsz0⟩ := hrel
    have HO := Lib.hid hoo
    have HP := Lib.hid hmp
    have HM := Lib.hid hmt
    have HB := Lib.hid hbel
    clear hoo hmp hmt hbel
    by_cases hlt : k < n
    · obtain ⟨ad, v, rfl, had, hv, hv64, hcell⟩ := h.at_ hlt
      rw [← HB.out.cell (by rw [block_of_add]; exact had)] at hcell
      have HT := Lib.hid (take_of_get hv.out)
      have HSN := Lib.hid (seenOf_snoc (l.take k) v)
      have HON := Lib.hid (ofL_snoc (l.take k) v)
      have HV := Lib.hid hv64
      clear hv64
      have hsl : (seenOf (l.take k)).length ≤ k := Nat.le_trans (seenOf_len _) (List.length_take_le _ _)
      generalize seenOf (l.take k) = S at HM HSN HON hsl
      generalize ofL (l.take k) = O at HO HON
      have HNB : Hid (Ao.map (·.block) ≠ some w.heap.size) := Lib.hid (fun e => by have := (HO.out.1.block e).1; omega)
      by_cases hvS : v ∈ S
      · have HHas : Hid (Maps.has D (.int .i64 v) = true) := Lib.hid (by rw [(HM.out.2.2 v).1]; simpa using hvS)
        have hidx := List.idxOf_lt_length_of_mem hvS
        have HAT : Hid (∀ d : Int, D.atKey (.int .i64 v) (.lit (.int .i64 0)) = .lit (.int .i64 d) → d = (S.idxOf v : Int)) := Lib.hid fun d hd => HM.out.at_ hvS hd
        generalize List.idxOf v S = q at hidx HON HAT
        go_wp2_with (first
          | (at_lookup; refine wpList_lookup_own_ok_int _ rfl _ _ _ rfl 3 3 .i64 lawInt Tryd.underlying120 Tryd.underlying3 (zeroInt _) w.heap.size k D rfl HP.out _ _ rfl (keyInt HV.out) ?_; intro d hat hwd; have HE := Lib.hid (HAT.out d hat); clear hat hwd; rw [HHas.out, HE.out])
          | (at_builtin; refine wpList_appI1 _ rfl (.tmp 29) (.tmp 31) rfl _ rfl rfl HO.out (v := (q : Int)) (I64.small (by omega)) (by omega) hsz0 ?_; intro A' c' w' kk; have KK := Lib.hid kk; clear kk))
        go_roundw
        case rel => exact ⟨k + 1, by omega, by go_num, A', c', D, rfl, by rw [HT.out, HON.out]; exact KK.out.own, (World.ownsMap.kept HP.out KK.out.grown (fun e => HNB.out (e.symm))).mono (by omega), by rw [HT.out, HSN.out, if_pos hvS]; exact HM.out, HB.out.trans (KK.out.below.mono (by omega)), Nat.le_trans hsz0 KK.out.grown.size⟩
        case measure => simp [intOf]; omega
      · have HHas : Hid (Maps.has D (.int .i64 v) = false) := Lib.hid (by rw [(HM.out.2.2 v).1]; simpa using hvS)
        have HSZ : Hid (Maps.size D = S.length) := Lib.hid HM.out.2.1
        have HPut := Lib.hid (HM.out.put hvS)
        have HIX : Hid (S.idxOf v = S.length) := Lib.hid (List.idxOf_eq_length hvS)
        rw [HIX.out] at HON
        obtain ⟨q, hq⟩ : ∃ q, q = S.length := ⟨_, rfl⟩
        rw [← hq] at HPut HSZ HON hsl
        clear hq
        go_wp2_with (first
          | (at_lookup; refine wpList_lookup_own_ok_int _ rfl _ _ _ rfl 3 3 .i64 lawInt Tryd.underlying120 Tryd.underlying3 (zeroInt _) w.heap.size k D rfl HP.out _ _ rfl (keyInt HV.out) ?_; intro d hat hwd; clear hat hwd; rw [HHas.out])
          | (at_len; refine wpList_len_own _ rfl _ _ rfl 3 3 Tryd.underlying120 _ w.heap.size k D rfl HP.out ?_; rw [HSZ.out])
          | (at_mapUpdate; refine wpList_mapUpdate_own _ rfl _ _ _ _ rfl 3 3 lawInt Tryd.underlying120 _ w.heap.size k D rfl HP.out (by unfold maxLen; omega) _ _ _ rfl rfl (keyInt HV.out) _ [] (plainElem_int Tryd.underlying3 (wfInt (I64.small (v := (q : Int)) (by omega)))) ?_; intro w1 hown1 hgrow1; have HP1 := Lib.hid hown1; have HG1 := Lib.hid hgrow1; have HO1 := Lib.hid (HO.out.grown hgrow1 (.inr HNB.out)); have hsz1 := Nat.le_trans hsz0 hgrow1.size; clear hown1 hgrow1)
          | (at_builtin; refine wpList_appI1 _ rfl (.tmp 29) (.tmp 31) rfl _ rfl rfl HO1.out (v := (q : Int)) (I64.small (by omega)) (by omega) hsz1 ?_; intro A' c' w' kk; have KK := Lib.hid kk; clear kk))
        go_roundw
        case rel => exact ⟨k + 1, by omega, by go_num, A', c', _, rfl, by rw [HT.out, HON.out]; exact KK.out.own, World.ownsMap.kept HP1.out KK.out.grown (fun e => HNB.out e.symm), by rw [HT.out, HSN.out, if_neg hvS]; exact HPut.out, (HB.out.grown HG1.out HB.out.size (fun j hj => by cases hj; exact Nat.le_refl _)).trans (KK.out.below.mono (by omega)), Nat.le_trans hsz1 KK.out.grown.size⟩
        case measure => simp [intOf]; omega
    · have HK : Hid (l.take k = l) := by rw [List.take_of_length_le (by have := HL.out; omega)]; rfl
      rw [HK.out] at HO
      obtain rfl : k = n := by omega
      go_wp2
      go_ret
      have hl2 : (ofL l).length = k := by rw [ofL_length, HL.out]
      refine ⟨Ao, co, ?_, ?_, HB.out⟩
      · rw [hl2]; rfl
      · rw [hl2]; exact HO.out.mono (by omega)

set_option maxHeartbeats 400000 in
theorem progOf_any (A : Option Addr) (n c : Nat) (l : List Int) (w : World) (h : RdI w A n l) : Calls Tryd.prog 29 #[.slice A n c] w (IntsErr (ofE l) w) := by
  have hlen := h.len
  have hbd := h.bd
  by_cases h0 : n = 0
  · have HC := Lib.hid (show ofE l = ([], 6) by unfold ofE; rw [if_pos (by omega)]); clear hlen
    subst h0
    go_enter Tryd.func29, Tryd.ntmps29
    go_wp2
    go_ret2
    rw [HC.out]; exact IntsErr.none_ _ _
  by_cases h9 : 9 < n
  · have HC := Lib.hid (show ofE l = ([], 8) by unfold ofE; rw [if_neg (by omega), if_pos (by omega)]); clear hlen
    have g0 : ((n : Int) == 0) = false := by simp; omega
    go_enter Tryd.func29, Tryd.ntmps29
    go_wp2
    go_ret2
    rw [HC.out]; exact IntsErr.none_ _ _
  · have HC := Lib.hid (show ofE l = (ofL l, 0) by unfold ofE; rw [if_neg (by omega), if_neg (by omega)]); clear hlen
    have g0 : ((n : Int) == 0) = false := by simp; omega
    have g9 : (n : Int) ≤ 9 := by omega
    go_enter Tryd.func29, Tryd.ntmps29
    go_wp2_with fail
    refine (number_any A n c l w h (by omega)).mono ?_; rintro e w' ⟨A', c', rfl, hown, hbel⟩
    have HO := Lib.hid hown
    have HB := Lib.hid hbel
    clear hown hbel
    go_wp2
    go_ret2
    rw [HC.out]; exact ⟨A', c', rfl, HO.out, HB.out⟩

end Go.Proofs.YtooepkpgffpcjaaDoor
