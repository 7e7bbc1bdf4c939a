/- Walk: numbering labels by a map, at labels that are numbers; Of. Plain laws of the partition of labels: labels renamed one to one make the same partition, a partition makes itself, equal labels have equal numbers. Plain laws of partitions: which numbers are equal; finer ones, what is common, what is joined. Plain law: what is joined: the program's way, and the reference's way. -/
import Derived.Test.YtooepkpgffpcjaaDoorMgB
import Derived.Maps.OwnSet
namespace Go.Proofs.YtooepkpgffpcjaaDoor
open Go.RowKit

/-- a map that holds where each label stands among those that were met -/
def Met (D : DataW Unit) (s : List Int) : Prop :=
  Maps.Tidy D ∧ Maps.size D = s.length ∧ ∀ x : Int, Maps.has D (.int .i64 x) = decide (x ∈ s) ∧ (x ∈ s → D.atKey (.int .i64 x) (.lit (.int .i64 0)) = .lit (.int .i64 (s.idxOf x)))
theorem Met.nil_ : Met (.map []) [] := ⟨Maps.tidy_empty, rfl, fun x => ⟨rfl, fun h => by cases h⟩⟩
theorem Met.put {D : DataW Unit} {s : List Int} (h : Met D s) {x : Int} (hx : x ∉ s) : Met (D.put (.int .i64 x) (.lit (.int .i64 s.length))) (s ++ [x]) := by
  obtain ⟨ht, hs, hh⟩ := h
  have hk : WideAt.IsKeyLit (.int .i64 x) := trivial
  have hx0 : Maps.has D (.int .i64 x) = false := by rw [(hh x).1]; simpa using hx
  refine ⟨ht.put hk _, ?_, fun y => ?_⟩
  · rw [Maps.size_put ht, hx0, hs]; simp
  · by_cases e : y = x
    · subst e
      refine ⟨?_, fun _ => ?_⟩
      · rw [Maps.has_put_same ht.isMap hk]; simp
      · rw [Maps.atKey_put_same ht.isMap hk, List.idxOf_append, if_neg hx]; simp
    · have hne : (Lit.int .i64 y) ≠ (Lit.int .i64 x) := fun h => e (by injection h)
      refine ⟨?_, fun hy => ?_⟩
      · rw [Maps.has_put_other hne, (hh y).1]; simp [e]
      · have hy' : y ∈ s := by simpa [e] using hy
        rw [Maps.atKey_put_other hne, (hh y).2 hy', List.idxOf_append, if_pos hy']
theorem Met.at_ {D : DataW Unit} {s : List Int} (h : Met D s) {x c : Int} (hx : x ∈ s) (hc : D.atKey (.int .i64 x) (.lit (.int .i64 0)) = .lit (.int .i64 c)) : c = (s.idxOf x : Int) := by
  rw [(h.2.2 x).2 hx] at hc
  injection hc with hc
  injection hc with _ hc
  exact hc.symm

theorem lawInt : Maps.Keyed Tryd.prog 3 := Maps.int_keyed Tryd.underlying3
theorem zeroInt (w : World) : (zeroValue 3).run Tryd.prog w = .ok (.int .i64 0) w := by kernel_rfl
theorem keyInt {v : Int} (h : I64 v) : keyOf Tryd.prog 3 (.int .i64 v) = some (.int .i64 v) :=
  Maps.keyOf_int_mk Tryd.underlying3 (by simpa [Lit.wf, IntKind.min, IntKind.max, IntKind.signed, IntKind.bits, I64] using h)
theorem wfInt {v : Int} (h : I64 v) : (Lit.int .i64 v).wf = true := by simpa [Lit.wf, IntKind.min, IntKind.max, IntKind.signed, IntKind.bits, I64] using h

/-- the numbering's map in a world -/
def MapI (w : World) (b n : Nat) (D : DataW Unit) : Prop := w.ownsMap Tryd.prog 3 (plainElem Tryd.prog 3) b n D

set_option maxHeartbeats 1000000 in
theorem number_any (A : Option Addr) (n c : Nat) (l : List Int) (w : World) (h : RdI w A n l) (hn : n ≤ 1000) :
    Calls Tryd.prog 89 #[.slice A n c] w (Listed (ofL l) w) := by
  have HL := Lib.hid h.len
  have hmm := @run_makeMap Tryd.prog
  go_enter Tryd.func89, Tryd.ntmps89
  go_wp2_with fail
  go_loopw [4, 12] (fun o i wr => ∃ k : Nat, k ≤ n ∧ i = .int .i64 k ∧ ∃ Ao co D, o = .slice Ao k co ∧
      OwnI wr (w.heap.size + 1) 3 Ao k co (ofL (l.take k)) ∧ MapI wr w.heap.size k D ∧ Met D (seenOf (l.take k)) ∧ Below w.heap.size w wr ∧ w.heap.size + 1 ≤ wr.heap.size) (fun _ i _ => n - (intOf i).toNat)
  case atStart => exact ⟨0, by omega, rfl, none, 0, .map [], rfl, OwnI.nil_ _ _ _, World.ownsMap_made _ _ _ _, Met.nil_, (Below.refl _ _).alloc (Nat.le_refl _) _, by simp⟩
  case round =>
    obtain ⟨k, hk, rfl, Ao, co, D, rfl, hoo, hmp, hmt, hbel, hsz0⟩ := hrel
    have HO := Lib.hid hoo
    have HP := Lib.hid hmp
    have HM := Lib.hid hmt
    have HB := Lib.hid hbel
    clear hoo hmp hmt hbel
    by_cases hlt : k < n
    · obtain ⟨ad, v, rfl, had, hv, hv64, hcell⟩ := h.at_ hlt
      rw [← HB.out.cell (by rw [block_of_add]; exact had)] at hcell
      have HT := Lib.hid (take_of_get hv.out)
      have HSN := Lib.hid (seenOf_snoc (l.take k) v)
      have HON := Lib.hid (ofL_snoc (l.take k) v)
      have HV := Lib.hid hv64
      clear hv64
      have hsl : (seenOf (l.take k)).length ≤ k := Nat.le_trans (seenOf_len _) (List.length_take_le _ _)
      generalize seenOf (l.take k) = S at HM HSN HON hsl
      generalize ofL (l.take k) = O at HO HON
      have HNB : Hid (Ao.map (·.block) ≠ some w.heap.size) := Lib.hid (fun e => by have := (HO.out.1.block e).1; omega)
      by_cases hvS : v ∈ S
      · have HHas : Hid (Maps.has D (.int .i64 v) = true) := Lib.hid (by rw [(HM.out.2.2 v).1]; simpa using hvS)
        have hidx := List.idxOf_lt_length_of_mem hvS
        have HAT : Hid (∀ d : Int, D.atKey (.int .i64 v) (.lit (.int .i64 0)) = .lit (.int .i64 d) → d = (S.idxOf v : Int)) := Lib.hid fun d hd => HM.out.at_ hvS hd
        generalize List.idxOf v S = q at hidx HON HAT
        go_wp2_with (first
          | (at_lookup; refine wpList_lookup_own_ok_int _ rfl _ _ _ rfl 3 3 .i64 lawInt Tryd.underlying120 Tryd.underlying3 (zeroInt _) w.heap.size k D rfl HP.out _ _ rfl (keyInt HV.out) ?_; intro d hat hwd; have HE := Lib.hid (HAT.out d hat); clear hat hwd; rw [HHas.out, HE.out])
          | (at_builtin; refine wpList_appI1 _ rfl (.tmp 29) (.tmp 31) rfl _ rfl rfl HO.out (v := (q : Int)) (I64.small (by omega)) (by omega) hsz0 ?_; intro A' c' w' kk; have KK := Lib.hid kk; clear kk))
        go_roundw
        case rel => exact ⟨k + 1, by omega, by go_num, A', c', D, rfl, by rw [HT.out, HON.out]; exact KK.out.own, (World.ownsMap.kept HP.out KK.out.grown (fun e => HNB.out (e.symm))).mono (by omega), by rw [HT.out, HSN.out, if_pos hvS]; exact HM.out, HB.out.trans (KK.out.below.mono (by omega)), Nat.le_trans hsz0 KK.out.grown.size⟩
        case measure => simp [intOf]; omega
      · have HHas : Hid (Maps.has D (.int .i64 v) = false) := Lib.hid (by rw [(HM.out.2.2 v).1]; simpa using hvS)
        have HSZ : Hid (Maps.size D = S.length) := Lib.hid HM.out.2.1
        have HPut := Lib.hid (HM.out.put hvS)
        have HIX : Hid (S.idxOf v = S.length) := Lib.hid (List.idxOf_eq_length hvS)
        rw [HIX.out] at HON
        obtain ⟨q, hq⟩ : ∃ q, q = S.length := ⟨_, rfl⟩
        rw [← hq] at HPut HSZ HON hsl
        clear hq
        go_wp2_with (first
          | (at_lookup; refine wpList_lookup_own_ok_int _ rfl _ _ _ rfl 3 3 .i64 lawInt Tryd.underlying120 Tryd.underlying3 (zeroInt _) w.heap.size k D rfl HP.out _ _ rfl (keyInt HV.out) ?_; intro d hat hwd; clear hat hwd; rw [HHas.out])
          | (at_len; refine wpList_len_own _ rfl _ _ rfl 3 3 Tryd.underlying120 _ w.heap.size k D rfl HP.out ?_; rw [HSZ.out])
          | (at_mapUpdate; refine wpList_mapUpdate_own _ rfl _ _ _ _ rfl 3 3 lawInt Tryd.underlying120 _ w.heap.size k D rfl HP.out (by unfold maxLen; omega) _ _ _ rfl rfl (keyInt HV.out) _ [] (plainElem_int Tryd.underlying3 (wfInt (I64.small (v := (q : Int)) (by omega)))) ?_; intro w1 hown1 hgrow1; have HP1 := Lib.hid hown1; have HG1 := Lib.hid hgrow1; have HO1 := Lib.hid (HO.out.grown hgrow1 (.inr HNB.out)); have hsz1 := Nat.le_trans hsz0 hgrow1.size; clear hown1 hgrow1)
          | (at_builtin; refine wpList_appI1 _ rfl (.tmp 29) (.tmp 31) rfl _ rfl rfl HO1.out (v := (q : Int)) (I64.small (by omega)) (by omega) hsz1 ?_; intro A' c' w' kk; have KK := Lib.hid kk; clear kk))
        go_roundw
        case rel => exact ⟨k + 1, by omega, by go_num, A', c', _, rfl, by rw [HT.out, HON.out]; exact KK.out.own, World.ownsMap.kept HP1.out KK.out.grown (fun e => HNB.out e.symm), by rw [HT.out, HSN.out, if_neg hvS]; exact HPut.out, (HB.out.grown HG1.out HB.out.size (fun j hj => by cases hj; exact Nat.le_refl _)).trans (KK.out.below.mono (by omega)), Nat.le_trans hsz1 KK.out.grown.size⟩
        case measure => simp [intOf]; omega
    · have HK : Hid (l.take k = l) := by rw [List.take_of_length_le (by have := HL.out; omega)]; rfl
      rw [HK.out] at HO
      obtain rfl : k = n := by omega
      go_wp2
      go_ret
      have hl2 : (ofL l).length = k := by rw [ofL_length, HL.out]
      refine ⟨Ao, co, ?_, ?_, HB.out⟩
      · rw [hl2]; rfl
      · rw [hl2]; exact HO.out.mono (by omega)

set_option maxHeartbeats 400000 in
theorem progOf_any (A : Option Addr) (n c : Nat) (l : List Int) (w : World) (h : RdI w A n l) : Calls Tryd.prog 29 #[.slice A n c] w (IntsErr (ofE l) w) := by
  have hlen := h.len
  have hbd := h.bd
  by_cases h0 : n = 0
  · have HC := Lib.hid (show ofE l = ([], 6) by unfold ofE; rw [if_pos (by omega)]); clear hlen
    subst h0
    go_enter Tryd.func29, Tryd.ntmps29
    go_wp2
    go_ret2
    rw [HC.out]; exact IntsErr.none_ _ _
  by_cases h9 : 9 < n
  · have HC := Lib.hid (show ofE l = ([], 8) by unfold ofE; rw [if_neg (by omega), if_pos (by omega)]); clear hlen
    have g0 : ((n : Int) == 0) = false := by simp; omega
    go_enter Tryd.func29, Tryd.ntmps29
    go_wp2
    go_ret2
    rw [HC.out]; exact IntsErr.none_ _ _
  · have HC := Lib.hid (show ofE l = (ofL l, 0) by unfold ofE; rw [if_neg (by omega), if_neg (by omega)]); clear hlen
    have g0 : ((n : Int) == 0) = false := by simp; omega
    have g9 : (n : Int) ≤ 9 := by omega
    go_enter Tryd.func29, Tryd.ntmps29
    go_wp2_with fail
    refine (number_any A n c l w h (by omega)).mono ?_; rintro e w' ⟨A', c', rfl, hown, hbel⟩
    have HO := Lib.hid hown
    have HB := Lib.hid hbel
    clear hown hbel
    go_wp2
    go_ret2
    rw [HC.out]; exact ⟨A', c', rfl, HO.out, HB.out⟩

end Go.Proofs.YtooepkpgffpcjaaDoor

namespace Go.Proofs.YtooepkpgffpcjaaDoor
open Go.RowKit

theorem seenOf_map {f : Int → Int} (l : List Int) (hf : ∀ x ∈ l, ∀ y ∈ l, f x = f y → x = y) : seenOf (l.map f) = (seenOf l).map f := by
  induction l using snoc_ind with
  | h0 => rfl
  | hs l x ih =>
    have ih' := ih fun a ha b hb => hf a (by simp [ha]) b (by simp [hb])
    rw [List.map_append, List.map_cons, List.map_nil, seenOf_snoc, seenOf_snoc, ih']
    by_cases hx : x ∈ seenOf l
    · rw [if_pos hx, if_pos (List.mem_map.2 ⟨x, hx, rfl⟩)]
    · rw [if_neg hx, if_neg, List.map_append]
      · rfl
      · intro hm
        obtain ⟨y, hy, e⟩ := List.mem_map.1 hm
        have := hf y (by simp [seenOf_sub l y hy]) x (by simp) e
        subst this
        exact hx hy
theorem idxOf_map_on {f : Int → Int} {s : List Int} {x : Int} (hx : x ∈ s) (hf : ∀ y ∈ s, f y = f x → y = x) : (s.map f).idxOf (f x) = s.idxOf x := by
  induction s with
  | nil => cases hx
  | cons a s ih =>
    rw [List.map_cons, List.idxOf_cons, List.idxOf_cons]
    by_cases e : a = x
    · subst e; simp
    · have h1 : (a == x) = false := by simpa using e
      have h2 : (f a == f x) = false := by simpa using fun h => e (hf a (by simp) h)
      rw [h1, h2]
      simp only [cond_false, Nat.add_right_cancel_iff]
      exact ih (by simpa [Ne.symm e] using hx) fun y hy => hf y (by simp [hy])
theorem ofL_map {f : Int → Int} (l : List Int) (hf : ∀ x ∈ l, ∀ y ∈ l, f x = f y → x = y) : ofL (l.map f) = ofL l := by
  unfold ofL
  rw [List.map_map, seenOf_map l hf]
  apply List.map_congr_left
  intro x hx
  show (((seenOf l).map f).idxOf (f x) : Int) = _
  rw [idxOf_map_on (mem_seenOf hx) fun y hy => hf y (seenOf_sub l y hy) x hx]
theorem idx_inj {s : List Int} {x y : Int} (hx : x ∈ s) (hy : y ∈ s) (h : s.idxOf x = s.idxOf y) : x = y := by
  have h1 := List.idxOf_lt_length_of_mem hx
  have h2 := List.idxOf_lt_length_of_mem hy
  have e1 := List.getElem_idxOf h1
  have e2 := List.getElem_idxOf h2
  simp only [h] at e1
  exact e1.symm.trans e2
theorem ofL_ofL (l : List Int) : ofL (ofL l) = ofL l := by
  show ofL (l.map fun x => ((seenOf l).idxOf x : Int)) = ofL l
  exact ofL_map l fun x hx y hy e => idx_inj (mem_seenOf hx) (mem_seenOf hy) (Int.ofNat.inj e)
theorem ofL_same {l : List Int} {i k : Nat} {x y a b : Int} (hx : l[i]? = some x) (hy : l[k]? = some y) (ha : (ofL l)[i]? = some a) (hb : (ofL l)[k]? = some b) : (x == y) = (a == b) := by
  unfold ofL at ha hb
  rw [List.getElem?_map, hx] at ha
  rw [List.getElem?_map, hy] at hb
  injection ha with ha
  injection hb with hb
  subst ha hb
  by_cases e : x = y
  · subst e; simp
  · have h1 : (x == y) = false := by simpa using e
    rw [h1]
    symm
    rw [beq_eq_false_iff_ne]
    intro h
    exact e (idx_inj (mem_seenOf (List.mem_of_getElem? hx)) (mem_seenOf (List.mem_of_getElem? hy)) (Int.ofNat.inj h))

/-- a label and another number, bit by bit -/
def xr (b x : Int) : Int := bits BinOp.xor IntKind.i64 x b
theorem wrap_toInt (a : BitVec 64) : IntKind.i64.wrap (a.toNat : Int) = a.toInt := by
  have h := a.isLt
  rw [BitVec.toInt_eq_toNat_cond]
  have e1 : ((a.toNat : Int) % 2 ^ 64) = a.toNat := by omega
  simp only [IntKind.wrap, IntKind.bits, IntKind.signed, Bool.true_and, decide_eq_true_eq, e1]
  split <;> split <;> omega
theorem xr_eq (b x : Int) : xr b x = (BitVec.ofInt 64 x ^^^ BitVec.ofInt 64 b).toInt := wrap_toInt _
theorem toInt_I64 (a : BitVec 64) : I64 a.toInt := by
  have h1 := a.le_toInt
  have h2 := a.toInt_lt
  unfold I64
  simp at h1 h2
  omega
theorem xr_I64 (b x : Int) : I64 (xr b x) := by rw [xr_eq]; exact toInt_I64 _
theorem ofInt_back {x : Int} (h : I64 x) : (BitVec.ofInt 64 x).toInt = x := by
  unfold I64 at h
  rw [BitVec.toInt_ofInt]
  simp only [Int.bmod]
  split <;> omega
theorem xr_inj {b x y : Int} (hx : I64 x) (hy : I64 y) (h : xr b x = xr b y) : x = y := by
  rw [xr_eq, xr_eq] at h
  have h1 := BitVec.eq_of_toInt_eq h
  have h2 : BitVec.ofInt 64 x = BitVec.ofInt 64 y := by
    have := congrArg (· ^^^ BitVec.ofInt 64 b) h1
    simpa [BitVec.xor_assoc] using this
  rw [← ofInt_back hx, ← ofInt_back hy, h2]
end Go.Proofs.YtooepkpgffpcjaaDoor

namespace Go.Proofs.YtooepkpgffpcjaaDoor
open Go.RowKit

/-- two lists of as many numbers, equal at the same places -/
def Pat (l r : List Int) : Prop := l.length = r.length ∧ ∀ i j, i < l.length → j < l.length → (l.getD i 0 = l.getD j 0 ↔ r.getD i 0 = r.getD j 0)
theorem Pat.refl (l : List Int) : Pat l l := ⟨rfl, fun _ _ _ _ => Iff.rfl⟩
theorem Pat.symm {l r : List Int} (h : Pat l r) : Pat r l := ⟨h.1.symm, fun i j hi hj => (h.2 i j (by rw [h.1]; exact hi) (by rw [h.1]; exact hj)).symm⟩
theorem Pat.trans {a b c : List Int} (h : Pat a b) (k : Pat b c) : Pat a c := ⟨h.1.trans k.1, fun i j hi hj => (h.2 i j hi hj).trans (k.2 i j (by rw [← h.1]; exact hi) (by rw [← h.1]; exact hj))⟩
theorem get_getD {l : List Int} {i : Nat} (h : i < l.length) : l[i]? = some (l.getD i 0) := by
  rw [List.getD_eq_getElem?_getD, List.getElem?_eq_getElem h]; rfl
theorem getD_mem {l : List Int} {i : Nat} (h : i < l.length) : l.getD i 0 ∈ l := List.mem_of_getElem? (get_getD h)
theorem pat_ofL (l : List Int) : Pat l (ofL l) := by
  refine ⟨(ofL_length l).symm, fun i j hi hj => ?_⟩
  have h := ofL_same (get_getD hi) (get_getD hj) (get_getD (l := ofL l) (by rw [ofL_length]; exact hi)) (get_getD (l := ofL l) (by rw [ofL_length]; exact hj))
  constructor
  · intro e; rw [beq_iff_eq.2 e] at h; exact beq_iff_eq.1 h.symm
  · intro e; rw [beq_iff_eq.2 e] at h; exact beq_iff_eq.1 h
theorem ext_getD {l r : List Int} (hl : l.length = r.length) (h : ∀ i, i < l.length → l.getD i 0 = r.getD i 0) : l = r := by
  apply List.ext_getElem?
  intro i
  by_cases hi : i < l.length
  · rw [get_getD hi, get_getD (l := r) (by omega), h i hi]
  · rw [List.getElem?_eq_none (by omega), List.getElem?_eq_none (by omega)]
theorem idxOf_lt {l : List Int} {i : Nat} (hi : i < l.length) : l.idxOf (l.getD i 0) < l.length ∧ l.getD (l.idxOf (l.getD i 0)) 0 = l.getD i 0 := by
  have h1 := List.idxOf_lt_length_of_mem (getD_mem hi)
  refine ⟨h1, ?_⟩
  have e := List.getElem_idxOf h1
  have := get_getD h1
  rw [List.getElem?_eq_getElem h1] at this
  injection this with this
  rw [← this, e]
theorem ofL_pat {l r : List Int} (h : Pat l r) : ofL l = ofL r := by
  have e : r = l.map fun x => r.getD (l.idxOf x) 0 := by
    refine ext_getD (by rw [List.length_map, h.1]) fun i hi => ?_
    have hi' : i < l.length := by rw [h.1]; exact hi
    have hm : (l.map fun x => r.getD (l.idxOf x) 0)[i]? = some (r.getD (l.idxOf (l.getD i 0)) 0) := by rw [List.getElem?_map, get_getD hi']; rfl
    rw [getD_of_get hm]
    obtain ⟨h1, h2⟩ := idxOf_lt hi'
    exact ((h.2 _ i h1 hi').1 h2).symm
  rw [e]
  refine (ofL_map l fun x hx y hy hxy => ?_).symm
  have hx1 := List.idxOf_lt_length_of_mem hx
  have hy1 := List.idxOf_lt_length_of_mem hy
  have := (h.2 _ _ hx1 hy1).2 hxy
  have ex : l.getD (l.idxOf x) 0 = x := getD_of_get (by rw [List.getElem?_eq_getElem hx1, List.getElem_idxOf hx1])
  have ey : l.getD (l.idxOf y) 0 = y := getD_of_get (by rw [List.getElem?_eq_getElem hy1, List.getElem_idxOf hy1])
  rw [ex, ey] at this
  exact this
theorem ofL_eq_iff {l r : List Int} : ofL l = ofL r ↔ Pat l r :=
  ⟨fun h => (pat_ofL l).trans (h ▸ (pat_ofL r).symm), ofL_pat⟩

/-! ### A partition is the one of itself -/
theorem chkGo_unsnoc (p : List Int) (x nx : Int) (h : chkGo nx (p ++ [x]) = 0) : chkGo nx p = 0 ∧ 0 ≤ x ∧ x ≤ p.foldl (fun n v => max n (v + 1)) nx := by
  induction p generalizing nx with
  | nil =>
    simp only [List.nil_append, chkGo] at h
    split at h
    · cases h
    · split at h
      · cases h
      · exact ⟨rfl, by omega, by show x ≤ nx; omega⟩
  | cons a p ih =>
    simp only [List.cons_append, chkGo] at h ⊢
    split at h
    · cases h
    · rename_i h1
      rw [if_neg h1]
      split at h
      · cases h
      · rename_i h2
        rw [if_neg h2]
        have e : (if a = nx then nx + 1 else nx) = max nx (a + 1) := by split <;> omega
        rw [e] at h ⊢
        exact ih _ h
theorem idx_range {n : Nat} {x : Int} (h0 : 0 ≤ x) (hx : x < n) : ((List.range n).map Int.ofNat).idxOf x = x.toNat := by
  refine idx_eq ?_ ?_
  · rw [List.getElem?_map, List.getElem?_range (by omega)]
    show some (Int.ofNat x.toNat) = some x
    congr 1
    show ((x.toNat : Nat) : Int) = x
    omega
  · intro j hj
    rw [List.getElem?_map, List.getElem?_range (by omega)]
    intro e
    have : (Int.ofNat j) = x := by simpa using e
    have e2 : ((j : Nat) : Int) = x := this
    omega
theorem mem_rangeI {n : Nat} {x : Int} : x ∈ (List.range n).map Int.ofNat ↔ 0 ≤ x ∧ x < n := by
  rw [List.mem_map]
  constructor
  · rintro ⟨j, hj, rfl⟩
    have := List.mem_range.1 hj
    exact ⟨by show (0 : Int) ≤ (j : Nat); omega, by show ((j : Nat) : Int) < n; omega⟩
  · rintro ⟨h1, h2⟩
    exact ⟨x.toNat, List.mem_range.2 (by omega), by show ((x.toNat : Nat) : Int) = x; omega⟩
theorem seen_self (p : List Int) (h : chkGo 0 p = 0) : seenOf p = (List.range (blk p).toNat).map Int.ofNat ∧ ofL p = p := by
  induction p using snoc_ind with
  | h0 => exact ⟨rfl, rfl⟩
  | hs p x ih =>
    obtain ⟨h1, h2, h3⟩ := chkGo_unsnoc p x 0 h
    obtain ⟨ih1, ih2⟩ := ih h1
    have h3' : x ≤ blk p := h3
    have hb : blk (p ++ [x]) = max (blk p) (x + 1) := by simp [blk]
    have hb0 : 0 ≤ blk p := le_foldl_max p 0
    rw [ofL_snoc, ih2, seenOf_snoc, ih1, hb]
    by_cases hx : x < blk p
    · have hm : x ∈ (List.range (blk p).toNat).map Int.ofNat := mem_rangeI.2 ⟨h2, by omega⟩
      rw [if_pos hm, idx_range h2 (by omega)]
      refine ⟨by rw [Int.max_eq_left (by omega)], ?_⟩
      congr 2
      omega
    · have hm : x ∉ (List.range (blk p).toNat).map Int.ofNat := fun hm => by have := mem_rangeI.1 hm; omega
      have hxe : x = blk p := by omega
      rw [if_neg hm, List.idxOf_eq_length hm, List.length_map, List.length_range]
      refine ⟨?_, by congr 2; omega⟩
      rw [Int.max_eq_right (by omega), show (x + 1).toNat = (blk p).toNat + 1 by omega, List.range_succ, List.map_append]
      congr 1
      show [x] = [((blk p).toNat : Int)]
      congr 1; omega
theorem ofL_self {p : List Int} (h : chk p = 0) : ofL p = p := (seen_self p (chk_ok h).2.2.2).2
theorem part_eq_iff {p q : List Int} (hp : chk p = 0) (hq : chk q = 0) : p = q ↔ Pat p q := by
  rw [← ofL_eq_iff, ofL_self hp, ofL_self hq]

theorem chkGo_pre (p q : List Int) (nx : Int) (h : chkGo nx (p ++ q) = 0) : chkGo nx p = 0 := by
  induction p generalizing nx with
  | nil => rfl
  | cons a p ih =>
    simp only [List.cons_append, chkGo] at h ⊢
    split at h
    · cases h
    · rename_i h1
      rw [if_neg h1]
      split at h
      · cases h
      · rename_i h2
        rw [if_neg h2]
        exact ih _ h
theorem chk_take {l : List Int} (h : chk l = 0) (k : Nat) : chkGo 0 (l.take k) = 0 := chkGo_pre (l.take k) (l.drop k) 0 (by rw [List.take_append_drop]; exact (chk_ok h).2.2.2)
theorem lt_blk {a : List Int} {v : Int} (h : v ∈ a) : v < blk a := by
  have key : ∀ (l : List Int) (x : Int), v ∈ l → v < l.foldl (fun n v => max n (v + 1)) x := by
    intro l
    induction l with
    | nil => intro x h; cases h
    | cons y l ih =>
      intro x h
      rcases List.mem_cons.1 h with rfl | h
      · have := le_foldl_max l (max x (v + 1))
        show v < l.foldl (fun n v => max n (v + 1)) (max x (v + 1))
        omega
      · exact ih _ h
  exact key a 0 h
/-! ### Finer ones -/
def Fin_ (a b : List Int) : Prop := ∀ i j, i < a.length → j < a.length → a.getD i 0 = a.getD j 0 → b.getD i 0 = b.getD j 0
def finB (a b : List Int) : Bool := (List.range a.length).all fun i => (List.range a.length).all fun j => !(a.getD i 0 == a.getD j 0) || b.getD i 0 == b.getD j 0
theorem finB_iff {a b : List Int} : finB a b = true ↔ Fin_ a b := by
  unfold finB Fin_
  simp only [List.all_eq_true, List.mem_range, Bool.or_eq_true, Bool.not_eq_true', beq_eq_false_iff_ne, beq_iff_eq]
  constructor
  · intro h i j hi hj e
    rcases h i hi j hj with h1 | h1
    · exact absurd e h1
    · exact h1
  · intro h i hi j hj
    by_cases e : a.getD i 0 = a.getD j 0
    · exact .inr (h i j hi hj e)
    · exact .inl e
def pairL (m : Int) (a b : List Int) : List Int := List.zipWith (fun x y => x * m + y) a b
theorem pairL_length {m : Int} {a b : List Int} (h : a.length = b.length) : (pairL m a b).length = a.length := by simp [pairL, h]
theorem pairL_get {m : Int} {a b : List Int} (h : a.length = b.length) {i : Nat} (hi : i < a.length) : (pairL m a b).getD i 0 = a.getD i 0 * m + b.getD i 0 := by
  refine getD_of_get ?_
  unfold pairL
  rw [List.getElem?_zipWith, get_getD hi, get_getD (l := b) (by omega)]
theorem pairL_eq {m : Int} {a b : List Int} (h : a.length = b.length) (hb : ∀ v ∈ b, 0 ≤ v ∧ v < m) {i j : Nat} (hi : i < a.length) (hj : j < a.length) :
    (pairL m a b).getD i 0 = (pairL m a b).getD j 0 ↔ a.getD i 0 = a.getD j 0 ∧ b.getD i 0 = b.getD j 0 := by
  rw [pairL_get h hi, pairL_get h hj]
  have h1 := hb _ (getD_mem (l := b) (i := i) (by omega))
  have h2 := hb _ (getD_mem (l := b) (i := j) (by omega))
  generalize a.getD i 0 = x
  generalize a.getD j 0 = y
  generalize b.getD i 0 = u at h1
  generalize b.getD j 0 = v at h2
  constructor
  · intro e
    have hxy : x = y := by
      rcases Int.lt_trichotomy x y with hlt | he | hgt
      · have : x * m + m ≤ y * m := by
          have := Int.mul_le_mul_of_nonneg_right (show x + 1 ≤ y by omega) (show 0 ≤ m by omega)
          rw [Int.add_mul, Int.one_mul] at this; exact this
        omega
      · exact he
      · have : y * m + m ≤ x * m := by
          have := Int.mul_le_mul_of_nonneg_right (show y + 1 ≤ x by omega) (show 0 ≤ m by omega)
          rw [Int.add_mul, Int.one_mul] at this; exact this
        omega
    subst hxy
    exact ⟨rfl, by omega⟩
  · rintro ⟨rfl, rfl⟩; rfl
/-- what is common to both -/
def meetL (a b : List Int) : List Int := ofL (pairL 1000 a b)
theorem meet_any_base {m : Int} {a b : List Int} (h : a.length = b.length) (hm : ∀ v ∈ b, 0 ≤ v ∧ v < m) (hb : ∀ v ∈ b, 0 ≤ v ∧ v < 1000) : ofL (pairL m a b) = meetL a b := by
  refine ofL_pat ⟨by rw [pairL_length h, pairL_length h], fun i j hi hj => ?_⟩
  rw [pairL_length h] at hi hj
  rw [pairL_eq h hm hi hj, pairL_eq h hb hi hj]
theorem lt1000 {b : List Int} (hb : chk b = 0) : ∀ v ∈ b, 0 ≤ v ∧ v < 1000 := fun v hv => by have := (chk_ok hb).2.2.1 v hv; omega
theorem meet_ref {a b : List Int} (h : a.length = b.length) (hb : chk b = 0) : ofL (pairL 9 a b) = meetL a b := meet_any_base h (chk_ok hb).2.2.1 (lt1000 hb)
theorem meetL_length {a b : List Int} (h : a.length = b.length) : (meetL a b).length = a.length := by unfold meetL; rw [ofL_length, pairL_length h]
theorem meetL_eq {a b : List Int} (h : a.length = b.length) (hb : chk b = 0) {i j : Nat} (hi : i < a.length) (hj : j < a.length) :
    (meetL a b).getD i 0 = (meetL a b).getD j 0 ↔ a.getD i 0 = a.getD j 0 ∧ b.getD i 0 = b.getD j 0 := by
  rw [← pairL_eq h (lt1000 hb) hi hj]
  exact ((pat_ofL (pairL 1000 a b)).2 i j (by rw [pairL_length h]; exact hi) (by rw [pairL_length h]; exact hj)).symm
theorem chk_meet {a b : List Int} (h : a.length = b.length) (ha : chk a = 0) : chk (meetL a b) = 0 := by
  have := chk_ok ha
  exact chk_ofL (by rw [pairL_length h]; omega) (by rw [pairL_length h]; omega)
theorem bool_eq_of_iff {x y : Bool} (h : x = true ↔ y = true) : x = y := by cases x <;> cases y <;> simp_all
theorem finer_prog {a b : List Int} (h : a.length = b.length) (ha : chk a = 0) (hb : chk b = 0) : (meetL a b == a) = finB a b := by
  refine bool_eq_of_iff ?_
  rw [beq_iff_eq, finB_iff, part_eq_iff (chk_meet h ha) ha]
  constructor
  · intro hp i j hi hj e
    exact ((meetL_eq h hb hi hj).1 ((hp.2 i j (by rw [meetL_length h]; exact hi) (by rw [meetL_length h]; exact hj)).2 e)).2
  · intro hf
    refine ⟨meetL_length h, fun i j hi hj => ?_⟩
    rw [meetL_length h] at hi hj
    rw [meetL_eq h hb hi hj]
    exact ⟨fun e => e.1, fun e => ⟨e, hf i j hi hj e⟩⟩

/-! ### What is joined -/
inductive Hang (a b : List Int) : Nat → Nat → Prop
  | refl (i : Nat) : Hang a b i i
  | step {i j k : Nat} : Hang a b i j → j < a.length → k < a.length → (a.getD j 0 = a.getD k 0 ∨ b.getD j 0 = b.getD k 0) → Hang a b i k
theorem Hang.trans {a b : List Int} {i j k : Nat} (h : Hang a b i j) (g : Hang a b j k) : Hang a b i k := by
  induction g with
  | refl => exact h
  | step _ hj hk e ih => exact .step ih hj hk e
theorem Hang.one {a b : List Int} {i j : Nat} (hi : i < a.length) (hj : j < a.length) (e : a.getD i 0 = a.getD j 0 ∨ b.getD i 0 = b.getD j 0) : Hang a b i j := .step (.refl i) hi hj e
theorem Hang.symm {a b : List Int} {i j : Nat} (h : Hang a b i j) : Hang a b j i := by
  induction h with
  | refl => exact .refl _
  | step _ hj hk e ih => exact (Hang.one hk hj (by rcases e with e | e; exact .inl e.symm; exact .inr e.symm)).trans ih
/-- labels that are equal just where packets hang together -/
def Joined (a b l : List Int) : Prop := l.length = a.length ∧ ∀ i j, i < a.length → j < a.length → (l.getD i 0 = l.getD j 0 ↔ Hang a b i j)
theorem Joined.pat {a b l r : List Int} (h : Joined a b l) (g : Joined a b r) : Pat l r :=
  ⟨h.1.trans g.1.symm, fun i j hi hj => by rw [h.1] at hi hj; exact (h.2 i j hi hj).trans (g.2 i j hi hj).symm⟩
open Classical in
noncomputable def joinedL (a b : List Int) : List Int := if h : ∃ l, Joined a b l then Classical.choose h else []
/-- what is joined -/
noncomputable def joinL (a b : List Int) : List Int := ofL (joinedL a b)
theorem joinedL_of {a b l : List Int} (h : Joined a b l) : Joined a b (joinedL a b) := by
  unfold joinedL
  rw [dif_pos ⟨l, h⟩]
  exact Classical.choose_spec (⟨l, h⟩ : ∃ l, Joined a b l)
theorem joinL_of {a b l : List Int} (h : Joined a b l) : ofL l = joinL a b := ofL_pat (h.pat (joinedL_of h))
/-- labels that go along with what hangs together -/
theorem hang_eq {a b l : List Int} (ha : ∀ i j, i < a.length → j < a.length → a.getD i 0 = a.getD j 0 → l.getD i 0 = l.getD j 0)
    (hb : ∀ i j, i < a.length → j < a.length → b.getD i 0 = b.getD j 0 → l.getD i 0 = l.getD j 0) {i j : Nat} (h : Hang a b i j) : l.getD i 0 = l.getD j 0 := by
  induction h with
  | refl => rfl
  | step _ hj hk e ih =>
    rcases e with e | e
    · exact ih.trans (ha _ _ hj hk e)
    · exact ih.trans (hb _ _ hj hk e)
end Go.Proofs.YtooepkpgffpcjaaDoor

namespace Go.Proofs.YtooepkpgffpcjaaDoor
open Go.RowKit

/-- all labels that are one become another one -/
def relb (f t : Int) (o : List Int) : List Int := o.map fun z => if z = f then t else z
theorem relb_length (f t : Int) (o : List Int) : (relb f t o).length = o.length := by simp [relb]
theorem relb_get (f t : Int) {o : List Int} {x : Nat} (hx : x < o.length) : (relb f t o).getD x 0 = if o.getD x 0 = f then t else o.getD x 0 := by
  refine getD_of_get ?_
  unfold relb
  rw [List.getElem?_map, get_getD hx]; rfl
def joinStep (b : List Int) (i : Nat) (o : List Int) (k : Nat) : List Int := if b.getD i 0 = b.getD k 0 then relb (o.getD i 0) (o.getD k 0) o else o
def joinRow (b : List Int) (o : List Int) (i : Nat) : List Int := (List.range i).foldl (joinStep b i) o
def joinTo (a b : List Int) (k : Nat) : List Int := (List.range k).foldl (joinRow b) a

structure JInv (a b o : List Int) (i k : Nat) : Prop where
  len : o.length = a.length
  sound : ∀ x y, x < a.length → y < a.length → o.getD x 0 = o.getD y 0 → Hang a b x y
  keepA : ∀ x y, x < a.length → y < a.length → a.getD x 0 = a.getD y 0 → o.getD x 0 = o.getD y 0
  keepB : ∀ x y, x < a.length → y < x → (x < i ∨ x = i ∧ y < k) → b.getD x 0 = b.getD y 0 → o.getD x 0 = o.getD y 0
theorem JInv.step {a b o : List Int} {i k : Nat} (h : JInv a b o i k) (hi : i < a.length) (hk : k < i) : JInv a b (joinStep b i o k) i (k + 1) := by
  unfold joinStep
  by_cases e : b.getD i 0 = b.getD k 0
  · rw [if_pos e]
    have hl := h.len
    have hg : ∀ x, x < a.length → (relb (o.getD i 0) (o.getD k 0) o).getD x 0 = if o.getD x 0 = o.getD i 0 then o.getD k 0 else o.getD x 0 := fun x hx => relb_get _ _ (by omega)
    have hik : Hang a b i k := Hang.one hi (by omega) (.inr e)
    have hmono : ∀ x y, x < a.length → y < a.length → o.getD x 0 = o.getD y 0 → (relb (o.getD i 0) (o.getD k 0) o).getD x 0 = (relb (o.getD i 0) (o.getD k 0) o).getD y 0 := fun x y hx hy exy => by
      rw [hg x hx, hg y hy, exy]
    refine ⟨by rw [relb_length, h.len], fun x y hx hy hxy => ?_, fun x y hx hy hxy => hmono x y hx hy (h.keepA x y hx hy hxy), fun x y hx hy hp hxy => ?_⟩
    · rw [hg x hx, hg y hy] at hxy
      split at hxy
      · rename_i e1
        split at hxy
        · rename_i e2
          exact h.sound x y hx hy (e1.trans e2.symm)
        · exact ((h.sound x i hx hi e1).trans hik).trans (h.sound k y (by omega) hy hxy)
      · split at hxy
        · rename_i e2
          exact ((h.sound x k hx (by omega) hxy).trans hik.symm).trans (h.sound i y hi hy e2.symm)
        · exact h.sound x y hx hy hxy
    · rcases hp with hp | ⟨rfl, hp⟩
      · exact hmono x y hx (by omega) (h.keepB x y hx hy (.inl hp) hxy)
      · rcases Nat.lt_or_ge y k with hlt | hge
        · exact hmono x y hx (by omega) (h.keepB x y hx hy (.inr ⟨rfl, hlt⟩) hxy)
        · obtain rfl : y = k := by omega
          rw [hg x hx, hg y (by omega), if_pos rfl]
          split
          · rfl
          · rfl
  · rw [if_neg e]
    refine ⟨h.len, h.sound, h.keepA, fun x y hx hy hp hxy => ?_⟩
    rcases hp with hp | ⟨rfl, hp⟩
    · exact h.keepB x y hx hy (.inl hp) hxy
    · rcases Nat.lt_or_ge y k with hlt | hge
      · exact h.keepB x y hx hy (.inr ⟨rfl, hlt⟩) hxy
      · obtain rfl : y = k := by omega
        exact absurd hxy e
theorem JInv.row {a b o : List Int} {i : Nat} (h : JInv a b o i 0) (hi : i < a.length) : JInv a b (joinRow b o i) (i + 1) 0 := by
  have key : ∀ k, k ≤ i → JInv a b ((List.range k).foldl (joinStep b i) o) i k := by
    intro k
    induction k with
    | zero => intro _; exact h
    | succ k ih => intro hk; rw [foldl_range_succ]; exact (ih (by omega)).step hi (by omega)
  have g := key i (Nat.le_refl _)
  refine ⟨g.len, g.sound, g.keepA, fun x y hx hy hp hxy => g.keepB x y hx hy ?_ hxy⟩
  rcases hp with hp | ⟨rfl, hp⟩
  · rcases Nat.lt_or_ge x i with h1 | h1
    · exact .inl h1
    · exact .inr ⟨by omega, by omega⟩
  · omega
theorem joinTo_inv (a b : List Int) (k : Nat) (hk : k ≤ a.length) : JInv a b (joinTo a b k) k 0 := by
  induction k with
  | zero => exact ⟨rfl, fun x y hx hy e => Hang.one hx hy (.inl e), fun _ _ _ _ e => e, fun x y _ _ hp => by omega⟩
  | succ k ih =>
    have e : joinTo a b (k + 1) = joinRow b (joinTo a b k) k := foldl_range_succ _ _ _
    rw [e]; exact (ih (by omega)).row (by omega)
theorem join_prog (a b : List Int) : Joined a b (joinTo a b a.length) := by
  have h := joinTo_inv a b a.length (Nat.le_refl _)
  refine ⟨h.len, fun i j hi hj => ⟨h.sound i j hi hj, fun hh => hang_eq h.keepA (fun x y hx hy e => ?_) hh⟩⟩
  rcases Nat.lt_trichotomy x y with hlt | rfl | hgt
  · exact (h.keepB y x hy hlt (.inl hy) e.symm).symm
  · rfl
  · exact h.keepB x y hx hgt (.inl hx) e
theorem relb_small {f t : Int} {o : List Int} {M : Int} (ho : ∀ v ∈ o, 0 ≤ v ∧ v < M) (ht : 0 ≤ t ∧ t < M) : ∀ v ∈ relb f t o, 0 ≤ v ∧ v < M := by
  intro v hv
  obtain ⟨z, hz, rfl⟩ := List.mem_map.1 hv
  split
  · exact ht
  · exact ho z hz

/-! ### The reference's way -/
def sm (L : List Int) : Nat := (L.map Int.toNat).sum
theorem sm_set {L : List Int} {k : Nat} {v : Int} (hk : k < L.length) (h : v.toNat < (L.getD k 0).toNat) : sm (L.set k v) < sm L := by
  induction L generalizing k with
  | nil => simp at hk
  | cons x L ih =>
    cases k with
    | zero =>
      simp only [List.set_cons_zero, sm, List.map_cons, List.sum_cons]
      have : (List.getD (x :: L) 0 0) = x := rfl
      rw [this] at h; omega
    | succ k =>
      have h' : v.toNat < (L.getD k 0).toNat := by simpa using h
      have := ih (k := k) (by simpa using hk) h'
      simp only [List.set_cons_succ, sm, List.map_cons, List.sum_cons] at this ⊢
      omega
/-- labels that are equal only where packets hang together -/
structure JRef (a b L : List Int) : Prop where
  len : L.length = a.length
  sound : ∀ x y, x < a.length → y < a.length → L.getD x 0 = L.getD y 0 → Hang a b x y
  small : ∀ v ∈ L, 0 ≤ v ∧ v < 9
theorem getD_set_i {l : List Int} {k : Nat} {v : Int} (hk : k < l.length) (x : Nat) : (l.set k v).getD x 0 = if k = x then v else l.getD x 0 := by
  simp only [List.getD_eq_getElem?_getD]
  by_cases e : k = x
  · subst e; rw [if_pos rfl, List.getElem?_set_self hk]; rfl
  · rw [if_neg e, List.getElem?_set_ne e]
theorem JRef.set_ {a b L : List Int} (h : JRef a b L) {i k : Nat} (hi : i < a.length) (hk : k < a.length) (e : a.getD i 0 = a.getD k 0 ∨ b.getD i 0 = b.getD k 0) : JRef a b (L.set k (L.getD i 0)) := by
  have hg : ∀ x, (L.set k (L.getD i 0)).getD x 0 = if k = x then L.getD i 0 else L.getD x 0 := getD_set_i (by rw [h.len]; exact hk)
  have hik := Hang.one hi hk e
  refine ⟨by rw [List.length_set, h.len], fun x y hx hy hxy => ?_, fun v hv => ?_⟩
  · rw [hg, hg] at hxy
    split at hxy
    · rename_i e1; subst e1
      split at hxy
      · rename_i e2; subst e2; exact .refl _
      · exact hik.symm.trans (h.sound i y hi hy hxy)
    · split at hxy
      · rename_i e2; subst e2; exact (h.sound x i hx hi hxy).trans hik
      · exact h.sound x y hx hy hxy
  · rcases List.mem_or_eq_of_mem_set hv with h1 | rfl
    · exact h.small v h1
    · exact h.small _ (getD_mem (by rw [h.len]; exact hi))
/-- nothing is to be done before (i, k) -/
def Still_ (a b L : List Int) (i k : Nat) : Prop := ∀ x y, x < a.length → y < a.length → (x < i ∨ x = i ∧ y < k) → (a.getD x 0 = a.getD y 0 ∨ b.getD x 0 = b.getD y 0) → ¬ L.getD x 0 < L.getD y 0
theorem join_ref {a b L : List Int} (h : JRef a b L) (hs : Still_ a b L a.length 0) : Joined a b L := by
  have key : ∀ x y, x < a.length → y < a.length → (a.getD x 0 = a.getD y 0 ∨ b.getD x 0 = b.getD y 0) → L.getD x 0 = L.getD y 0 := fun x y hx hy e => by
    have h1 := hs x y hx hy (.inl hx) e
    have h2 := hs y x hy hx (.inl hy) (by rcases e with e | e; exact .inl e.symm; exact .inr e.symm)
    omega
  exact ⟨h.len, fun i j hi hj => ⟨h.sound i j hi hj, fun hh => hang_eq (fun x y hx hy e => key x y hx hy (.inl e)) (fun x y hx hy e => key x y hx hy (.inr e)) hh⟩⟩
theorem JRef.start {a b : List Int} (ha : chk a = 0) : JRef a b a := ⟨rfl, fun _ _ hx hy e => Hang.one hx hy (.inl e), (chk_ok ha).2.2.1⟩
/-- Join's answer -/
noncomputable def joinE (a b : List Int) : List Int × Int := if chk2 a b ≠ 0 then ([], chk2 a b) else (joinL a b, 0)
/-- Meet's answer -/
def meetE (a b : List Int) : List Int × Int := if chk2 a b ≠ 0 then ([], chk2 a b) else (meetL a b, 0)
/-- Finer's answer -/
def finE (a b : List Int) : Bool × Int := if chk2 a b ≠ 0 then (false, chk2 a b) else (finB a b, 0)
theorem joinedL_length (a b : List Int) : (joinedL a b).length = a.length := (joinedL_of (join_prog a b)).1
theorem joinL_length (a b : List Int) : (joinL a b).length = a.length := by unfold joinL; rw [ofL_length, joinedL_length]
theorem chk_join {a b : List Int} (ha : chk a = 0) : chk (joinL a b) = 0 := by
  have := chk_ok ha
  exact chk_ofL (by rw [joinedL_length]; omega) (by rw [joinedL_length]; omega)
theorem joinL_eq (a b : List Int) {i j : Nat} (hi : i < a.length) (hj : j < a.length) : (joinL a b).getD i 0 = (joinL a b).getD j 0 ↔ Hang a b i j := by
  have h := joinedL_of (join_prog a b)
  rw [← h.2 i j hi hj]
  exact ((pat_ofL (joinedL a b)).2 i j (by rw [h.1]; exact hi) (by rw [h.1]; exact hj)).symm
end Go.Proofs.YtooepkpgffpcjaaDoor
