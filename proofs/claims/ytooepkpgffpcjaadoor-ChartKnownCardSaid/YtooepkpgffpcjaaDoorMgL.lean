/- Plain law: the rows of a chart. Walk: the rows of a text. Plain law: blocks of one level do not overlap; the chart of a partition tells it. Walks: the reference's behind, Rank, Unrank, and the program's Unrank. -/
import Derived.Test.YtooepkpgffpcjaaDoorMgJ
import Derived.Test.YtooepkpgffpcjaaDoorMgD
import Derived.Test.YtooepkpgffpcjaaDoorMgE
import Derived.Test.YtooepkpgffpcjaaDoorMgC
namespace Go.Proofs.YtooepkpgffpcjaaDoor
open Go.RowKit

/-! ### Where a block begins and ends -/
theorem barsTo_ends {l : List Int} (h : chk l = 0) (k : Nat) (hk : k ≤ l.length) : ∀ (j : Nat) b, (barsTo l k)[j]? = some b →
    ∃ f t : Nat, b.1 = f ∧ b.2.1 = t ∧ f ≤ t ∧ t < k ∧ l.getD f 0 = j ∧ l.getD t 0 = j ∧ ∀ i, i < k → l.getD i 0 = j → f ≤ i ∧ i ≤ t := by
  induction k with
  | zero => intro j b hb; simp [barsTo] at hb
  | succ k ih =>
    have ih' := ih (by omega)
    obtain ⟨h1, h2⟩ := barsTo_inv h k (by omega)
    have hv := get_getD (l := l) (i := k) (by omega)
    have hv0 := (chk_ok h).2.2.1 _ (getD_mem (l := l) (i := k) (by omega))
    have hg := chk_grow h hv
    intro j b hb
    rw [barsTo_succ] at hb
    unfold barStep at hb
    obtain ⟨v, hve⟩ : ∃ v : Nat, l.getD k 0 = v := ⟨(l.getD k 0).toNat, by omega⟩
    rw [hve] at hb hg hv0
    rw [Int.toNat_natCast] at hb
    by_cases hn : (v : Int) = (barsTo l k).length
    · rw [if_pos hn] at hb
      have hvl : v = (barsTo l k).length := by omega
      have hno : ∀ i, i < k → l.getD i 0 ≠ v := fun i hi e => by
        have h3 := lt_blk (a := l.take k) (v := l.getD i 0) (List.mem_of_getElem? (show (l.take k)[i]? = some (l.getD i 0) by rw [List.getElem?_take, if_pos hi]; exact get_getD (by omega)))
        omega
      rw [getLast_get (by simp; omega)] at hb
      split at hb
      · rename_i e
        obtain ⟨b', hb', rfl⟩ := Option.map_eq_some_iff.1 hb
        rw [← e, hvl, List.getElem?_append_right (Nat.le_refl _), Nat.sub_self] at hb'
        simp at hb'
        subst hb'
        refine ⟨k, k, rfl, rfl, Nat.le_refl _, by omega, by omega, by omega, fun i hi he => ?_⟩
        by_cases hik : i = k
        · omega
        · exact absurd (by rw [he]; omega) (hno i (by omega))
      · rename_i e
        have hj : j < (barsTo l k).length := by
          have := (List.getElem?_eq_some_iff.1 hb).1
          simp at this; omega
        rw [List.getElem?_append_left hj] at hb
        obtain ⟨f, t, e1, e2, e3, e4, e5, e6, e7⟩ := ih' j b hb
        refine ⟨f, t, e1, e2, e3, by omega, e5, e6, fun i hi he => ?_⟩
        by_cases hik : i = k
        · subst hik; omega
        · exact e7 i (by omega) he
    · rw [if_neg hn] at hb
      have hvl : v < (barsTo l k).length := by omega
      rw [getLast_get hvl] at hb
      split at hb
      · rename_i e
        obtain ⟨b', hb', rfl⟩ := Option.map_eq_some_iff.1 hb
        obtain ⟨f, t, e1, e2, e3, e4, e5, e6, e7⟩ := ih' j b' hb'
        refine ⟨f, k, e1, rfl, by omega, by omega, e5, by rw [hve, e], fun i hi he => ?_⟩
        by_cases hik : i = k
        · subst hik; exact ⟨by omega, Nat.le_refl _⟩
        · have := e7 i (by omega) he; omega
      · rename_i e
        obtain ⟨f, t, e1, e2, e3, e4, e5, e6, e7⟩ := ih' j b hb
        refine ⟨f, t, e1, e2, e3, by omega, e5, e6, fun i hi he => ?_⟩
        by_cases hik : i = k
        · subst hik; rw [hve] at he; omega
        · exact e7 i (by omega) he

/-- another packet is like it -/
def likeTo (l : List Int) (i k : Nat) : Bool := (List.range k).any fun j => j != i && l.getD j 0 == l.getD i 0
theorem likeTo_succ (l : List Int) (i k : Nat) : likeTo l i (k + 1) = (likeTo l i k || (k != i && l.getD k 0 == l.getD i 0)) := by
  unfold likeTo; rw [List.range_succ, List.any_append]; simp
theorem like_iff {l : List Int} (h : chk l = 0) {i : Nat} (hi : i < l.length) {b : Bar} (hb : (barsTo l l.length)[(l.getD i 0).toNat]? = some b) : likeTo l i l.length = decide (b.1 < b.2.1) := by
  have hv0 := (chk_ok h).2.2.1 _ (getD_mem hi)
  obtain ⟨v, hve⟩ : ∃ v : Nat, l.getD i 0 = v := ⟨(l.getD i 0).toNat, by omega⟩
  rw [hve, Int.toNat_natCast] at hb
  obtain ⟨f, t, e1, e2, e3, e4, e5, e6, e7⟩ := barsTo_ends h l.length (Nat.le_refl _) v b hb
  refine bool_eq_of_iff ?_
  unfold likeTo
  simp only [List.any_eq_true, List.mem_range, Bool.and_eq_true, bne_iff_ne, beq_iff_eq, decide_eq_true_eq]
  rw [e1, e2, hve]
  constructor
  · rintro ⟨j, hj, hne, he⟩
    have h1 := e7 j hj he
    have h2 := e7 i hi hve
    omega
  · intro hlt
    by_cases hfi : f = i
    · exact ⟨t, e4, by omega, e6⟩
    · exact ⟨f, by omega, hfi, e5⟩

/-! ### The signs of a row -/
theorem sgn0_ne (p : Bool) : sgn 0 p ≠ 111 ∧ sgn 0 p ≠ 10 := by cases p <;> decide
theorem sgn1_eq (p : Bool) : (sgn 1 p == 111) = p ∧ sgn 1 p ≠ 10 := by cases p <;> decide
theorem sgn2_ne (p : Bool) : sgn 2 p ≠ 111 ∧ sgn 2 p ≠ 10 := by cases p <;> decide
theorem signT_ne10 (l : List Int) (L : List Bar) (row : Int) (i : Nat) : signT l L row i ≠ 10 := by
  unfold signT
  simp only
  split
  · exact (sgn0_ne _).2
  · split
    · exact (sgn1_eq _).2
    · exact (sgn2_ne _).2
theorem signT_o {l : List Int} (h : chk l = 0) {i : Nat} (hi : i < l.length) (row : Int) : (signT l (barsTo l l.length) row i == 111) = (likeTo l i l.length && (levL l).getD (l.getD i 0).toNat 0 == row) := by
  have hv0 := (chk_ok h).2.2.1 _ (getD_mem hi)
  obtain ⟨h1, h2⟩ := barsTo_inv h l.length (Nat.le_refl _)
  rw [List.take_of_length_le (Nat.le_refl _)] at h2
  have h3 := lt_blk (getD_mem hi)
  obtain ⟨b, hb⟩ := getB (l := barsTo l l.length) rfl (show (l.getD i 0).toNat < (barsTo l l.length).length by omega)
  rw [like_iff h hi hb]
  have hlv : (levL l).getD (l.getD i 0).toNat 0 = b.2.2 := by
    refine getD_of_get ?_
    unfold levL; rw [List.getElem?_map, hb]; rfl
  rw [hlv]
  unfold signT
  simp only
  rw [getD_of_get hb]
  by_cases c1 : row < b.2.2
  · rw [if_pos c1]
    have : (b.2.2 == row) = false := by simp; omega
    rw [this, Bool.and_false]
    simpa using (sgn0_ne _).1
  · rw [if_neg c1]
    by_cases c2 : row = b.2.2
    · rw [if_pos c2, (sgn1_eq _).1, c2]; simp
    · rw [if_neg c2]
      have : (b.2.2 == row) = false := by simp; omega
      rw [this, Bool.and_false]
      simpa using (sgn2_ne _).1
theorem pgTo_none {L : List Bar} {n row i : Int} (h : ∀ (j : Nat) (b : Bar), L[j]? = some b → b.2.2 < row) (m : Nat) (hm : m ≤ L.length) : pgTo L n row i m = (false, false) := by
  induction m with
  | zero => rfl
  | succ m ih =>
    obtain ⟨b, hb⟩ := getB (l := L) rfl (show m < L.length by omega)
    rw [pgTo_succ hb, ih (by omega)]
    have := h m b hb
    unfold pgBar
    rw [if_neg (by omega)]
theorem mostOf_ge {L : List Bar} {j : Nat} {b : Bar} (hb : L[j]? = some b) : b.2.2 ≤ mostOf L := by
  have key : ∀ k, k ≤ L.length → ∀ j, j < k → ∀ b, L[j]? = some b → b.2.2 ≤ mostOf (L.take k) := by
    intro k
    induction k with
    | zero => intro _ j hj; omega
    | succ k ih =>
      intro hk j hj b hb
      obtain ⟨c, hc⟩ := getB (l := L) rfl (show k < L.length by omega)
      rw [mostOf_take hc]
      by_cases e : j = k
      · subst e; rw [hb] at hc; injection hc with hc; rw [hc]; omega
      · have := ih (by omega) j (by omega) b hb; omega
  have := key L.length (Nat.le_refl _) j (List.getElem?_eq_some_iff.1 hb).1 b hb
  rwa [List.take_of_length_le (Nat.le_refl _)] at this
theorem signT_last {l : List Int} (h : chk l = 0) {i : Nat} (hi : i < l.length) : signT l (barsTo l l.length) (mostOf (barsTo l l.length) + 1) i = 124 := by
  have hv0 := (chk_ok h).2.2.1 _ (getD_mem hi)
  obtain ⟨h1, h2⟩ := barsTo_inv h l.length (Nat.le_refl _)
  rw [List.take_of_length_le (Nat.le_refl _)] at h2
  have h3 := lt_blk (getD_mem hi)
  obtain ⟨b, hb⟩ := getB (l := barsTo l l.length) rfl (show (l.getD i 0).toNat < (barsTo l l.length).length by omega)
  have hm := mostOf_ge hb
  unfold signT
  simp only
  rw [getD_of_get hb, if_neg (by omega), if_neg (by omega), pgTo_none (fun j c hc => by have := mostOf_ge hc; omega) _ (Nat.le_refl _)]
  decide

/-! ### The rows -/
theorem rowTo_get {l : List Int} (L : List Bar) (row : Int) (k : Nat) (hk : k ≤ l.length) (h0 : 1 ≤ k) :
    (rowTo l L row k).length = (if k < l.length then 2 * k else 2 * k - 1) ∧ (∀ i, i < k → (rowTo l L row k)[2 * i]? = some (signT l L row i)) ∧ ∀ c ∈ rowTo l L row k, c ≠ 10 := by
  induction k with
  | zero => omega
  | succ k ih =>
    have hprev : (rowTo l L row k).length = 2 * k ∧ (∀ i, i < k → (rowTo l L row k)[2 * i]? = some (signT l L row i)) ∧ ∀ c ∈ rowTo l L row k, c ≠ 10 := by
      by_cases hk0 : 1 ≤ k
      · obtain ⟨i1, i2, i3⟩ := ih (by omega) hk0
        rw [if_pos (by omega)] at i1
        exact ⟨i1, i2, i3⟩
      · obtain rfl : k = 0 := by omega
        refine ⟨rfl, fun i hi => by omega, fun c hc => by simp [rowTo] at hc⟩
    obtain ⟨i1, i2, i3⟩ := hprev
    rw [rowTo_succ]
    have hs := signT_ne10 l L row k
    have hs0 := (sgn0_ne (pgTo L (l.getD k 0) row k L.length).2).2
    unfold cellT
    by_cases hl : k + 1 < l.length
    · rw [if_pos hl, if_pos hl]
      refine ⟨by simp [i1]; omega, fun i hi => ?_, fun c hc => ?_⟩
      · by_cases e : i = k
        · subst e
          rw [List.getElem?_append_right (by omega), i1, Nat.sub_self]; rfl
        · rw [List.getElem?_append_left (by omega)]; exact i2 i (by omega)
      · rcases List.mem_append.1 hc with hc | hc
        · exact i3 c hc
        · simp at hc
          rcases hc with rfl | rfl
          · exact hs
          · exact hs0
    · rw [if_neg hl, if_neg hl]
      refine ⟨by simp [i1]; omega, fun i hi => ?_, fun c hc => ?_⟩
      · by_cases e : i = k
        · subst e
          rw [List.getElem?_append_right (by omega), i1, Nat.sub_self]; rfl
        · rw [List.getElem?_append_left (by omega)]; exact i2 i (by omega)
      · rcases List.mem_append.1 hc with hc | hc
        · exact i3 c hc
        · simp at hc
          subst hc
          exact hs

/-- the rows of a text, and what has come since the last line feed -/
def rowStep (s : List (List UInt8) × List UInt8) (c : UInt8) : List (List UInt8) × List UInt8 := if c = 10 then (s.1 ++ [s.2], []) else (s.1, s.2 ++ [c])
def rowsF (t : List UInt8) : List (List UInt8) × List UInt8 := t.foldl rowStep ([], [])
theorem rowsF_run (r : List UInt8) (h : ∀ c ∈ r, c ≠ 10) (s : List (List UInt8) × List UInt8) : r.foldl rowStep s = (s.1, s.2 ++ r) := by
  induction r generalizing s with
  | nil => simp
  | cons a r ih =>
    have ha := h a (by simp)
    rw [List.foldl_cons, ih (fun c hc => h c (by simp [hc]))]
    unfold rowStep
    rw [if_neg ha]
    simp
theorem rowsF_text {l : List Int} (L : List Bar) (h0 : 1 ≤ l.length) (k : Nat) : rowsF (textTo l L k) = ((List.range k).map (fun (r : Nat) => rowTo l L ((r : Int) + 1) l.length), []) := by
  induction k with
  | zero => rfl
  | succ k ih =>
    have hr := (rowTo_get L ((k : Int) + 1) l.length (Nat.le_refl _) h0).2.2
    have e : rowsF (textTo l L (k + 1)) = (rowTo l L ((k : Int) + 1) l.length ++ [10]).foldl rowStep (rowsF (textTo l L k)) := by
      rw [textTo_succ]; unfold rowsF; rw [List.foldl_append]
    rw [e, ih, List.foldl_append, rowsF_run _ hr, List.range_succ, List.map_append]
    rfl
end Go.Proofs.YtooepkpgffpcjaaDoor

namespace Go.Proofs.YtooepkpgffpcjaaDoor
open Go.RowKit

def strs (L : List (List UInt8)) : List Value := L.map fun r => .string ⟨r.toArray⟩
theorem strs_length (L : List (List UInt8)) : (strs L).length = L.length := by simp [strs]
theorem strs_append (L M : List (List UInt8)) : strs (L ++ M) = strs L ++ strs M := by simp [strs]
theorem strs_one (L : List (List UInt8)) : ∀ u ∈ strs L, u.oneCell' = true := by
  intro u hu; simp only [strs, List.mem_map] at hu; obtain ⟨x, _, rfl⟩ := hu; rfl
theorem strs_get {L : List (List UInt8)} {j : Nat} {r : List UInt8} (h : L[j]? = some r) : (strs L)[j]? = some (.string ⟨r.toArray⟩) := by
  unfold strs; rw [List.getElem?_map, h]; rfl
theorem strInfo : (Tryd.prog.info? 9).map (fun i => (i.zero, i.size, i.bytes)) = some (some (.string ⟨#[]⟩), 1, 16) := by kernel_rfl

/-- 'append(s, x)' of a string, that was laid in a new block first. -/
theorem wpList_appS1 (w : World) {ops : Array Oper} {rest : List Oper} {o : Oper} {a : Act} {Q : Exit → Act → World → Prop} (hgd : o.guard = none) (s x : Operand)
    (ho : o.op = .call { callee := .builtin .append, args := #[s, x], argTypes := #[39, 39] })
    {base n c : Nat} {A : Option Addr} {L : List (List UInt8)} {r : List UInt8} (t : TypeId) (hs : a.eval s = .slice A n c) (hx : a.eval x = .slice (some ⟨w.heap.size, 0, none⟩) 1 1) (hown : Own w base 9 1 A n c (strs L)) (hnm : n + 1 ≤ 1000000) (hbase : base ≤ w.heap.size)
    (h : ∀ A' c' w', Own w' base 9 1 A' (n + 1) c' (strs (L ++ [r])) → Below base w w' → wpList Tryd.prog ops Q rest (a.put o.dst (.slice A' (n + 1) c')) w') :
    wpList Tryd.prog ops Q (o :: rest) a (w.alloc (.cells #[.string ⟨r.toArray⟩] t)) := by
  obtain ⟨i0, hi0, hz0, hz1, hz2⟩ := info_parts strInfo
  refine wpList_app _ hgd s x 39 ho base 9 i0 _ 16 Tryd.underlying39 hi0 hz0 hz1 hz2 rfl (by decide) A n c (strs L) hs (hown.alloc _) _ 1 1 (strs [r]) hx (Rd.one w t _) (strs_one _) (by omega) (by simp; omega) ?_
  intro A' c' w' h1 h2 h3
  have hg : w.grownBy w' (A.map (·.block)) := grown_trans (World.grownBy_alloc w _ _) h2
  exact h A' c' w' (by rw [strs_append]; exact h1) (below_app hown hg hbase)

theorem extract_list (s : ByteArray) (a b : Nat) : s.extract a b = ⟨((s.data.toList.take b).drop a).toArray⟩ := by
  apply ByteArray.ext
  apply Array.toList_inj.1
  simp [List.drop_take]
/-- what is known behind k bytes -/
structure RowsOk (t : List UInt8) (k : Nat) (L : List (List UInt8)) (cur : List UInt8) : Prop where
  eq : rowsF (t.take k) = (L, cur)
  len : cur.length ≤ k
  cur_ : cur = (t.take k).drop (k - cur.length)
  few : L.length ≤ k
theorem RowsOk.start (t : List UInt8) : RowsOk t 0 [] [] := ⟨rfl, Nat.le_refl _, by simp, Nat.le_refl _⟩
theorem rowsF_snoc (t : List UInt8) (c : UInt8) : rowsF (t ++ [c]) = rowStep (rowsF t) c := by unfold rowsF; rw [List.foldl_append]; rfl
theorem RowsOk.feed {t : List UInt8} {k : Nat} {L : List (List UInt8)} {cur : List UInt8} (h : RowsOk t k L cur) (hk : t[k]? = some 10) : RowsOk t (k + 1) (L ++ [cur]) [] := by
  refine ⟨?_, by simp, ?_, by simp; exact h.few⟩
  · rw [take_of_get hk, rowsF_snoc, h.eq]; rfl
  · simp
theorem RowsOk.byte {t : List UInt8} {k : Nat} {L : List (List UInt8)} {cur : List UInt8} {c : UInt8} (h : RowsOk t k L cur) (hk : t[k]? = some c) (hc : c ≠ 10) : RowsOk t (k + 1) L (cur ++ [c]) := by
  have hl := h.len
  have hkt := (List.getElem?_eq_some_iff.1 hk).1
  refine ⟨?_, by simp; omega, ?_, by have := h.few; omega⟩
  · rw [take_of_get hk, rowsF_snoc, h.eq]; unfold rowStep; rw [if_neg hc]
  · have e := h.cur_
    rw [take_of_get hk, List.length_append, List.length_singleton, show k + 1 - (cur.length + 1) = k - cur.length by omega, List.drop_append_of_le_length (by rw [List.length_take]; omega)]
    rw [← e]

/-- the rows of a text, the callee's own -/
def Rowed (L : List (List UInt8)) (w : World) (e : Ending) (w' : World) : Prop :=
  ∃ A c, e = .returned (.slice A L.length c) ∧ Own w' w.heap.size 9 1 A L.length c (strs L) ∧ Below w.heap.size w w'
set_option maxHeartbeats 1000000 in
theorem rows_any (s : ByteArray) (w : World) (hs : s.size ≤ 100000) : Calls Tryd.prog 28 #[.string s] w (Rowed (rowsF s.data.toList).1 w) := by
  have hu : Tryd.prog.underlying 9 = some .string := Tryd.underlying9
  go_enter Tryd.func28, Tryd.ntmps28
  go_wp2_with fail
  go_loopw [3, 4, 5] (fun o f i wr => ∃ (k : Nat) (L : List (List UInt8)) (cur : List UInt8), k ≤ s.size ∧ RowsOk s.data.toList k L cur ∧ i = .int .i64 k ∧ f = .int .i64 ((k - cur.length : Nat) : Int) ∧ ∃ Ao co, o = .slice Ao L.length co ∧ Own wr w.heap.size 9 1 Ao L.length co (strs L) ∧ Below w.heap.size w wr) (fun _ _ i _ => s.size - (intOf i).toNat)
  case atStart => exact ⟨0, [], [], by omega, RowsOk.start _, rfl, rfl, none, 0, rfl, Own.nil_ _ _ _ _, Below.refl _ _⟩
  case round =>
    obtain ⟨k, L, cur, hk, hok, rfl, rfl, Ao, co, rfl, hown, hbel⟩ := hrel
    have HO := Lib.hid hown
    have HB := Lib.hid hbel
    have HK := Lib.hid hok
    have hsz := hbel.size
    have hfew := hok.few
    clear hown hbel hok
    by_cases hlt : k < s.size
    · have hget : s.data.toList[k]? = some s[k] := List.getElem?_eq_getElem (by simpa using hlt)
      have HG := Lib.hid hget
      clear hget
      obtain ⟨m, hm⟩ : ∃ m, L.length = m := ⟨_, rfl⟩
      rw [hm] at HO hfew ⊢
      have HM := Lib.hid hm
      clear hm
      by_cases hc : s[k] = 10
      · have g : ((s[k].toNat : Int) == 10) = true := by rw [hc]; rfl
        have HF : Hid (RowsOk s.data.toList (k + 1) (L ++ [cur]) []) := Lib.hid (HK.out.feed (by rw [HG.out, hc]))
        obtain ⟨f, hf⟩ : ∃ f, f = k - cur.length := ⟨_, rfl⟩
        have hfk : f ≤ k := by omega
        have HX : Hid (s.extract f k = ⟨cur.toArray⟩) := Lib.hid (by rw [extract_list, hf, ← HK.out.cur_])
        have q : ∀ wx : World, (Instr.slice 9 (.string s) (some (.int .i64 (f : Int))) (some (.int .i64 (k : Int))) none).run Tryd.prog wx = .ok (.string ⟨cur.toArray⟩) wx := fun wx => by
          have := run_slice_string (P := Tryd.prog) wx 9 s .i64 .i64 (f : Int) (k : Int) hu (by omega) (by omega) (by omega)
          rw [this, Int.toNat_natCast, Int.toNat_natCast, HX.out]
        rw [← hf]
        have hm1 : m + 1 ≤ 1000000 := by omega
        clear hf hc
        go_wp2_with (at_builtin; go_must (refine wpList_appS1 _ rfl (.tmp 16) (.tmp 21) rfl (r := cur) _ rfl rfl HO.out hm1 hsz ?_); intro A' c' w' ko kb; have KO := Lib.hid ko; have KB := Lib.hid kb; clear ko kb)
        go_roundw
        case rel => exact ⟨k + 1, L ++ [cur], [], by omega, HF.out, by go_num, by simp, A', c', by rw [List.length_append, HM.out]; rfl, by rw [List.length_append, HM.out]; exact KO.out, HB.out.trans KB.out⟩
        case measure => simp [intOf]; omega
      · have g : ((s[k].toNat : Int) == 10) = false := by
          rw [beq_eq_false_iff_ne]
          intro e
          exact hc (UInt8.toNat_inj.1 (by have : s[k].toNat = 10 := by omega
                                          rw [this]; rfl))
        have HF : Hid (RowsOk s.data.toList (k + 1) L (cur ++ [s[k]])) := Lib.hid (HK.out.byte HG.out hc)
        have HE : Hid ((k + 1 - (cur ++ [s[k]]).length : Nat) = k - cur.length) := Lib.hid (by have := HK.out.len; simp)
        clear hc
        go_wp2
        go_roundw
        case rel => exact ⟨k + 1, L, cur ++ [s[k]], by omega, HF.out, by go_num, by rw [HE.out], Ao, co, by rw [HM.out], by rw [HM.out]; exact HO.out, HB.out⟩
        case measure => simp [intOf]; omega
    · have HE : Hid ((rowsF s.data.toList).1 = L) := Lib.hid (by have := HK.out.eq; rw [List.take_of_length_le (by simp; omega)] at this; rw [this])
      go_wp2
      go_ret
      exact ⟨Ao, co, by rw [HE.out]; rfl, by rw [HE.out]; exact HO.out, HB.out⟩
end Go.Proofs.YtooepkpgffpcjaaDoor

namespace Go.Proofs.YtooepkpgffpcjaaDoor
open Go.RowKit

/-! ### The level of a block is greater than those of the blocks that go on beside it -/
theorem levs_ge (rest : List Int) (L : List Bar) (m : Nat) : ∀ j, j < m → hasI rest j = true → (L.getD j (0, 0, 0)).2.2 + 1 ≤ (List.range m).foldl (levStep rest L) 1 := by
  induction m with
  | zero => intro j hj; omega
  | succ m ih =>
    intro j hj hh
    rw [foldl_range_succ]
    by_cases e : j = m
    · subst e; unfold levStep; rw [if_pos hh]; omega
    · have := ih j (by omega) hh
      unfold levStep at this ⊢
      split <;> omega
theorem setLast_same {M : List Bar} {v k t : Nat} {b : Bar} (hv : v < M.length) (h : (setLast M v k)[t]? = some b) : ∃ b0, M[t]? = some b0 ∧ b0.1 = b.1 ∧ b0.2.2 = b.2.2 := by
  rw [getLast_get hv] at h
  split at h
  · obtain ⟨b0, h0, rfl⟩ := Option.map_eq_some_iff.1 h
    exact ⟨b0, h0, rfl, rfl⟩
  · exact ⟨b, h, rfl, rfl⟩
theorem barsTo_lev {l : List Int} (h : chk l = 0) (k : Nat) (hk : k ≤ l.length) : ∀ (j j' : Nat) b b', (barsTo l k)[j]? = some b → (barsTo l k)[j']? = some b' → j < j' → hasI (l.drop b'.1.toNat) j = true → b.2.2 + 1 ≤ b'.2.2 := by
  induction k with
  | zero => intro j j' b b' hb; simp [barsTo] at hb
  | succ k ih =>
    have ih' := ih (by omega)
    obtain ⟨h1, h2⟩ := barsTo_inv h k (by omega)
    have hv := get_getD (l := l) (i := k) (by omega)
    have hv0 := (chk_ok h).2.2.1 _ (getD_mem (l := l) (i := k) (by omega))
    have hg := chk_grow h hv
    intro j j' b b' hb hb' hlt hh
    rw [barsTo_succ] at hb hb'
    unfold barStep at hb hb'
    obtain ⟨v, hve⟩ : ∃ v : Nat, l.getD k 0 = v := ⟨(l.getD k 0).toNat, by omega⟩
    rw [hve] at hb hb' hg hv0
    rw [Int.toNat_natCast] at hb hb'
    by_cases hn : (v : Int) = (barsTo l k).length
    · rw [if_pos hn] at hb hb'
      obtain ⟨c, hc, e1, e2⟩ := setLast_same (by simp; omega) hb
      obtain ⟨c', hc', e1', e2'⟩ := setLast_same (by simp; omega) hb'
      rw [← e1'] at hh
      rw [← e2, ← e2']
      have hj' : j' < (barsTo l k).length + 1 := by have := (List.getElem?_eq_some_iff.1 hc').1; simpa using this
      rw [List.getElem?_append_left (by omega)] at hc
      by_cases e : j' = (barsTo l k).length
      · rw [e, List.getElem?_append_right (Nat.le_refl _), Nat.sub_self] at hc'
        simp at hc'
        subst hc'
        have := levs_ge (l.drop k) (barsTo l k) (barsTo l k).length j (by omega) (by simpa using hh)
        rw [getD_of_get hc] at this
        exact this
      · rw [List.getElem?_append_left (by omega)] at hc'
        exact ih' j j' c c' hc hc' hlt hh
    · rw [if_neg hn] at hb hb'
      have hvl : v < (barsTo l k).length := by omega
      obtain ⟨c, hc, e1, e2⟩ := setLast_same hvl hb
      obtain ⟨c', hc', e1', e2'⟩ := setLast_same hvl hb'
      rw [← e1'] at hh
      rw [← e2, ← e2']
      exact ih' j j' c c' hc hc' hlt hh

/-- all that is known of the bars of a partition: where block j begins and ends, and its level -/
structure BarAt (p : List Int) (j f t lv : Nat) : Prop where
  get : (barsTo p p.length)[j]? = some ((f : Int), (t : Int), (lv : Int))
  le : f ≤ t
  lt : t < p.length
  pf : p.getD f 0 = j
  pt : p.getD t 0 = j
  all : ∀ i, i < p.length → p.getD i 0 = j → f ≤ i ∧ i ≤ t
  lev : 1 ≤ lv
theorem barAt_get {p : List Int} (h : chk p = 0) {j : Nat} {b : Bar} (hb : (barsTo p p.length)[j]? = some b) : ∃ f t lv : Nat, b = ((f : Int), (t : Int), (lv : Int)) ∧ BarAt p j f t lv := by
  obtain ⟨f, t, e1, e2, e3, e4, e5, e6, e7⟩ := barsTo_ends h p.length (Nat.le_refl _) j b hb
  obtain ⟨h1, h2⟩ := barsTo_inv h p.length (Nat.le_refl _)
  have h3 := h1.bd j b hb
  obtain ⟨b1, b2, b3⟩ := b
  simp only at e1 e2 h3
  obtain ⟨lv, rfl⟩ : ∃ lv : Nat, b3 = lv := ⟨b3.toNat, by omega⟩
  subst e1 e2
  exact ⟨f, t, lv, rfl, hb, e3, e4, e5, e6, e7, by omega⟩
theorem barAt_of {p : List Int} (h : chk p = 0) {i : Nat} (hi : i < p.length) : ∃ j f t lv : Nat, p.getD i 0 = j ∧ BarAt p j f t lv := by
  have hv0 := (chk_ok h).2.2.1 _ (getD_mem hi)
  obtain ⟨h1, h2⟩ := barsTo_inv h p.length (Nat.le_refl _)
  rw [List.take_of_length_le (Nat.le_refl _)] at h2
  have h3 := lt_blk (getD_mem hi)
  obtain ⟨b, hb⟩ := getB (l := barsTo p p.length) rfl (show (p.getD i 0).toNat < (barsTo p p.length).length by omega)
  obtain ⟨f, t, lv, rfl, hB⟩ := barAt_get h hb
  exact ⟨_, f, t, lv, by omega, hB⟩
theorem BarAt.apart {p : List Int} (h : chk p = 0) {j j' f t f' t' lv : Nat} (hb : BarAt p j f t lv) (hb' : BarAt p j' f' t' lv) (hne : j ≠ j') : t < f' ∨ t' < f := by
  have key : ∀ {j j' f t f' t' : Nat}, BarAt p j f t lv → BarAt p j' f' t' lv → j < j' → t < f' := by
    intro j j' f t f' t' hb hb' hlt
    by_cases hc : t < f'
    · exact hc
    · have := barsTo_lev h p.length (Nat.le_refl _) j j' _ _ hb.get hb'.get hlt (by
        simp only [Int.toNat_natCast]
        unfold hasI
        simp only [decide_eq_true_eq]
        have h1 : (p.drop f')[t - f']? = some (j : Int) := by
          rw [List.getElem?_drop, show f' + (t - f') = t by omega, ← hb.pt]; exact get_getD hb.lt
        exact List.mem_of_getElem? h1)
      simp only at this
      omega
  rcases Nat.lt_or_gt_of_ne hne with hl | hl
  · exact .inl (key hb hb' hl)
  · exact .inr (key hb' hb hl)

/-! ### What stands behind a packet in a row -/
theorem goes_iff {L : List Bar} {n row i : Int} (m : Nat) (hm : m ≤ L.length) : (pgTo L n row i m).2 = true ↔ ∃ k b, k < m ∧ L[k]? = some b ∧ b.2.2 = row ∧ b.1 ≤ i ∧ i < b.2.1 := by
  induction m with
  | zero => simp [pgTo]
  | succ m ih =>
    obtain ⟨b, hb⟩ := getB (l := L) rfl (show m < L.length by omega)
    rw [pgTo_succ hb]
    have ih' := ih (by omega)
    unfold pgBar
    constructor
    · intro h
      by_cases e : b.2.2 = row
      · rw [if_pos e] at h
        simp only [Bool.or_eq_true, Bool.and_eq_true, decide_eq_true_eq] at h
        rcases h with h | h
        · obtain ⟨k, c, hk, r⟩ := ih'.1 h
          exact ⟨k, c, by omega, r⟩
        · exact ⟨m, b, by omega, hb, e, h.1, h.2⟩
      · rw [if_neg e] at h
        obtain ⟨k, c, hk, r⟩ := ih'.1 h
        exact ⟨k, c, by omega, r⟩
    · rintro ⟨k, c, hk, hc, e, h1, h2⟩
      by_cases ek : k = m
      · subst ek
        rw [hb] at hc
        injection hc with hc
        subst hc
        rw [if_pos e]
        simp [h1, h2]
      · have := ih'.2 ⟨k, c, by omega, hc, e, h1, h2⟩
        split <;> simp [this]
/-- a line goes on behind packet i in a row -/
def goesL (p : List Int) (row i : Nat) : Bool := (pgTo (barsTo p p.length) (p.getD i 0) (row : Int) (i : Int) (barsTo p p.length).length).2
theorem goesL_iff {p : List Int} (h : chk p = 0) {row i : Nat} : goesL p row i = true ↔ ∃ j f t, BarAt p j f t row ∧ f ≤ i ∧ i < t := by
  unfold goesL
  rw [goes_iff _ (Nat.le_refl _)]
  constructor
  · rintro ⟨k, b, hk, hb, e, h1, h2⟩
    obtain ⟨f, t, lv, rfl, hB⟩ := barAt_get h hb
    simp only at e h1 h2
    obtain rfl : lv = row := by omega
    exact ⟨k, f, t, hB, by omega, by omega⟩
  · rintro ⟨j, f, t, hB, h1, h2⟩
    exact ⟨j, _, (List.getElem?_eq_some_iff.1 hB.get).1, hB.get, rfl, by simp only; omega, by simp only; omega⟩
theorem rowTo_gap {l : List Int} (L : List Bar) (row : Int) (k : Nat) (hk : k ≤ l.length) : ∀ i, i < k → i + 1 < l.length → (rowTo l L row k)[2 * i + 1]? = some (sgn 0 (pgTo L (l.getD i 0) row i L.length).2) := by
  induction k with
  | zero => intro i hi; omega
  | succ k ih =>
    intro i hi hil
    have hlen : (rowTo l L row k).length = 2 * k := by
      by_cases hk0 : 1 ≤ k
      · have := (rowTo_get (l := l) L row k (by omega) hk0).1
        rwa [if_pos (by omega)] at this
      · obtain rfl : k = 0 := by omega
        rfl
    rw [rowTo_succ]
    by_cases e : i = k
    · subst e
      unfold cellT
      rw [if_pos hil, List.getElem?_append_right (by omega), hlen, show 2 * i + 1 - 2 * i = 1 by omega]; rfl
    · rw [List.getElem?_append_left (by omega)]
      exact ih (by omega) i (by omega) hil

/-- what a row of a chart is asked: the row of a level -/
structure ChartRow (p : List Int) (row : Nat) (S : List UInt8) : Prop where
  len : S.length = 2 * p.length - 1
  less : ∀ i j f t lv, i < p.length → p.getD i 0 = (j : Nat) → BarAt p j f t lv → row < lv → S.getD (2 * i) 0 = 32 ∨ S.getD (2 * i) 0 = 45
  own : ∀ i j f t lv, i < p.length → p.getD i 0 = (j : Nat) → BarAt p j f t lv → row = lv → S.getD (2 * i) 0 = if f < t then 111 else 124
  more : ∀ i j f t lv, i < p.length → p.getD i 0 = (j : Nat) → BarAt p j f t lv → lv < row → S.getD (2 * i) 0 = 124 ∨ S.getD (2 * i) 0 = 120
  gap : ∀ i, i + 1 < p.length → S.getD (2 * i + 1) 0 = if goesL p row i then 45 else 32
theorem getD_of_get8 {l : List UInt8} {i : Nat} {v : UInt8} (h : l[i]? = some v) : l.getD i 0 = v := by rw [List.getD_eq_getElem?_getD, h]; rfl
theorem chartRow {p : List Int} (h : chk p = 0) (row : Nat) : ChartRow p row (rowTo p (barsTo p p.length) (row : Int) p.length) := by
  obtain ⟨g1, g2, _⟩ := rowTo_get (barsTo p p.length) (row : Int) p.length (Nat.le_refl _) (chk_ok h).1
  rw [if_neg (by omega)] at g1
  have hs : ∀ i j f t lv, p.getD i 0 = (j : Nat) → BarAt p j f t lv → signT p (barsTo p p.length) row i = if row < lv then sgn 0 (pgTo (barsTo p p.length) j row i (barsTo p p.length).length).1 else if row = lv then sgn 1 (decide (f < t)) else sgn 2 (pgTo (barsTo p p.length) j row i (barsTo p p.length).length).1 := by
    intro i j f t lv hj hB
    unfold signT
    simp only
    rw [hj, Int.toNat_natCast, getD_of_get hB.get]
    simp only [Int.ofNat_lt, Int.ofNat_inj]
  refine ⟨g1, fun i j f t lv hi hj hB hl => ?_, fun i j f t lv hi hj hB hl => ?_, fun i j f t lv hi hj hB hl => ?_, fun i hi => ?_⟩
  · rw [getD_of_get8 (g2 i hi), hs i j f t lv hj hB, if_pos hl]
    cases (pgTo (barsTo p p.length) j row i (barsTo p p.length).length).1 <;> decide
  · rw [getD_of_get8 (g2 i hi), hs i j f t lv hj hB, if_neg (by omega), if_pos hl]
    by_cases e : f < t
    · rw [if_pos e, decide_eq_true e]; decide
    · rw [if_neg e, decide_eq_false e]; decide
  · rw [getD_of_get8 (g2 i hi), hs i j f t lv hj hB, if_neg (by omega), if_neg (by omega)]
    cases (pgTo (barsTo p p.length) j row i (barsTo p p.length).length).1 <;> decide
  · rw [getD_of_get8 (rowTo_gap _ _ _ (Nat.le_refl _) i (by omega) hi)]
    show sgn 0 (goesL p row i) = _
    cases goesL p row i <;> decide

/-! ### The program's labels -/
/-- where the line to a packet begins: from packet k on, to the left -/
def walkF (S : List UInt8) : Nat → Nat → Nat
  | 0, from_ => from_
  | k + 1, from_ => if S.getD (2 * k + 1) 0 = 45 then walkF S k (if S.getD (2 * k) 0 = 111 then 2 * k else from_) else from_
def fromF (S : List UInt8) (i : Nat) : Nat := if S.getD (2 * i) 0 = 111 then walkF S i (2 * i) else 2 * i
theorem fromF_chart {p : List Int} (h : chk p = 0) {i j f t lv : Nat} (hi : i < p.length) (hj : p.getD i 0 = j) (hB : BarAt p j f t lv) {S : List UInt8} (hS : ChartRow p lv S) : fromF S i = 2 * f := by
  have hin := hB.all i hi hj
  have hft := hB.lt
  unfold fromF
  rw [hS.own i j f t lv hi hj hB rfl]
  by_cases hlt : f < t
  · rw [if_pos hlt, if_pos rfl]
    have stop : ∀ x, walkF S f x = x := by
      intro x
      cases f with
      | zero => rfl
      | succ f =>
        unfold walkF
        rw [hS.gap f (by omega)]
        have hg : goesL p lv f = false := by
          cases hg : goesL p lv f with
          | false => rfl
          | true =>
            obtain ⟨j', f', t', hB', h1, h2⟩ := (goesL_iff h).1 hg
            by_cases e : j = j'
            · subst e
              have := hB'.all _ (by omega) hB.pf
              have := hB.all f' (by have := hB'.le; have := hB'.lt; omega) hB'.pf
              omega
            · rcases hB.apart h hB' e with h3 | h3 <;> omega
        rw [hg]; simp
    have down : ∀ d, f + d ≤ i → 1 ≤ d → ∀ x, walkF S (f + d) x = 2 * f := by
      intro d
      induction d with
      | zero => intro _ h1; omega
      | succ d ih =>
        intro hd _ x
        rw [show f + (d + 1) = (f + d) + 1 by omega]
        unfold walkF
        rw [hS.gap (f + d) (by omega), (goesL_iff h).2 ⟨j, f, t, hB, by omega, by omega⟩, if_pos rfl, if_pos rfl]
        by_cases hd0 : d = 0
        · subst hd0
          rw [Nat.add_zero, hS.own f j f t lv (by omega) hB.pf hB rfl, if_pos hlt, if_pos rfl, stop]
        · exact ih (by omega) (by omega) _
    by_cases e : i = f
    · subst e; exact stop _
    · have := down (i - f) (by omega) (by omega) (2 * i)
      rwa [show f + (i - f) = i by omega] at this
  · rw [if_neg hlt, if_neg (by decide)]; omega

/-- the first row with a packet's own sign -/
def rowF (RL : List (List UInt8)) (i : Nat) : Option Nat := RL.findIdx? fun S => S.getD (2 * i) 0 == 111 || S.getD (2 * i) 0 == 124
theorem findIdx?_at {α : Type} {q : α → Bool} {l : List α} {r : Nat} {x : α} (hx : l[r]? = some x) (hq : q x = true) (hb : ∀ k y, k < r → l[k]? = some y → q y = false) : l.findIdx? q = some r := by
  rw [List.findIdx?_eq_some_iff_getElem]
  obtain ⟨hr, e⟩ := List.getElem?_eq_some_iff.1 hx
  refine ⟨hr, by rw [e]; exact hq, fun k hk => ?_⟩
  have := hb k _ hk (List.getElem?_eq_getElem (by omega))
  simp [this]
/-- the rows of a chart -/
def rowsL (p : List Int) : List (List UInt8) := (List.range ((mostOf (barsTo p p.length)).toNat + 1)).map fun (r : Nat) => rowTo p (barsTo p p.length) ((r : Int) + 1) p.length
theorem rowsL_get {p : List Int} (h : chk p = 0) {r : Nat} {S : List UInt8} (hr : (rowsL p)[r]? = some S) : ChartRow p (r + 1) S := by
  unfold rowsL at hr
  rw [List.getElem?_map] at hr
  obtain ⟨k, hk, rfl⟩ := Option.map_eq_some_iff.1 hr
  have := (List.getElem?_eq_some_iff.1 hk).2
  simp at this
  subst this
  have := chartRow h (r + 1)
  rwa [Int.natCast_add] at this
theorem rowF_chart {p : List Int} (h : chk p = 0) {i j f t lv : Nat} (hi : i < p.length) (hj : p.getD i 0 = j) (hB : BarAt p j f t lv) : rowF (rowsL p) i = some (lv - 1) ∧ ∃ S, (rowsL p)[lv - 1]? = some S ∧ ChartRow p lv S := by
  have hm := mostOf_ge hB.get
  simp only at hm
  have hlen : (rowsL p).length = (mostOf (barsTo p p.length)).toNat + 1 := by unfold rowsL; simp
  have hlv := hB.lev
  obtain ⟨S, hS⟩ : ∃ S, (rowsL p)[lv - 1]? = some S := ⟨(rowsL p)[lv - 1]'(by omega), List.getElem?_eq_getElem _⟩
  have hC := rowsL_get h hS
  rw [show lv - 1 + 1 = lv by omega] at hC
  refine ⟨findIdx?_at hS ?_ ?_, S, hS, hC⟩
  · rw [hC.own i j f t lv hi hj hB rfl]
    split <;> decide
  · intro k y hk hy
    rcases (rowsL_get h hy).less i j f t lv hi hj hB (by omega) with e | e <;> rw [e] <;> decide

/-- the program's labels, of so many packets -/
def labF (RL : List (List UInt8)) (i : Nat) : Option (Int × Int) := (rowF RL i).map fun (r : Nat) => ((r : Int), (fromF (RL.getD r []) i : Int))
def labsF (RL : List (List UInt8)) : Nat → Option (List (Int × Int))
  | 0 => some []
  | n + 1 => match labsF RL n with
    | none => none
    | some l => match labF RL n with
      | none => none
      | some x => some (l ++ [x])
/-- where a packet's block begins, and its level -/
theorem labF_chart {p : List Int} (h : chk p = 0) {i j f t lv : Nat} (hi : i < p.length) (hj : p.getD i 0 = j) (hB : BarAt p j f t lv) : labF (rowsL p) i = some (((lv - 1 : Nat) : Int), ((2 * f : Nat) : Int)) := by
  obtain ⟨h1, S, h2, h3⟩ := rowF_chart h hi hj hB
  unfold labF
  rw [h1]
  simp only [Option.map_some]
  rw [show (rowsL p).getD (lv - 1) [] = S by rw [List.getD_eq_getElem?_getD, h2]; rfl, fromF_chart h hi hj hB h3]
theorem labsF_chart {p : List Int} (h : chk p = 0) : ∀ n, n ≤ p.length → ∃ L, labsF (rowsL p) n = some L ∧ L.length = n ∧ ∀ i, i < n → ∀ j f t lv, p.getD i 0 = (j : Nat) → BarAt p j f t lv → L[i]? = some (((lv - 1 : Nat) : Int), ((2 * f : Nat) : Int)) := by
  intro n
  induction n with
  | zero => intro _; exact ⟨[], rfl, rfl, fun i hi => by omega⟩
  | succ n ih =>
    intro hn
    obtain ⟨L, h1, h2, h3⟩ := ih (by omega)
    obtain ⟨j, f, t, lv, hj, hB⟩ := barAt_of h (show n < p.length by omega)
    have h4 := labF_chart h (show n < p.length by omega) hj hB
    refine ⟨L ++ [(((lv - 1 : Nat) : Int), ((2 * f : Nat) : Int))], by unfold labsF; rw [h1]; simp only; rw [h4], by simp [h2], fun i hi j' f' t' lv' hj' hB' => ?_⟩
    by_cases e : i = n
    · subst e
      obtain rfl : j = j' := by omega
      have e2 := hB.get.symm.trans hB'.get
      injection e2 with e2
      injection e2 with e3 e4
      injection e4 with e4 e5
      obtain rfl : f = f' := by omega
      obtain rfl : lv = lv' := by omega
      rw [List.getElem?_append_right (by omega), h2, Nat.sub_self]; rfl
    · rw [List.getElem?_append_left (by omega)]
      exact h3 i (by omega) j' f' t' lv' hj' hB'
/-- the labels of a chart have the partition's pattern -/
theorem labs_pat {p : List Int} (h : chk p = 0) {L : List (Int × Int)} (hL : labsF (rowsL p) p.length = some L) : ofL (L.map fun x => x.1 * 1000 + x.2) = p := by
  obtain ⟨L', h1, h2, h3⟩ := labsF_chart h p.length (Nat.le_refl _)
  rw [hL] at h1
  injection h1 with h1
  subst h1
  have hg : ∀ i, i < p.length → ∀ j f t lv, p.getD i 0 = (j : Nat) → BarAt p j f t lv → (L.map fun x => x.1 * 1000 + x.2).getD i 0 = ((lv - 1 : Nat) : Int) * 1000 + ((2 * f : Nat) : Int) := by
    intro i hi j f t lv hj hB
    refine getD_of_get ?_
    rw [List.getElem?_map, h3 i hi j f t lv hj hB]; rfl
  rw [show p = ofL p from (ofL_self h).symm, ofL_self h]
  rw [← ofL_self h]
  conv => rhs; rw [ofL_self h]
  refine (ofL_pat ⟨by simp [h2], fun i k hi hk => ?_⟩).trans (ofL_self h)
  rw [List.length_map, h2] at hi hk
  obtain ⟨j, f, t, lv, hj, hB⟩ := barAt_of h hi
  obtain ⟨j', f', t', lv', hj', hB'⟩ := barAt_of h hk
  rw [hg i hi j f t lv hj hB, hg k hk j' f' t' lv' hj' hB', hj, hj']
  have hl := (chk_ok h).2.1
  have hfl := hB.le
  have hfl' := hB'.le
  have hf := hB.lt
  have hf' := hB'.lt
  constructor
  · intro e
    obtain rfl : f = f' := by omega
    exact hB.pf.symm.trans hB'.pf
  · intro e
    obtain rfl : j = j' := by omega
    have e2 := hB.get.symm.trans hB'.get
    injection e2 with e2
    injection e2 with e3 e4
    injection e4 with e4 e5
    obtain rfl : f = f' := by omega
    obtain rfl : lv = lv' := by omega
    rfl
end Go.Proofs.YtooepkpgffpcjaaDoor

namespace Go.Proofs.YtooepkpgffpcjaaDoor
open Go.RowKit

theorem behind_bd : ∀ m, m < 9 → ∀ b : Nat, m + b < 11 → behindR m b ≤ 10000000000 := by
  intro m hm b hb
  rw [← behind_eq m hm b hb]
  exact (endL_bd _).2
theorem behind_prod_bd (m : Nat) (hm : m + 1 < 9) (b : Nat) (hb : m + 1 + b < 11) : 0 ≤ (b : Int) * behindR m b ∧ (b : Int) * behindR m b ≤ 10000000000 ∧ 1 ≤ behindR m b ∧ 1 ≤ behindR m (b + 1) ∧ behindR (m + 1) b = b * behindR m b + behindR m (b + 1) := by
  have h1 := behind_pos m b (by omega)
  have h2 := behind_pos m (b + 1) (by omega)
  have h3 := behind_bd (m + 1) hm b hb
  have h4 : behindR (m + 1) b = b * behindR m b + behindR m (b + 1) := rfl
  have h5 : 0 ≤ (b : Int) * behindR m b := Int.mul_nonneg (by omega) (by omega)
  refine ⟨h5, by omega, h1, h2, h4⟩

set_option maxHeartbeats 400000 in
theorem behind_any (n : Nat) : ∀ (b : Nat) (w : World), n < 9 → n + b < 11 → Calls Tryd.prog 96 #[.int .i64 n, .int .i64 b] w fun e w' => e = .returned (.int .i64 (behindR n b)) ∧ w = w' := by
  induction n with
  | zero =>
    intro b w _ _
    go_enter Tryd.func96, Tryd.ntmps96
    go_wp2
    go_ret
    exact ⟨rfl, rfl⟩
  | succ n ih =>
    intro b w hn hb
    have IH := Lib.hid ih
    obtain ⟨p0, p1, q1, q2, hv⟩ := behind_prod_bd n hn b hb
    have hbd := behind_bd (n + 1) hn b hb
    have hb2 := behind_bd n (by omega) (b + 1) (by omega)
    have hs0 : 0 ≤ (b : Int) * behindR n b + behindR n (b + 1) := by omega
    have hs1 : (b : Int) * behindR n b + behindR n (b + 1) ≤ 10000000000 := by omega
    have HV := Lib.hid hv
    have g1 : (((n + 1 : Nat) : Int) == 0) = false := by simp; omega
    have hb11 : b ≤ 10 := by omega
    have HN := Lib.hid (And.intro hn hb)
    have hn9 : n ≤ 8 := by omega
    clear ih hv hbd hn hb
    go_enter Tryd.func96, Tryd.ntmps96
    go_wp2_with fail
    refine (IH.out b w (by have := HN.out; omega) (by have := HN.out; omega)).mono ?_; rintro e w' ⟨rfl, rfl⟩
    go_wp2_with fail
    have ih2 := IH.out (b + 1) w (by have := HN.out; omega) (by have := HN.out; omega)
    rw [show ((b + 1 : Nat) : Int) = (b : Int) + 1 by omega] at ih2
    refine ih2.mono ?_; rintro e w' ⟨rfl, rfl⟩
    go_wp2
    go_ret
    exact ⟨ret_int HV.out.symm, rfl⟩

theorem endRead {m b : Nat} (hm : m < 9) (hb : m + b < 11) : endL[m * 11 + b]? = some (behindR m b) := by
  rw [← behind_eq m hm b hb]
  exact get_getD (by rw [okTab_len okEnd]; omega)

/-- all that a round of Unrank wants to know -/
structure URound (n : Nat) (rank : Int) (k : Nat) (p : List Int) (r : Int) (b : Nat) (e x : Int) : Prop where
  now : unr n rank k = (r, p)
  next : unr n rank (k + 1) = (r - x * e, p ++ [x])
  len : p.length = k
  r0 : 0 ≤ r
  r1 : r ≤ rank
  blk : blk p = b
  bk : b ≤ k
  small : Small p
  e0 : 1 ≤ e
  e1 : e ≤ 10000000000
  tab : endL[(n - 1 - k) * 11 + b]? = some e
  beh : behindR (n - 1 - k) b = e
  x_ : x = min (b : Int) (r / e)
  x0 : 0 ≤ x
  x1 : x ≤ b
  xe0 : 0 ≤ x * e
  xe1 : x * e ≤ r
  blk' : Go.Proofs.YtooepkpgffpcjaaDoor.blk (p ++ [x]) = max (b : Int) (x + 1)
theorem unr_round {n : Nat} {rank : Int} (h : 0 ≤ rank) (h9 : n ≤ 9) {k : Nat} (hk : k < n) : ∃ p r b e x, URound n rank k p r b e x := by
  have hu := unr_ok n h k
  have hs := unr_succ n rank k
  obtain ⟨s, hs0⟩ : ∃ s, unr n rank k = s := ⟨_, rfl⟩
  obtain ⟨r, p⟩ := s
  rw [hs0] at hu hs
  obtain ⟨i1, i2, i3, i4, i5⟩ := hu
  simp only at i1 i2 i3 i4 i5
  have hb0 : 0 ≤ blk p := le_foldl_max _ _
  have hbk : blk p ≤ k := foldl_max_lt p k 0 (fun v hv => (i4 v hv).2) (by omega)
  obtain ⟨b, hb⟩ : ∃ b : Nat, blk p = b := ⟨(blk p).toNat, by omega⟩
  obtain ⟨e, he⟩ : ∃ e, e = behindR (n - 1 - k) b := ⟨_, rfl⟩
  obtain ⟨x, hx⟩ : ∃ x, x = min (b : Int) (r / e) := ⟨_, rfl⟩
  have hp := behind_pos (n - 1 - k) b (by omega)
  have hbd := behind_bd (n - 1 - k) (by omega) b (by omega)
  rw [← he] at hp hbd
  have hd : 0 ≤ r / e := Int.ediv_nonneg i2 (by omega)
  have hm : r / e * e ≤ r := Int.ediv_mul_le r (by omega)
  have hx0 : 0 ≤ x := by omega
  have hxe : x * e ≤ r / e * e := Int.mul_le_mul_of_nonneg_right (by omega) (by omega)
  have hxe0 : 0 ≤ x * e := Int.mul_nonneg hx0 (by omega)
  refine ⟨p, r, b, e, x, ⟨hs0, ?_, i1, i2, i3, hb, by omega, fun v hv => by have := i4 v hv; omega, by omega, by omega, ?_, he.symm, hx, hx0, by omega, hxe0, by omega, ?_⟩⟩
  · rw [hs]; unfold unrStep; simp only; rw [hb, ← he, ← hx]
  · rw [he]; exact endRead (by omega) (by omega)
  · show (p ++ [x]).foldl _ _ = _
    rw [List.foldl_append]
    show max (blk p) (x + 1) = _
    rw [hb]
def lenOfV : Value → Nat
  | .slice _ n _ => n
  | _ => 0
theorem countR_bd {n : Nat} (hn : n < 10) : 0 ≤ countR n ∧ countR n ≤ 1000000 := by
  have := countTo_bd hn n
  unfold countR; omega

set_option maxHeartbeats 1000000 in
set_option maxRecDepth 100000 in
theorem refUnrank_any (n rank : Int) (w : World) : Calls Tryd.prog 46 #[.int .i64 n, .int .i64 rank] w (IntsErr (unrankE n rank) w) := by
  by_cases h1 : n < 1
  · have HV : Hid (unrankE n rank = ([], 2)) := by show unrankE n rank = _; unfold unrankE; rw [if_pos (.inl h1)]
    go_enter Tryd.func46, Tryd.ntmps46
    go_wp2
    go_ret2
    rw [HV.out]; exact IntsErr.none_ _ _
  by_cases h2 : 9 < n
  · have HV : Hid (unrankE n rank = ([], 2)) := by show unrankE n rank = _; unfold unrankE; rw [if_pos (.inr h2)]
    go_enter Tryd.func46, Tryd.ntmps46
    go_wp2
    go_ret2
    rw [HV.out]; exact IntsErr.none_ _ _
  obtain ⟨m, rfl⟩ : ∃ m : Nat, n = m := ⟨n.toNat, by omega⟩
  have hm1 : 1 ≤ m := by omega
  have hm9 : m ≤ 9 := by omega
  by_cases h3 : rank < 0
  · have HV : Hid (unrankE m rank = ([], 7)) := by show unrankE m rank = _; unfold unrankE; rw [if_neg (by omega), if_pos (.inl h3)]
    go_enter Tryd.func46, Tryd.ntmps46
    go_wp2
    go_ret2
    rw [HV.out]; exact IntsErr.none_ _ _
  have hcb := countR_bd (n := m) (by omega)
  by_cases h4 : countR m ≤ rank
  · have HV : Hid (unrankE m rank = ([], 7)) := by show unrankE m rank = _; unfold unrankE; rw [if_neg (by omega), if_pos (.inr (by rw [Int.toNat_natCast]; exact h4))]
    have HC := Lib.hid (refcount_any m hm9 w)
    generalize countR m = cm at h4 hcb HC
    go_enter Tryd.func46, Tryd.ntmps46
    go_wp2_with fail
    refine HC.out.mono ?_; rintro e w' ⟨rfl, rfl⟩
    go_wp2
    go_ret2
    rw [HV.out]; exact IntsErr.none_ _ _
  have h0 : 0 ≤ rank := by omega
  have hrk : rank ≤ 1000000 := by omega
  have HV : Hid (unrankE m rank = ((unr m rank m).2, 0)) := by show unrankE m rank = _; unfold unrankE; rw [if_neg (by omega), if_neg (by rw [Int.toNat_natCast]; omega), Int.toNat_natCast]
  have HC := Lib.hid (refcount_any m hm9 w)
  have HR : Hid (∀ k, k < m → ∃ p r b e x, URound m rank k p r b e x) := Lib.hid fun k hk => unr_round h0 hm9 hk
  have H1 := Lib.hid (unr_one m h0)
  have HLN : Hid ((unr m rank m).2.length = m) := Lib.hid (unr_ok m h0 m).len
  generalize countR m = cm at h4 hcb HC
  go_enter Tryd.func46, Tryd.ntmps46
  go_wp2_with fail
  refine HC.out.mono ?_; rintro e w' ⟨rfl, rfl⟩
  go_wp2_with fail
  go_loopw [1, 6] (fun rr o wr => ∃ k : Nat, 1 ≤ k ∧ k ≤ m ∧ rr = .int .i64 (unr m rank k).1 ∧ ∃ Ao co, o = .slice Ao k co ∧ OwnI wr w.heap.size 3 Ao k co (unr m rank k).2 ∧ Below w.heap.size w wr) (fun _ o _ => m - lenOfV o)
  case atStart =>
    refine ⟨1, by omega, hm1, by rw [H1.out], _, _, rfl, ?_, (Below.refl _ _).alloc (Nat.le_refl _) _⟩
    rw [H1.out]
    exact OwnI.lit w 3 [0] 1 (by omega) rfl w.heap.size (Nat.le_refl _) (by intro v hv; simp at hv; subst hv; exact I64.small (by omega))
  case round =>
    obtain ⟨k, hk1, hk, rfl, Ao, co, rfl, hown, hbel⟩ := hrel
    have HO := Lib.hid hown
    have HB := Lib.hid hbel
    clear hown hbel H1
    by_cases hkm : k < m
    · obtain ⟨p, r, b, e, x, hu⟩ := HR.out k hkm
      have HU := Lib.hid hu
      rw [hu.now] at HO
      simp only at HO
      rw [hu.now]
      simp only
      have hr0 := hu.r0
      have hr1 := hu.r1
      have hbk := hu.bk
      have he0 := hu.e0
      have he1 := hu.e1
      have hx0 := hu.x0
      have hx1 := hu.x1
      have hxe0 := hu.xe0
      have hxe1 := hu.xe1
      have HX := Lib.hid hu.x_
      have HBL := Lib.hid hu.blk
      have hq0 : 0 ≤ r / e := Int.ediv_nonneg hr0 (by omega)
      have hq1 : r / e ≤ r := Int.ediv_le_self _ hr0
      have hsz := HB.out.size
      have HSM := Lib.hid hu.small
      have HBE := Lib.hid hu.beh
      have hmk : (m : Int) - 1 - k = ((m - 1 - k : Nat) : Int) := by omega
      have hmk2 : m - 1 - k < 9 := by omega
      have hmk3 : m - 1 - k + b < 11 := by omega
      have hen : (e == 0) = false := by simp; omega
      clear hu
      go_wp2_with fail
      refine (refBlocks_any Ao k co p wr HO.out.rd HSM.out).mono ?_; rintro en w' ⟨rfl, rfl⟩
      rw [HBL.out]
      go_wp2_with fail
      have hbh := behind_any (m - 1 - k) b wr hmk2 hmk3
      rw [HBE.out] at hbh
      refine hbh.mono ?_; rintro en w' ⟨rfl, rfl⟩
      have hrx0 : 0 ≤ r - x * e := by omega
      have hrx1 : r - x * e ≤ 1000000 := by omega
      have hmin : min (b : Int) (r / e) = x := HX.out.symm
      have hxe2 : x * e ≤ 1000000 := by omega
      go_wp2_with (at_builtin; go_must (refine wpList_appI1 _ rfl (.tmp 48) (.tmp 50) rfl _ rfl rfl HO.out (v := x) (I64.small (by omega)) (by omega) hsz ?_); intro A' c' w' kk; have KK := Lib.hid kk; clear kk)
      go_roundw
      case rel => exact ⟨k + 1, by omega, by omega, by rw [HU.out.next], A', c', rfl, by rw [HU.out.next]; exact KK.out.own, HB.out.trans KK.out.below⟩
      case measure => simp [lenOfV]; omega
    · obtain rfl : k = m := by omega
      go_wp2
      go_ret2
      rw [HV.out]
      refine ⟨Ao, co, ?_, ?_, HB.out⟩
      · show _ = _; rw [HLN.out]; rfl
      · show OwnI _ _ _ _ (unr k rank k).2.length _ _; rw [HLN.out]; exact HO.out
set_option maxHeartbeats 1000000 in
set_option maxRecDepth 100000 in
theorem unrank_any (n rank : Int) (w : World) : Calls Tryd.prog 45 #[.int .i64 n, .int .i64 rank] w (IntsErr (unrankE n rank) w) := by
  by_cases h12 : n < 1 ∨ 9 < n
  · have HV : Hid (unrankE n rank = ([], 2)) := by show unrankE n rank = _; unfold unrankE; rw [if_pos h12]
    have HE : Hid (countE n = (0, 2)) := by show countE n = _; unfold countE; rw [if_pos h12]
    clear h12
    go_enter Tryd.func45, Tryd.ntmps45
    go_wp2_with fail
    refine (count_any n w).mono ?_; rintro e w1 ⟨rfl, hb⟩
    rw [HE.out]
    have HB := Lib.hid hb
    clear hb
    go_wp2
    go_ret2
    rw [HV.out]
    exact ⟨none, 0, rfl, OwnI.nil_ _ _ _, HB.out⟩
  obtain ⟨m, rfl⟩ : ∃ m : Nat, n = m := ⟨n.toNat, by omega⟩
  have hm1 : 1 ≤ m := by omega
  have hm9 : m ≤ 9 := by omega
  have HE : Hid (countE m = (countR m, 0)) := by show countE m = _; unfold countE; rw [if_neg h12, Int.toNat_natCast]
  have hcb := countR_bd (n := m) (by omega)
  by_cases h34 : rank < 0 ∨ countR m ≤ rank
  · have HV : Hid (unrankE m rank = ([], 7)) := by show unrankE m rank = _; unfold unrankE; rw [if_neg h12, if_pos (by rw [Int.toNat_natCast]; exact h34)]
    have hw : (decide ((0 : Int) ≤ rank) && decide (rank ≤ countR m - 1)) = false := by simp; omega
    generalize countR m = cm at hcb h34 hw HE
    clear h34 h12
    go_enter Tryd.func45, Tryd.ntmps45
    go_wp2_with fail
    refine (count_any m w).mono ?_; rintro e w1 ⟨rfl, hb⟩
    rw [HE.out]
    have HB := Lib.hid hb
    clear hb
    go_wp2_with fail
    refine (within_any rank 0 (cm - 1) w1).mono ?_; rintro e w' ⟨rfl, rfl⟩
    rw [hw]
    go_wp2
    go_ret2
    rw [HV.out]
    exact ⟨none, 0, rfl, OwnI.nil_ _ _ _, HB.out⟩
  have h0 : 0 ≤ rank := by omega
  have hrk : rank ≤ 1000000 := by omega
  have HV : Hid (unrankE m rank = ((unr m rank m).2, 0)) := by show unrankE m rank = _; unfold unrankE; rw [if_neg (by omega), if_neg (by rw [Int.toNat_natCast]; omega), Int.toNat_natCast]
  have HR : Hid (∀ k, k < m → ∃ p r b e x, URound m rank k p r b e x) := Lib.hid fun k hk => unr_round h0 hm9 hk
  have HLN : Hid ((unr m rank m).2.length = m) := Lib.hid (unr_ok m h0 m).len
  have HU0 : Hid (unr m rank 0 = (rank, [])) := Lib.hid rfl
  have hw : (decide ((0 : Int) ≤ rank) && decide (rank ≤ countR m - 1)) = true := by simp; omega
  generalize countR m = cm at hcb h34 hw HE
  clear h34 h12
  have hl110 : (ints endL).toArray.size = 110 := by simp only [List.size_toArray, ints_length]; exact okTab_len okEnd
  have hsz : (Tryd.prog.info? 90).map (·.size) = some (ints endL).toArray.size := by rw [hl110]; exact endsSize
  have hold : Tryd.zeroCells90.size = (ints endL).toArray.size := by rw [hl110, endsZero]; rfl
  have hone : (ints endL).toArray.all (·.oneCell') = true := by simp only [List.all_toArray]; exact List.all_eq_true.2 (ints_oneCell' endL)
  have HEN := Lib.hid endings_any
  obtain ⟨E, hE⟩ : ∃ E, E = endL := ⟨_, rfl⟩
  rw [← hE] at HEN hsz hold hone
  have HEE := Lib.hid hE
  clear hE hl110
  go_enter Tryd.func45, Tryd.ntmps45
  go_wp2_with fail
  refine (count_any m w).mono ?_; rintro e w1 ⟨rfl, hb⟩
  rw [HE.out]
  have HB1 := Lib.hid hb
  clear hb
  go_wp2_with fail
  refine (within_any rank 0 (cm - 1) w1).mono ?_; rintro e w' ⟨rfl, rfl⟩
  rw [hw]
  go_wp2_with fail
  refine (HEN.out w1).mono ?_
  rintro e w2 ⟨rfl, hb⟩
  have HB2 := Lib.hid (HB1.out.trans (hb.mono HB1.out.size))
  clear hb
  go_wp2_with (refine wpList_store_row rfl _ (.tmp 8) (.tmp 29) rfl w2.heap.size (ints E).toArray rfl rfl _ _ (heap_alloc_new w2 _) hsz hold hone ?_)
  rw [World.setRow_alloc_new]
  have HBK := Lib.hid (Blk.new w2 90 (ints E).toArray)
  have HBW := Lib.hid (HB2.out.trans ((Below.refl _ _).alloc HB2.out.size (.cells (ints E).toArray 90)))
  have HGL : Hid (w.heap.size ≤ w2.heap.size) := HB2.out.size
  have hgw : w2.heap.size < (w2.alloc (.cells (ints E).toArray 90)).heap.size := by simp
  have HGW := Lib.hid hgw
  clear hgw
  generalize w2.alloc (.cells (ints E).toArray 90) = W at HBK HBW HGW ⊢
  generalize w2.heap.size = g at HBK HGL HGW ⊢
  clear hsz hold hone HEN HB1 HB2
  go_loopw [1, 9, 10, 31] (fun rr o b i wr => ∃ k : Nat, k ≤ m ∧ i = .int .i64 k ∧ rr = .int .i64 (unr m rank k).1 ∧ b = .int .i64 (blk (unr m rank k).2) ∧ ∃ Ao co, o = .slice Ao k co ∧ OwnI wr W.heap.size 3 Ao k co (unr m rank k).2 ∧ Below W.heap.size W wr) (fun _ _ _ i _ => m - (intOf i).toNat)
  case atStart => exact ⟨0, by omega, rfl, by rw [HU0.out], by rw [HU0.out]; rfl, none, 0, rfl, by rw [HU0.out]; exact OwnI.nil_ _ _ _, Below.refl _ _⟩
  case round =>
    obtain ⟨k, hk, rfl, rfl, rfl, Ao, co, rfl, hown, hbel⟩ := hrel
    have HO := Lib.hid hown
    have HB := Lib.hid hbel
    clear hown hbel
    by_cases hkm : k < m
    · obtain ⟨p, r, b, e, x, hu⟩ := HR.out k hkm
      have HU := Lib.hid hu
      rw [hu.now] at HO
      simp only at HO
      rw [hu.now]
      simp only
      rw [hu.blk]
      have hr0 := hu.r0
      have hr1 := hu.r1
      have hbk := hu.bk
      have he0 := hu.e0
      have he1 := hu.e1
      have hx0 := hu.x0
      have hx1 := hu.x1
      have hxe0 := hu.xe0
      have hxe1 := hu.xe1
      have hmin : min (b : Int) (r / e) = x := hu.x_.symm
      have HBL' := Lib.hid hu.blk'
      have hq0 : 0 ≤ r / e := Int.ediv_nonneg hr0 (by omega)
      have hq1 : r / e ≤ r := Int.ediv_le_self _ hr0
      have hsz := HB.out.size
      have hmk : (m : Int) - k - 1 = ((m - 1 - k : Nat) : Int) := by omega
      have hmk2 : m - 1 - k < 10 := by omega
      have hb11 : b < 11 := by omega
      have hen : (e == 0) = false := by simp; omega
      have hxe2 : x * e ≤ 1000000 := by omega
      have hrx0 : 0 ≤ r - x * e := by omega
      have hrx1 : r - x * e ≤ 1000000 := by omega
      have hce0 : W.cell? ⟨g, (m - 1 - k) * 11 + b, none⟩ = some (.int .i64 e) := by rw [HBK.out.cell, ints_arr_get (by rw [HEE.out]; exact hu.tab)]
      have hce := (HB.out.cell (p := ⟨g, (m - 1 - k) * 11 + b, none⟩) HGW.out).trans hce0
      clear hu hce0
      go_wp2_with (at_builtin; go_must (refine wpList_appI1 _ rfl (.tmp 52) (.tmp 54) rfl _ rfl rfl HO.out (v := x) (I64.small (by omega)) (by omega) hsz ?_); intro A' c' w' kk; have KK := Lib.hid kk; clear kk)
      go_roundw
      case rel => exact ⟨k + 1, by omega, by go_num, by rw [HU.out.next], by rw [HU.out.next, HBL'.out], A', c', rfl, by rw [HU.out.next]; exact KK.out.own, HB.out.trans KK.out.below⟩
      case measure => simp [intOf]; omega
    · obtain rfl : k = m := by omega
      have HBF := Lib.hid (HBW.out.trans (HB.out.mono HBW.out.size))
      have HOF := Lib.hid (HO.out.mono HBW.out.size)
      go_wp2
      go_ret2
      rw [HV.out]
      refine ⟨Ao, co, ?_, ?_, HBF.out⟩
      · show _ = _; rw [HLN.out]; rfl
      · show OwnI _ _ _ _ (unr k rank k).2.length _ _; rw [HLN.out]; exact HOF.out
end Go.Proofs.YtooepkpgffpcjaaDoor
