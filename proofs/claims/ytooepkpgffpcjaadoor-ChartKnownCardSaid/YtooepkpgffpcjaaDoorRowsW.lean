/- Walk: the rows of a text. -/
import Derived.Test.YtooepkpgffpcjaaDoorRowsLaw
namespace Go.Proofs.YtooepkpgffpcjaaDoor
open Go.RowKit

def strs (L : List (List UInt8)) : List Value := L.map fun r => .string ⟨r.toArray⟩
theorem strs_length (L : List (List UInt8)) : (strs L).length = L.length := by simp [strs]
theorem strs_append (L M : List (List UInt8)) : strs (L ++ M) = strs L ++ strs M := by simp [strs]
theorem strs_one (L : List (List UInt8)) : ∀ u ∈ strs L, u.oneCell' = true := by
  intro u hu; simp only [strs, List.mem_map] at hu; obtain ⟨x, _, rfl⟩ := hu; rfl
theorem strs_get {L : List (List UInt8)} {j : Nat} {r : List UInt8} (h : L[j]? = some r) : (strs L)[j]? = some (.string ⟨r.toArray⟩) := by
  unfold strs; rw [List.getElem?_map, h]; rfl
theorem strInfo : (Tryd.prog.info? 9).map (fun i => (i.zero, i.size, i.bytes)) = some (some (.string ⟨#[]⟩), 1, 16) := by kernel_rfl

/-- 'append(s, x)' of a string, that was laid in a new block first. -/
theorem wpList_appS1 (w : World) {ops : Array Oper} {rest : List Oper} {o : Oper} {a : Act} {Q : Exit → Act → World → Prop} (hgd : o.guard = none) (s x : Operand)
    (ho : o.op = .call { callee := .builtin .append, args := #[s, x], argTypes := #[39, 39] })
    {base n c : Nat} {A : Option Addr} {L : List (List UInt8)} {r : List UInt8} (t : TypeId) (hs : a.eval s = .slice A n c) (hx : a.eval x = .slice (some ⟨w.heap.size, 0, none⟩) 1 1) (hown : Own w base 9 1 A n c (strs L)) (hnm : n + 1 ≤ 1000000) (hbase : base ≤ w.heap.size)
    (h : ∀ A' c' w', Own w' base 9 1 A' (n + 1) c' (strs (L ++ [r])) → Below base w w' → wpList Tryd.prog ops Q rest (a.put o.dst (.slice A' (n + 1) c')) w') :
    wpList Tryd.prog ops Q (o :: rest) a (w.alloc (.cells #[.string ⟨r.toArray⟩] t)) := by
  obtain ⟨i0, hi0, hz0, hz1, hz2⟩ := info_parts strInfo
  refine wpList_app _ hgd s x 39 ho base 9 i0 _ 16 Tryd.underlying39 hi0 hz0 hz1 hz2 rfl (by decide) A n c (strs L) hs (hown.alloc _) _ 1 1 (strs [r]) hx (Rd.one w t _) (strs_one _) (by omega) (by simp; omega) ?_
  intro A' c' w' h1 h2 h3
  have hg : w.grownBy w' (A.map (·.block)) := grown_trans (World.grownBy_alloc w _ _) h2
  exact h A' c' w' (by rw [strs_append]; exact h1) (below_app hown hg hbase)

theorem extract_list (s : ByteArray) (a b : Nat) : s.extract a b = ⟨((s.data.toList.take b).drop a).toArray⟩ := by
  apply ByteArray.ext
  apply Array.toList_inj.1
  simp [List.drop_take]
/-- what is known behind k bytes -/
structure RowsOk (t : List UInt8) (k : Nat) (L : List (List UInt8)) (cur : List UInt8) : Prop where
  eq : rowsF (t.take k) = (L, cur)
  len : cur.length ≤ k
  cur_ : cur = (t.take k).drop (k - cur.length)
  few : L.length ≤ k
theorem RowsOk.start (t : List UInt8) : RowsOk t 0 [] [] := ⟨rfl, Nat.le_refl _, by simp, Nat.le_refl _⟩
theorem rowsF_snoc (t : List UInt8) (c : UInt8) : rowsF (t ++ [c]) = rowStep (rowsF t) c := by unfold rowsF; rw [List.foldl_append]; rfl
theorem RowsOk.feed {t : List UInt8} {k : Nat} {L : List (List UInt8)} {cur : List UInt8} (h : RowsOk t k L cur) (hk : t[k]? = some 10) : RowsOk t (k + 1) (L ++ [cur]) [] := by
  refine ⟨?_, by simp, ?_, by simp; exact h.few⟩
  · rw [take_of_get hk, rowsF_snoc, h.eq]; rfl
  · simp
theorem RowsOk.byte {t : List UInt8} {k : Nat} {L : List (List UInt8)} {cur : List UInt8} {c : UInt8} (h : RowsOk t k L cur) (hk : t[k]? = some c) (hc : c ≠ 10) : RowsOk t (k + 1) L (cur ++ [c]) := by
  have hl := h.len
  have hkt := (List.getElem?_eq_some_iff.1 hk).1
  refine ⟨?_, by simp; omega, ?_, by have := h.few; omega⟩
  · rw [take_of_get hk, rowsF_snoc, h.eq]; unfold rowStep; rw [if_neg hc]
  · have e := h.cur_
    rw [take_of_get hk, List.length_append, List.length_singleton, show k + 1 - (cur.length + 1) = k - cur.length by omega, List.drop_append_of_le_length (by rw [List.length_take]; omega)]
    rw [← e]

/-- the rows of a text, the callee's own -/
def Rowed (L : List (List UInt8)) (w : World) (e : Ending) (w' : World) : Prop :=
  ∃ A c, e = .returned (.slice A L.length c) ∧ Own w' w.heap.size 9 1 A L.length c (strs L) ∧ Below w.heap.size w w'
set_option maxHeartbeats 1000000 in
theorem rows_any (s : ByteArray) (w : World) (hs : s.size ≤ 100000) : Calls Tryd.prog 28 #[.string s] w (Rowed (rowsF s.data.toList).1 w) := by
  have hu : Tryd.prog.underlying 9 = some .string := Tryd.underlying9
  go_enter Tryd.func28, Tryd.ntmps28
  go_wp2_with fail
  go_loopw [3, 4, 5] (fun o f i wr => ∃ (k : Nat) (L : List (List UInt8)) (cur : List UInt8), k ≤ s.size ∧ RowsOk s.data.toList k L cur ∧ i = .int .i64 k ∧ f = .int .i64 ((k - cur.length : Nat) : Int) ∧ ∃ Ao co, o = .slice Ao L.length co ∧ Own wr w.heap.size 9 1 Ao L.length co (strs L) ∧ Below w.heap.size w wr) (fun _ _ i _ => s.size - (intOf i).toNat)
  case atStart => exact ⟨0, [], [], by omega, RowsOk.start _, rfl, rfl, none, 0, rfl, Own.nil_ _ _ _ _, Below.refl _ _⟩
  case round =>
    obtain ⟨k, L, cur, hk, hok, rfl, rfl, Ao, co, rfl, hown, hbel⟩ := hrel
    have HO := Lib.hid hown
    have HB := Lib.hid hbel
    have HK := Lib.hid hok
    have hsz := hbel.size
    have hfew := hok.few
    clear hown hbel hok
    by_cases hlt : k < s.size
    · have hget : s.data.toList[k]? = some s[k] := List.getElem?_eq_getElem (by simpa using hlt)
      have HG := Lib.hid hget
      clear hget
      obtain ⟨m, hm⟩ : ∃ m, L.length = m := ⟨_, rfl⟩
      rw [hm] at HO hfew ⊢
      have HM := Lib.hid hm
      clear hm
      by_cases hc : s[k] = 10
      · have g : ((s[k].toNat : Int) == 10) = true := by rw [hc]; rfl
        have HF : Hid (RowsOk s.data.toList (k + 1) (L ++ [cur]) []) := Lib.hid (HK.out.feed (by rw [HG.out, hc]))
        obtain ⟨f, hf⟩ : ∃ f, f = k - cur.length := ⟨_, rfl⟩
        have hfk : f ≤ k := by omega
        have HX : Hid (s.extract f k = ⟨cur.toArray⟩) := Lib.hid (by rw [extract_list, hf, ← HK.out.cur_])
        have q : ∀ wx : World, (Instr.slice 9 (.string s) (some (.int .i64 (f : Int))) (some (.int .i64 (k : Int))) none).run Tryd.prog wx = .ok (.string ⟨cur.toArray⟩) wx := fun wx => by
          have := run_slice_string (P := Tryd.prog) wx 9 s .i64 .i64 (f : Int) (k : Int) hu (by omega) (by omega) (by omega)
          rw [this, Int.toNat_natCast, Int.toNat_natCast, HX.out]
        rw [← hf]
        have hm1 : m + 1 ≤ 1000000 := by omega
        clear hf hc
        go_wp2_with (at_builtin; go_must (refine wpList_appS1 _ rfl (.tmp 16) (.tmp 21) rfl (r := cur) _ rfl rfl HO.out hm1 hsz ?_); intro A' c' w' ko kb; have KO := Lib.hid ko; have KB := Lib.hid kb; clear ko kb)
        go_roundw
        case rel => exact ⟨k + 1, L ++ [cur], [], by omega, HF.out, by go_num, by simp, A', c', by rw [List.length_append, HM.out]; rfl, by rw [List.length_append, HM.out]; exact KO.out, HB.out.trans KB.out⟩
        case measure => simp [intOf]; omega
      · have g : ((s[k].toNat : Int) == 10) = false := by
          rw [beq_eq_false_iff_ne]
          intro e
          exact hc (UInt8.toNat_inj.1 (by have : s[k].toNat = 10 := by omega
                                          rw [this]; rfl))
        have HF : Hid (RowsOk s.data.toList (k + 1) L (cur ++ [s[k]])) := Lib.hid (HK.out.byte HG.out hc)
        have HE : Hid ((k + 1 - (cur ++ [s[k]]).length : Nat) = k - cur.length) := Lib.hid (by have := HK.out.len; simp)
        clear hc
        go_wp2
        go_roundw
        case rel => exact ⟨k + 1, L, cur ++ [s[k]], by omega, HF.out, by go_num, by rw [HE.out], Ao, co, by rw [HM.out], by rw [HM.out]; exact HO.out, HB.out⟩
        case measure => simp [intOf]; omega
    · have HE : Hid ((rowsF s.data.toList).1 = L) := Lib.hid (by have := HK.out.eq; rw [List.take_of_length_le (by simp; omega)] at this; rw [this])
      go_wp2
      go_ret
      exact ⟨Ao, co, by rw [HE.out]; rfl, by rw [HE.out]; exact HO.out, HB.out⟩
end Go.Proofs.YtooepkpgffpcjaaDoor
