/- Walks: copies and comparisons of lists of numbers (slices.Clone, Ints, Eq). -/
import Derived.Test.YtooepkpgffpcjaaDoorProg
import Derived.Test.YtooepkpgffpcjaaDoorChk
namespace Go.Proofs.YtooepkpgffpcjaaDoor
open Go.RowKit

theorem intInfo : (Tryd.prog.info? 3).map (fun i => (i.zero, i.size, i.bytes)) = some (some (.int .i64 0), 1, 8) := by kernel_rfl

/-- What is known behind an append of numbers. -/
structure Apped (w w' : World) (base : Nat) (A A' : Option Addr) (n c' : Nat) (l : List Int) : Prop where
  own : OwnI w' base 3 A' n c' l
  grown : w.grownBy w' (A.map (·.block))
  at_ : ∀ k, A'.map (·.block) = some k → A.map (·.block) = some k ∨ w.heap.size ≤ k
  below : Below base w w'

/-- 'append(s, x...)', both of numbers. -/
theorem wpList_appI (w : World) {ops : Array Oper} {rest : List Oper} {o : Oper} {a : Act} {Q : Exit → Act → World → Prop} (hgd : o.guard = none) (s x : Operand)
    (ho : o.op = .call { callee := .builtin .append, args := #[s, x], argTypes := #[22, 22] })
    {base n c m d : Nat} {A B : Option Addr} {l r : List Int} (hs : a.eval s = .slice A n c) (hx : a.eval x = .slice B m d) (hown : OwnI w base 3 A n c l) (hr : RdI w B m r) (hnm : n + m ≤ 1000000) (hbase : base ≤ w.heap.size)
    (h : ∀ A' c' w', Apped w w' base A A' (n + m) c' (l ++ r) → wpList Tryd.prog ops Q rest (a.put o.dst (.slice A' (n + m) c')) w') : wpList Tryd.prog ops Q (o :: rest) a w := by
  obtain ⟨i0, hi0, hz0, hz1, hz2⟩ := info_parts intInfo
  refine wpList_app w hgd s x 22 ho base 3 i0 _ 8 Tryd.underlying22 hi0 hz0 hz1 hz2 rfl (by decide) A n c (ints l) hs hown.1 B m d (ints r) hx hr.1 (ints_oneCell' r) hnm hbase ?_
  intro A' c' w' h1 h2 h3
  refine h A' c' w' ⟨⟨by rw [ints_append]; exact h1, ?_⟩, h2, (fun k hk => by rcases h3 with e | e <;> rw [e] at hk; exact .inl hk; simp at hk; exact .inr (by omega)), below_app hown.1 h2 hbase⟩
  intro v hv
  rcases List.mem_append.1 hv with hv | hv
  · exact hown.2 v hv
  · exact hr.2 v hv

/-- 'append(s, x)': the number x was laid in a new block first. -/
theorem wpList_appI1 (w : World) {ops : Array Oper} {rest : List Oper} {o : Oper} {a : Act} {Q : Exit → Act → World → Prop} (hgd : o.guard = none) (s x : Operand)
    (ho : o.op = .call { callee := .builtin .append, args := #[s, x], argTypes := #[22, 22] })
    {base n c : Nat} {A : Option Addr} {l : List Int} {v : Int} (t : TypeId) (hs : a.eval s = .slice A n c) (hx : a.eval x = .slice (some ⟨w.heap.size, 0, none⟩) 1 1) (hown : OwnI w base 3 A n c l) (hv : I64 v) (hnm : n + 1 ≤ 1000000) (hbase : base ≤ w.heap.size)
    (h : ∀ A' c' w', Apped w w' base A A' (n + 1) c' (l ++ [v]) → wpList Tryd.prog ops Q rest (a.put o.dst (.slice A' (n + 1) c')) w') : wpList Tryd.prog ops Q (o :: rest) a (w.alloc (.cells #[.int .i64 v] t)) := by
  refine wpList_appI _ hgd s x ho hs hx (hown.alloc _) (RdI.one w t v hv) hnm (by simp; omega) ?_
  intro A' c' w' k
  have hg : w.grownBy w' (A.map (·.block)) := grown_trans (World.grownBy_alloc w _ _) k.grown
  exact h A' c' w' ⟨k.own, hg, (fun j hj => by rcases k.at_ j hj with e | e; exact .inl e; simp at e; exact .inr (by omega)), below_app hown.1 hg hbase⟩

/-- A copy of numbers: a row of the callee's own. -/
def Copied (l : List Int) (w : World) (e : Ending) (w' : World) : Prop :=
  ∃ A c, e = .returned (.slice A l.length c) ∧ OwnI w' w.heap.size 3 A l.length c l ∧ Below w.heap.size w w'

set_option maxHeartbeats 400000 in
theorem ints_any (A : Option Addr) (n c : Nat) (l : List Int) (w : World) (h : RdI w A n l) (hn : n ≤ 1000) :
    Calls Tryd.prog 34 #[.slice A n c] w (Copied l w) := by
  obtain rfl := h.len
  go_enter Tryd.func34, Tryd.ntmps34
  go_wp2_with (at_builtin; go_must (refine wpList_appI _ rfl (.tmp 3) (.tmp 4) rfl rfl rfl (OwnI.lit w 3 [] 0 (by omega) rfl w.heap.size (Nat.le_refl _) (by simp)) (h.alloc _) (by omega) (by simp) ?_); intro A' c' w' k)
  go_ret
  exact ⟨A', c', rfl, by simpa using k.own, ((Below.refl _ _).alloc (Nat.le_refl _) _).trans k.below⟩

set_option maxHeartbeats 400000 in
theorem clone_any (A : Option Addr) (n c : Nat) (l : List Int) (w : World) (h : RdI w A n l) (hn : n ≤ 1000) (hA : A.isNone = false) :
    Calls Tryd.prog 82 #[.slice A n c] w (Copied l w) := by
  obtain rfl := h.len
  have q : ∀ (w : World) (a : Option Addr) (n c n' c' : Nat), (binOp .eql 22 (.slice a n c) (.slice none n' c')).run Tryd.prog w = .ok (.bool a.isNone) w := fun w a n c n' c' => Lib.run_eql_slice_nil w _ _ a n c n' c' Tryd.underlying22
  go_enter Tryd.func82, Tryd.ntmps82
  go_wp2_with (at_builtin; go_must (refine wpList_appI _ rfl (.tmp 5) (.tmp 6) rfl rfl rfl (OwnI.lit w 3 [] 0 (by omega) rfl w.heap.size (Nat.le_refl _) (by simp)) (h.alloc _) (by omega) (by simp) ?_); intro A' c' w' k)
  go_ret
  exact ⟨A', c', rfl, by simpa using k.own, ((Below.refl _ _).alloc (Nat.le_refl _) _).trans k.below⟩

theorem eq_of_takes {l r : List Int} {n k : Nat} (h1 : l.length = n) (h2 : r.length = n) (hk : ¬ k < n) (h : l.take k = r.take k) : true = (l == r) := by
  rw [List.take_of_length_le (by omega), List.take_of_length_le (by omega)] at h
  subst h; simp
theorem ne_of_get {l r : List Int} {k : Nat} {v u : Int} (h1 : l[k]? = some v) (h2 : r[k]? = some u) (h : (v == u) = false) : false = (l == r) := by
  symm; rw [beq_eq_false_iff_ne]; rintro rfl
  rw [h1] at h2; injection h2 with h2; subst h2; simp at h
theorem ne_of_len {l r : List Int} (h : l.length ≠ r.length) : false = (l == r) := by
  symm; rw [beq_eq_false_iff_ne]; rintro rfl; exact h rfl
theorem take_snoc2 {l r : List Int} {k : Nat} {v : Int} (h1 : l[k]? = some v) (h2 : r[k]? = some v) (h : l.take k = r.take k) : l.take (k + 1) = r.take (k + 1) := by
  rw [take_of_get h1, take_of_get h2, h]

set_option maxHeartbeats 400000 in
theorem eq_any (A B : Option Addr) (n m c d : Nat) (l r : List Int) (w : World) (h1 : RdI w A n l) (h2 : RdI w B m r) :
    Calls Tryd.prog 32 #[.slice A n c, .slice B m d] w fun e w' => e = .returned (.bool (l == r)) ∧ ∃ k, w' = w.drewN k := by
  have hn := h1.bd
  have hm := h2.bd
  have hl1 := h1.len
  have hl2 := h2.len
  by_cases hnm : n = m
  · subst hnm
    have HL1 := Lib.hid hl1
    have HL2 := Lib.hid hl2
    clear hl1 hl2
    go_enter Tryd.func32, Tryd.ntmps32
    go_wp2
    go_loopw [5] (fun i wr => ∃ k : Nat, k ≤ n ∧ i = .int .i64 k ∧ l.take k = r.take k ∧ ∃ j, wr = w.drewN j) (fun i _ => n - (intOf i).toNat)
    case atStart => exact ⟨0, by omega, rfl, rfl, 0, rfl⟩
    case round =>
      obtain ⟨k, hk, rfl, he, j, rfl⟩ := hrel
      have HE := Lib.hid he
      clear he
      by_cases hlt : k < n
      · obtain ⟨ad, v, rfl, _, hv, _, hcell⟩ := h1.at_ hlt
        obtain ⟨bd, u, rfl, _, hu, _, hcell2⟩ := h2.at_ hlt
        by_cases hne : v = u
        · subst hne
          go_wp2
          go_quiet (fail)
          go_wp2
          go_roundw
          case rel => exact ⟨k + 1, by omega, by go_num, take_snoc2 hv.out hu.out HE.out, _, rfl⟩
          case measure => simp [intOf]; omega
        · have g : (v == u) = false := by simpa using hne
          have g' : (v != u) = true := by simpa using hne
          clear hne
          go_wp2
          go_quiet (fail)
          go_wp2
          go_ret
          exact ⟨ret_bool (ne_of_get hv.out hu.out g), _, World.drewN_drewN _ _ _⟩
      · go_wp2
        go_ret
        exact ⟨ret_bool (eq_of_takes HL1.out HL2.out hlt HE.out), _, rfl⟩
  · have HN := Lib.hid (ne_of_len (l := l) (r := r) (by omega))
    have g : ((n : Int) == m) = false := by simp; omega
    have g' : ((n : Int) != m) = true := by simp; omega
    clear hl1 hl2
    go_enter Tryd.func32, Tryd.ntmps32
    go_wp2
    go_ret
    exact ⟨ret_bool HN.out, 0, rfl⟩
end Go.Proofs.YtooepkpgffpcjaaDoor
