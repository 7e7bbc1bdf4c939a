/- Words for memory: slices of slices of numbers. -/
import Derived.Test.YtgnfkgmppeohoaaBase
namespace Go.Proofs.Ytgnfkgmppeohoaa
open Go.RowKit

/-- The slice value '.slice A n c' reads as the lists ll. -/
def RdL (w : World) (A : Option Addr) (n : Nat) (ll : List (List Int)) : Prop :=
  ∃ vs : List Value, Rd w A n vs ∧ ll.length = n ∧ ∀ (j : Nat) v, vs[j]? = some v → ∃ B m d l, v = .slice B m d ∧ ll[j]? = some l ∧ RdI w B m l
/-- .. and is the call's own, its rows elsewhere. -/
def OwnL (w : World) (base : Nat) (A : Option Addr) (n c : Nat) (ll : List (List Int)) : Prop :=
  ∃ vs : List Value, Own w base 22 1 A n c vs ∧ ll.length = n ∧ ∀ (j : Nat) v, vs[j]? = some v → ∃ B m d l, v = .slice B m d ∧ ll[j]? = some l ∧ RdI w B m l ∧ (0 < m → A.map (·.block) ≠ B.map (·.block))

section
variable {w w' : World} {base n c : Nat} {A : Option Addr} {ll : List (List Int)}
theorem RdL.len (h : RdL w A n ll) : ll.length = n := by obtain ⟨_, _, h, _⟩ := h; exact h
theorem OwnL.len (h : OwnL w base A n c ll) : ll.length = n := by obtain ⟨_, _, h, _⟩ := h; exact h
theorem OwnL.rd (h : OwnL w base A n c ll) : RdL w A n ll := by
  obtain ⟨vs, h1, h2, h3⟩ := h
  exact ⟨vs, h1.rd, h2, fun j v hv => by obtain ⟨B, m, d, l, e, hl, hr, _⟩ := h3 j v hv; exact ⟨B, m, d, l, e, hl, hr⟩⟩
theorem RdL.below (h : RdL w A n ll) (hb : Below w.heap.size w w') : RdL w' A n ll := by
  obtain ⟨vs, h1, h2, h3⟩ := h
  exact ⟨vs, h1.below hb, h2, fun j v hv => by obtain ⟨B, m, d, l, e, hl, hr⟩ := h3 j v hv; exact ⟨B, m, d, l, e, hl, hr.below hb⟩⟩
theorem OwnL.below (h : OwnL w base A n c ll) (hb : Below w.heap.size w w') : OwnL w' base A n c ll := by
  obtain ⟨vs, h1, h2, h3⟩ := h
  exact ⟨vs, h1.below hb, h2, fun j v hv => by obtain ⟨B, m, d, l, e, hl, hr, hn⟩ := h3 j v hv; exact ⟨B, m, d, l, e, hl, hr.below hb, hn⟩⟩
theorem OwnL.alloc (h : OwnL w base A n c ll) (o : Obj) : OwnL (w.alloc o) base A n c ll := h.below ((Below.refl _ _).alloc (Nat.le_refl _) o)
theorem RdL.alloc (h : RdL w A n ll) (o : Obj) : RdL (w.alloc o) A n ll := h.below ((Below.refl _ _).alloc (Nat.le_refl _) o)
theorem OwnL.drewN (h : OwnL w base A n c ll) (k : Nat) : OwnL (w.drewN k) base A n c ll := h
theorem RdL.drewN (h : RdL w A n ll) (k : Nat) : RdL (w.drewN k) A n ll := h
theorem OwnL.nil_ (w : World) (base : Nat) : OwnL w base none 0 0 [] := ⟨[], Own.nil_ _ _ _ _, rfl, fun j v hv => by simp at hv⟩
theorem OwnL.mono {base' : Nat} (h : OwnL w base A n c ll) (hb : base' ≤ base) : OwnL w base' A n c ll := by
  obtain ⟨vs, h1, h2⟩ := h
  exact ⟨vs, h1.mono hb, h2⟩
theorem OwnL.lt (h : OwnL w base A n c ll) : ∀ b, A.map (·.block) = some b → base ≤ b ∧ b < w.heap.size := by
  obtain ⟨vs, h1, _⟩ := h
  exact fun b hb => h1.block hb
/-- In a round: where the k-th row lies. -/
theorem RdL.at_ {k : Nat} (h : RdL w A n ll) (hk : k < n) : ∃ ad B m d l, A = some ad ∧ ad.block < w.heap.size ∧ Hid (ll[k]? = some l) ∧ RdI w B m l ∧ w.cell? (ad.add k) = some (.slice B m d) := by
  obtain ⟨vs, h1, h2, h3⟩ := h
  obtain ⟨ad, u, e, hb, hu, hc⟩ := h1.at_ hk
  obtain ⟨B, m, d, l, rfl, hl, hr⟩ := h3 k u hu
  exact ⟨ad, B, m, d, l, e, hb, hl, hr, hc⟩
/-- a row more -/
theorem OwnL.push {B : Option Addr} {m d : Nat} {l : List Int} {A' : Option Addr} {c' : Nat} {vs : List Value} (h1 : Own w base 22 1 A n c vs) (h2 : ll.length = n)
    (h3 : ∀ (j : Nat) v, vs[j]? = some v → ∃ B m d l, v = .slice B m d ∧ ll[j]? = some l ∧ RdI w B m l ∧ (0 < m → A.map (·.block) ≠ B.map (·.block)))
    (hr : RdI w B m l) (hne : 0 < m → A.map (·.block) ≠ B.map (·.block)) (hown : Own w' base 22 1 A' (n + 1) c' (vs ++ [.slice B m d])) (hg : w.grownBy w' (A.map (·.block))) {gx : Nat} (hgx : w.heap.size ≤ gx) (ha : A'.map (·.block) = A.map (·.block) ∨ A'.map (·.block) = some gx) : OwnL w' base A' (n + 1) c' (ll ++ [l]) := by
  have keep : ∀ {B : Option Addr} {m : Nat} {l : List Int}, RdI w B m l → (0 < m → A.map (·.block) ≠ B.map (·.block)) → RdI w' B m l ∧ (0 < m → A'.map (·.block) ≠ B.map (·.block)) := by
    intro B m l hr hne
    rcases Nat.eq_zero_or_pos m with h0 | hp
    · subst h0
      have hl : l = [] := List.eq_nil_of_length_eq_zero (by have := hr.len; omega)
      subst hl
      exact ⟨RdI.nil_, fun h => absurd h (by omega)⟩
    · have hn := hne hp
      refine ⟨hr.grown hg (fun g e1 e2 => hn (e1.trans e2.symm)), fun _ => ?_⟩
      rcases ha with ha | ha
      · rw [ha]; exact hn
      · rw [ha]
        obtain ⟨ad, _, e, hb, _⟩ := hr.1.at_ hp
        rw [e]
        intro e2
        have : gx = ad.block := by injection e2
        omega
  refine ⟨vs ++ [.slice B m d], hown, by simp [h2], fun j v hv => ?_⟩
  have hvl : vs.length = n := by have := h1.len; omega
  rcases Nat.lt_or_ge j n with hj | hj
  · rw [List.getElem?_append_left (by omega)] at hv
    obtain ⟨B1, m1, d1, l1, e, hl, hr1, hn1⟩ := h3 j v hv
    obtain ⟨k1, k2⟩ := keep hr1 hn1
    exact ⟨B1, m1, d1, l1, e, by rw [List.getElem?_append_left (by omega)]; exact hl, k1, k2⟩
  · have hj2 : j = n := by
      have := (List.getElem?_eq_some_iff.1 hv).1
      simp at this; omega
    subst hj2
    rw [List.getElem?_append_right (by omega), hvl, Nat.sub_self] at hv
    simp at hv
    subst hv
    obtain ⟨k1, k2⟩ := keep hr hne
    exact ⟨B, m, d, l, rfl, by rw [List.getElem?_append_right (by omega), h2, Nat.sub_self]; rfl, k1, k2⟩
end

theorem rowInfo : (Try.prog.info? 22).map (fun i => (i.zero, i.size, i.bytes)) = some (some (.slice none 0 0), 1, 24) := by kernel_rfl

/-- 'append(out, row)', the row laid in a new block first. -/
theorem wpList_appL1 (w : World) {ops : Array Oper} {rest : List Oper} {o : Oper} {a : Act} {Q : Exit → Act → World → Prop} (hgd : o.guard = none) (s x : Operand)
    (ho : o.op = .call { callee := .builtin .append, args := #[s, x], argTypes := #[38, 38] })
    {base n c : Nat} {A : Option Addr} {ll : List (List Int)} {B : Option Addr} {m d : Nat} {l : List Int} (t : TypeId) (hs : a.eval s = .slice A n c) (hx : a.eval x = .slice (some ⟨w.heap.size, 0, none⟩) 1 1) (hown : OwnL w base A n c ll)
    (hr : RdI w B m l) (hne : 0 < m → A.map (·.block) ≠ B.map (·.block)) (hnm : n + 1 ≤ 1000000) (hbase : base ≤ w.heap.size)
    (h : ∀ A' c' w', OwnL w' base A' (n + 1) c' (ll ++ [l]) → Below base w w' → wpList Try.prog ops Q rest (a.put o.dst (.slice A' (n + 1) c')) w') :
    wpList Try.prog ops Q (o :: rest) a (w.alloc (.cells #[.slice B m d] t)) := by
  obtain ⟨i0, hi0, hz0, hz1, hz2⟩ := info_parts rowInfo
  obtain ⟨vs, h1, h2, h3⟩ := hown
  refine wpList_app _ hgd s x 38 ho base 22 i0 _ 24 Try.underlying38 hi0 hz0 hz1 hz2 rfl (by decide) A n c vs hs (h1.alloc _) _ 1 1 [.slice B m d] hx (Rd.one w t _) (by intro u hu; simp at hu; subst hu; rfl) (by omega) (by simp; omega) ?_
  intro A' c' w' k1 k2 k3
  have hg : w.grownBy w' (A.map (·.block)) := grown_trans (World.grownBy_alloc w _ _) k2
  refine h A' c' w' (OwnL.push h1 h2 h3 hr hne k1 hg (gx := (w.alloc (.cells #[.slice B m d] t)).heap.size) (by simp) k3) (below_app h1 hg hbase)

def eqL (a b : List (List Int)) : Bool := a == b
set_option maxHeartbeats 400000 in
theorem eqLists_any (A B : Option Addr) (n m c d : Nat) (a b : List (List Int)) (w : World) (h1 : RdL w A n a) (h2 : RdL w B m b) (hn : n ≤ 100000) (hm : m ≤ 100000) :
    Calls Try.prog 69 #[.slice A n c, .slice B m d] w fun e w' => e = .returned (.bool (a == b)) ∧ ∃ k, w' = w.drewN k := by
  have hl1 := h1.len
  have hl2 := h2.len
  have HL1 := Lib.hid hl1
  have HL2 := Lib.hid hl2
  clear hl1 hl2
  by_cases hnm : n = m
  · subst hnm
    go_enter Try.func69, Try.ntmps69
    go_wp2
    go_loopw [5] (fun i wr => ∃ k : Nat, k ≤ n ∧ i = .int .i64 k ∧ a.take k = b.take k ∧ ∃ j, wr = w.drewN j) (fun i _ => n - (intOf i).toNat)
    case atStart => exact ⟨0, by omega, rfl, rfl, 0, rfl⟩
    case round =>
      obtain ⟨k, hk, rfl, he, j, rfl⟩ := hrel
      have HE := Lib.hid he
      clear he
      by_cases hlt : k < n
      · obtain ⟨ad, B1, m1, d1, l1, rfl, _, hv, hr, hcell⟩ := h1.at_ hlt
        obtain ⟨bd, B2, m2, d2, l2, rfl, _, hu, hr2, hcell2⟩ := h2.at_ hlt
        have HV := hv
        have HU := hu
        by_cases hne : l1 = l2
        · subst hne
          have g : (l1 == l1) = true := by simp
          go_wp2_with fail
          go_region_held3 (fun w' => w'.cell? (ad.add k) = some (.slice B1 m1 d1) ∧ w'.cell? (bd.add k) = some (.slice B2 m2 d2)) (first | exact ⟨hcell, hcell2⟩) (first
            | (go_at_call 34; refine (eq_any B1 B2 m1 m2 d1 d2 l1 l1 (w.drewN j).drew hr hr2).mono ?_; rintro e w' ⟨rfl, d3, rfl⟩; rw [g]))
          go_wp2
          go_roundw
          case rel => exact ⟨k + 1, by omega, by go_num, by rw [take_of_get HV.out, take_of_get HU.out, HE.out], j + 1 + d3, rfl⟩
          case measure => simp [intOf]; omega
        · have g : (l1 == l2) = false := by simpa using hne
          have HN : Hid ((a == b) = false) := Lib.hid (by
            rw [beq_eq_false_iff_ne]
            intro e
            subst e
            have e1 := HV.out
            have e2 := HU.out
            rw [e1] at e2
            injection e2 with e2
            exact hne e2)
          clear hne
          go_wp2_with fail
          go_region_held3 (fun w' => w'.cell? (ad.add k) = some (.slice B1 m1 d1) ∧ w'.cell? (bd.add k) = some (.slice B2 m2 d2)) (first | exact ⟨hcell, hcell2⟩) (first
            | (go_at_call 34; refine (eq_any B1 B2 m1 m2 d1 d2 l1 l2 (w.drewN j).drew hr hr2).mono ?_; rintro e w' ⟨rfl, d3, rfl⟩; rw [g]))
          go_wp2
          go_ret
          exact ⟨ret_bool HN.out.symm, j + 1 + d3, rfl⟩
      · obtain rfl : k = n := by omega
        have HT : Hid ((a == b) = true) := Lib.hid (by
          have e := HE.out
          rw [List.take_of_length_le (by rw [HL1.out]; omega), List.take_of_length_le (by rw [HL2.out]; omega)] at e
          simpa using e)
        go_wp2
        go_ret
        exact ⟨ret_bool HT.out.symm, _, rfl⟩
  · have HN : Hid ((a == b) = false) := Lib.hid (by
      rw [beq_eq_false_iff_ne]
      intro e
      have e1 := HL1.out
      have e2 := HL2.out
      rw [e] at e1
      omega)
    have g : ((n : Int) == m) = false := by simp; omega
    have g' : ((n : Int) != m) = true := by simp; omega
    go_enter Try.func69, Try.ntmps69
    go_wp2
    go_ret
    exact ⟨ret_bool HN.out.symm, 0, rfl⟩
end Go.Proofs.Ytgnfkgmppeohoaa
