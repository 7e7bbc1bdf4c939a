/- Walks: what is common to two partitions, and being finer: the reference's. -/
import Derived.Test.YtooepkpgffpcjaaDoorMeet
namespace Go.Proofs.YtooepkpgffpcjaaDoor
open Go.RowKit

/-- 'append(s, x)' of a number, that was laid in a new block first, in a region that draws its order. -/
theorem step_appI1 (w : World) {ops : Array Oper} {o : Oper} {a : Act} {K : Act → World → Prop} {Q : Exit → Act → World → Prop} {E : Prop} (hgd : o.guard = none) (s x : Operand)
    (ho : o.op = .call { callee := .builtin .append, args := #[s, x], argTypes := #[22, 22] })
    {base n c : Nat} {A : Option Addr} {l : List Int} {v : Int} (t : TypeId) (hs : a.eval s = .slice A n c) (hx : a.eval x = .slice (some ⟨w.heap.size, 0, none⟩) 1 1) (hown : OwnI w base 3 A n c l) (hv : I64 v) (hnm : n + 1 ≤ 1000000) (hbase : base ≤ w.heap.size)
    (h : ∀ A' c' w', OwnI w' base 3 A' (n + 1) c' (l ++ [v]) → w.grownBy w' (A.map (·.block)) → Below base w w' → K (a.put o.dst (.slice A' (n + 1) c')) w') :
    if Region.wanted o (yielded ops a.tmps) = true then Oper.wp Tryd.prog o a (w.alloc (.cells #[.int .i64 v] t)) K Q else E := by
  obtain ⟨i0, hi0, hz0, hz1, hz2⟩ := info_parts intInfo
  refine step_app _ hgd s x 22 ho base 3 i0 _ 8 Tryd.underlying22 hi0 hz0 hz1 hz2 rfl (by decide) A n c (ints l) hs (hown.alloc _).1 _ 1 1 (ints [v]) hx (RdI.one w t v hv).1 (ints_oneCell' _) (by omega) (by simp; omega) ?_
  intro A' c' w' h1 h2 h3
  have hg : w.grownBy w' (A.map (·.block)) := grown_trans (World.grownBy_alloc w _ _) h2
  refine h A' c' w' ⟨by rw [ints_append]; exact h1, ?_⟩ hg (below_app hown.1 hg hbase)
  intro u hu
  rcases List.mem_append.1 hu with hu | hu
  · exact hown.2 u hu
  · simp at hu; subst hu; exact hv

theorem wrap_smallI {v : Int} (h0 : -1000000000000 ≤ v) (h1 : v ≤ 1000000000000) : IntKind.i64.wrap v = v := by
  simp only [IntKind.wrap, IntKind.bits, IntKind.signed, Bool.true_and]
  by_cases h : 2 ^ (64 - 1) ≤ v % 2 ^ 64
  · rw [if_pos (by simpa using h)]; omega
  · rw [if_neg (by simpa using h)]; omega
theorem pairL_take {m : Int} {a b : List Int} {k : Nat} {u v : Int} (hu : a[k]? = some u) (hv : b[k]? = some v) : (pairL m a b).take (k + 1) = (pairL m a b).take k ++ [u * m + v] := by
  refine take_of_get ?_
  unfold pairL
  rw [List.getElem?_zipWith, hu, hv]

set_option maxHeartbeats 1000000 in
set_option maxRecDepth 100000 in
theorem refMeet_any (A B : Option Addr) (n m c d : Nat) (l r : List Int) (w : World) (h1 : RdI w A n l) (h2 : RdI w B m r) :
    Calls Tryd.prog 52 #[.slice A n c, .slice B m d] w (IntsErr (meetE l r) w) := by
  have c1 := refBoth_any A B n m c d l r w h1 h2
  by_cases h0 : chk2 l r = 0
  · obtain ⟨k1, k2, k3⟩ := chk2_ok h0
    have HV : Hid (meetE l r = (meetL l r, 0)) := by show meetE l r = _; unfold meetE; rw [if_neg (by omega)]
    have hln := h1.len
    have hrm := h2.len
    obtain rfl : n = m := by omega
    have hn9 : n ≤ 9 := by have := (chk_ok k1).2.1; omega
    rw [h0] at c1
    have HC := Lib.hid c1
    have HME := Lib.hid (meet_ref k3 k2)
    have HPL : Hid ((pairL 9 l r).length = n) := Lib.hid (by rw [pairL_length k3, hln])
    have HB1 := Lib.hid (chk_ok k1).2.2.1
    have HB2 := Lib.hid (chk_ok k2).2.2.1
    have HML : Hid ((meetL l r).length = n) := Lib.hid (by rw [meetL_length k3, hln])
    clear h0 c1 k1 k2 k3 hln hrm
    go_enter Tryd.func52, Tryd.ntmps52
    go_wp2_with fail
    refine HC.out.mono ?_; rintro e w' ⟨rfl, rfl⟩
    go_wp2_with fail
    go_loopw [7, 8] (fun o i wr => ∃ k : Nat, k ≤ n ∧ i = .int .i64 k ∧ ∃ Ao co, o = .slice Ao k co ∧ OwnI wr w.heap.size 3 Ao k co ((pairL 9 l r).take k) ∧ Below w.heap.size w wr) (fun _ i _ => n - (intOf i).toNat)
    case atStart => exact ⟨0, by omega, rfl, none, 0, rfl, OwnI.nil_ _ _ _, Below.refl _ _⟩
    case round =>
      obtain ⟨k, hk, rfl, Ao, co, rfl, hown, hbel⟩ := hrel
      have HO := Lib.hid hown
      have HB := Lib.hid hbel
      clear hown hbel
      by_cases hlt : k < n
      · obtain ⟨ad, u, rfl, had, hu, _, hcell0⟩ := h1.at_ hlt
        obtain ⟨bd, v, rfl, hbd, hv, _, hcell1⟩ := h2.at_ hlt
        rw [← HB.out.cell (by rw [block_of_add]; exact had)] at hcell0
        rw [← HB.out.cell (by rw [block_of_add]; exact hbd)] at hcell1
        have hu9 := HB1.out u (List.mem_of_getElem? hu.out)
        have hv9 := HB2.out v (List.mem_of_getElem? hv.out)
        have HT := Lib.hid (pairL_take (m := 9) hu.out hv.out)
        have hsz := HB.out.size
        have hA0 : (ad.add k).block < w.heap.size := by rw [block_of_add]; exact had
        have hB0 : (bd.add k).block < w.heap.size := by rw [block_of_add]; exact hbd
        have hA1 := Nat.lt_of_lt_of_le hA0 hsz
        have hB1 := Nat.lt_of_lt_of_le hB0 hsz
        have s1 : IntKind.i64.wrap (u * 9) = u * 9 := wrap_smallI (by omega) (by omega)
        have s2 : IntKind.i64.wrap (u * 9 + v) = u * 9 + v := wrap_smallI (by omega) (by omega)
        go_upto_region 8 with fail
        go_region_held3 (fun w' => w'.cell? (ad.add k) = some (.int .i64 u) ∧ w'.cell? (bd.add k) = some (.int .i64 v)) (first | exact ⟨hcell0, hcell1⟩ | exact ⟨(World.cell?_alloc_lt wr _ _ hA1).trans hcell0, (World.cell?_alloc_lt wr _ _ hB1).trans hcell1⟩ | exact ⟨(hbel.cell hA0).trans hcell0, (hbel.cell hB0).trans hcell1⟩) ((refine step_appI1 wr.drew (by rfl) (.tmp 21) (.tmp 32) (by rfl) (v := u * 9 + v) _ (by rfl) (by rfl) HO.out.drew (I64.small (by omega)) (by omega) hsz ?_; intro A' c' w' hown hgrow hbel))
        go_wp2
        go_roundw
        case rel => exact ⟨k + 1, by omega, by go_num, A', c', rfl, by rw [HT.out]; exact hown, HB.out.drew.trans hbel⟩
        case measure => simp [intOf]; omega
      · obtain rfl : k = n := by omega
        have HZ : Hid ((pairL 9 l r).take k = pairL 9 l r) := by rw [List.take_of_length_le (by rw [HPL.out]; omega)]; rfl
        rw [HZ.out] at HO
        go_wp2_with fail
        refine (refof_any Ao k co (pairL 9 l r) wr HO.out.rd (by omega)).mono ?_; rintro e w' ⟨A', c', rfl, hown, hbel⟩
        rw [HME.out, HML.out] at hown
        rw [HME.out, HML.out]
        have HO2 := Lib.hid hown
        have HB2 := Lib.hid (HB.out.trans (hbel.mono HB.out.size))
        have hsz := HB.out.size
        clear hown hbel
        go_wp2
        go_ret2
        rw [HV.out]
        refine ⟨A', c', ?_, ?_, HB2.out⟩
        · show _ = _; rw [HML.out]; rfl
        · show OwnI _ _ _ _ (meetL l r).length _ _; rw [HML.out]; exact HO2.out.mono hsz
  · have HV : Hid (meetE l r = ([], chk2 l r)) := by show meetE l r = _; unfold meetE; rw [if_pos h0]
    generalize chk2 l r = z at c1 h0 HV
    have HC := Lib.hid c1
    have g1 : (z == 0) = false := by simpa using h0
    have g2 : (z != 0) = true := by simpa using h0
    clear c1 h0
    go_enter Tryd.func52, Tryd.ntmps52
    go_wp2_with fail
    refine HC.out.mono ?_; rintro e w' ⟨rfl, rfl⟩
    go_wp2
    go_ret2
    rw [HV.out]; exact IntsErr.none_ _ _

/-- nothing against being finer up to (i, k) -/
def FinTo (a b : List Int) (i k : Nat) : Prop := ∀ x y, x < a.length → y < x → (x < i ∨ x = i ∧ y < k) → a.getD x 0 = a.getD y 0 → b.getD x 0 = b.getD y 0
theorem finTo_all {a b : List Int} (h : FinTo a b a.length 0) : finB a b = true := by
  rw [finB_iff]
  intro i j hi hj e
  rcases Nat.lt_trichotomy i j with hlt | rfl | hgt
  · exact (h j i hj hlt (.inl hj) e.symm).symm
  · rfl
  · exact h i j hi hgt (.inl hi) e
theorem finTo_not {a b : List Int} {i k : Nat} (hi : i < a.length) (hk : k < i) (e : a.getD i 0 = a.getD k 0) (hne : b.getD i 0 ≠ b.getD k 0) : finB a b = false := by
  rw [Bool.eq_false_iff]
  intro h
  exact hne (finB_iff.1 h i k hi (by omega) e)
theorem FinTo.step {a b : List Int} {i k : Nat} (h : FinTo a b i k) (hs : a.getD i 0 = a.getD k 0 → b.getD i 0 = b.getD k 0) : FinTo a b i (k + 1) := by
  intro x y hx hy hp e
  rcases hp with hp | ⟨rfl, hp⟩
  · exact h x y hx hy (.inl hp) e
  · rcases Nat.lt_or_ge y k with hlt | hge
    · exact h x y hx hy (.inr ⟨rfl, hlt⟩) e
    · obtain rfl : y = k := by omega
      exact hs e
theorem FinTo.row {a b : List Int} {i : Nat} (h : FinTo a b i i) : FinTo a b (i + 1) 0 := by
  intro x y hx hy hp e
  refine h x y hx hy ?_ e
  rcases hp with hp | ⟨rfl, hp⟩
  · rcases Nat.lt_or_ge x i with h1 | h1
    · exact .inl h1
    · exact .inr ⟨by omega, by omega⟩
  · omega

set_option maxHeartbeats 1000000 in
set_option maxRecDepth 100000 in
theorem refFiner_any (A B : Option Addr) (n m c d : Nat) (l r : List Int) (w : World) (h1 : RdI w A n l) (h2 : RdI w B m r) :
    Calls Tryd.prog 50 #[.slice A n c, .slice B m d] w (BoolErr (finE l r) w) := by
  have c1 := refBoth_any A B n m c d l r w h1 h2
  by_cases h0 : chk2 l r = 0
  · obtain ⟨k1, k2, k3⟩ := chk2_ok h0
    have HV : Hid (finE l r = (finB l r, 0)) := by show finE l r = _; unfold finE; rw [if_neg (by omega)]
    have hln := h1.len
    have hrm := h2.len
    obtain rfl : n = m := by omega
    have hn9 : n ≤ 9 := by have := (chk_ok k1).2.1; omega
    rw [h0] at c1
    have HC := Lib.hid c1
    have HL1 := Lib.hid hln
    have HL2 := Lib.hid hrm
    clear h0 c1 k1 k2 k3 hln hrm
    go_enter Tryd.func50, Tryd.ntmps50
    go_wp2_with fail
    refine HC.out.mono ?_; rintro e w' ⟨rfl, rfl⟩
    go_wp2_with fail
    go_loopw [7] (fun i wr => ∃ k : Nat, k ≤ n ∧ i = .int .i64 k ∧ FinTo l r k 0 ∧ ∃ d, wr = w.drewN d) (fun i _ => n - (intOf i).toNat)
    case atStart => exact ⟨0, by omega, rfl, fun x y _ _ hp => by omega, 0, rfl⟩
    case round =>
      obtain ⟨i, hi, rfl, hf, d1, rfl⟩ := hrel
      have HF := Lib.hid hf
      clear hf
      by_cases hlt : i < n
      · obtain ⟨ad, u, rfl, had, hu, _, hcell0⟩ := h1.at_ hlt
        obtain ⟨bd, v, rfl, hbd, hv, _, hcell1⟩ := h2.at_ hlt
        go_wp2_with fail
        go_loopw [8] (fun j wr => ∃ k : Nat, k ≤ i ∧ j = .int .i64 k ∧ FinTo l r i k ∧ ∃ d, wr = w.drewN d) (fun j _ => i - (intOf j).toNat)
        case atStart => exact ⟨0, by omega, rfl, HF.out, _, rfl⟩
        case round =>
          obtain ⟨k, hk, rfl, hf, d2, rfl⟩ := hrel
          have HF2 := Lib.hid hf
          clear hf
          by_cases hki : k < i
          · obtain ⟨ad', u', e1, _, hu', _, hcell2⟩ := h1.at_ (k := k) (by omega)
            obtain rfl := Option.some.inj e1
            obtain ⟨bd', v', e2, _, hv', _, hcell3⟩ := h2.at_ (k := k) (by omega)
            obtain rfl := Option.some.inj e2
            have HG := Lib.hid (And.intro (And.intro (getD_of_get (d := 0) hu.out) (getD_of_get (d := 0) hu'.out)) (And.intro (getD_of_get (d := 0) hv.out) (getD_of_get (d := 0) hv'.out)))
            clear e1 e2
            by_cases ha : u = u'
            · by_cases hb : v = v'
              · have HE := Lib.hid hb
                subst ha hb
                have g1 : (u == u) = true := by simp
                have g2 : (v != v) = false := by simp
                go_wp2_with fail
                go_quiet (fail)
                go_wp2
                go_roundw
                case rel => exact ⟨k + 1, by omega, by go_num, HF2.out.step (fun _ => by rw [HG.out.2.1, HG.out.2.2]), _, rfl⟩
                case measure => simp [intOf]; omega
              · have HN := Lib.hid (finTo_not (a := l) (b := r) (i := i) (k := k) (by have := HL1.out; omega) hki (by rw [HG.out.1.1, HG.out.1.2, ha]) (by rw [HG.out.2.1, HG.out.2.2]; exact hb))
                subst ha
                have g1 : (u == u) = true := by simp
                have g2 : (v != v') = true := by simpa using hb
                have g3 : (v == v') = false := by simpa using hb
                clear hb
                go_wp2_with fail
                go_quiet (fail)
                go_wp2
                go_ret2
                refine ⟨?_, below_drewN (below_drewN (Below.refl _ _) _) _⟩
                rw [HV.out, HN.out]
                rfl
            · have HN := Lib.hid ha
              have g1 : (u == u') = false := by simpa using ha
              clear ha
              go_wp2_with fail
              go_quiet (fail)
              go_wp2
              go_roundw
              case rel => exact ⟨k + 1, by omega, by go_num, HF2.out.step (fun e => by rw [HG.out.1.1, HG.out.1.2] at e; exact absurd e HN.out), _, rfl⟩
              case measure => simp [intOf]; omega
          · obtain rfl : k = i := by omega
            go_wp2
            go_roundw
            case rel => exact ⟨k + 1, by omega, by go_num, HF2.out.row, _, rfl⟩
            case measure => simp [intOf]; omega
      · obtain rfl : i = n := by omega
        have HN : Hid (finB l r = true) := Lib.hid (finTo_all (by rw [HL1.out]; exact HF.out))
        go_wp2
        go_ret2
        refine ⟨?_, below_drewN (Below.refl _ _) _⟩
        rw [HV.out, HN.out]
        rfl
  · have HV : Hid (finE l r = (false, chk2 l r)) := by show finE l r = _; unfold finE; rw [if_pos h0]
    generalize chk2 l r = z at c1 h0 HV
    have HC := Lib.hid c1
    have g1 : (z == 0) = false := by simpa using h0
    have g2 : (z != 0) = true := by simpa using h0
    clear c1 h0
    go_enter Tryd.func50, Tryd.ntmps50
    go_wp2_with fail
    refine HC.out.mono ?_; rintro e w' ⟨rfl, rfl⟩
    go_wp2
    go_ret2
    refine ⟨?_, Below.refl _ _⟩
    rw [HV.out]
    rfl
end Go.Proofs.YtooepkpgffpcjaaDoor
