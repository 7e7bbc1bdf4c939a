/- Walks: the reference's behind, Rank, Unrank, and the program's Unrank. -/
import Derived.Test.YtooepkpgffpcjaaDoorUnrank
import Derived.Test.YtooepkpgffpcjaaDoorParted
import Derived.Test.YtooepkpgffpcjaaDoorAwake
namespace Go.Proofs.YtooepkpgffpcjaaDoor
open Go.RowKit

theorem behind_bd : ∀ m, m < 9 → ∀ b : Nat, m + b < 11 → behindR m b ≤ 10000000000 := by
  intro m hm b hb
  rw [← behind_eq m hm b hb]
  exact (endL_bd _).2
theorem behind_prod_bd (m : Nat) (hm : m + 1 < 9) (b : Nat) (hb : m + 1 + b < 11) : 0 ≤ (b : Int) * behindR m b ∧ (b : Int) * behindR m b ≤ 10000000000 ∧ 1 ≤ behindR m b ∧ 1 ≤ behindR m (b + 1) ∧ behindR (m + 1) b = b * behindR m b + behindR m (b + 1) := by
  have h1 := behind_pos m b (by omega)
  have h2 := behind_pos m (b + 1) (by omega)
  have h3 := behind_bd (m + 1) hm b hb
  have h4 : behindR (m + 1) b = b * behindR m b + behindR m (b + 1) := rfl
  have h5 : 0 ≤ (b : Int) * behindR m b := Int.mul_nonneg (by omega) (by omega)
  refine ⟨h5, by omega, h1, h2, h4⟩

set_option maxHeartbeats 400000 in
theorem behind_any (n : Nat) : ∀ (b : Nat) (w : World), n < 9 → n + b < 11 → Calls Tryd.prog 96 #[.int .i64 n, .int .i64 b] w fun e w' => e = .returned (.int .i64 (behindR n b)) ∧ w = w' := by
  induction n with
  | zero =>
    intro b w _ _
    go_enter Tryd.func96, Tryd.ntmps96
    go_wp2
    go_ret
    exact ⟨rfl, rfl⟩
  | succ n ih =>
    intro b w hn hb
    have IH := Lib.hid ih
    obtain ⟨p0, p1, q1, q2, hv⟩ := behind_prod_bd n hn b hb
    have hbd := behind_bd (n + 1) hn b hb
    have hb2 := behind_bd n (by omega) (b + 1) (by omega)
    have hs0 : 0 ≤ (b : Int) * behindR n b + behindR n (b + 1) := by omega
    have hs1 : (b : Int) * behindR n b + behindR n (b + 1) ≤ 10000000000 := by omega
    have HV := Lib.hid hv
    have g1 : (((n + 1 : Nat) : Int) == 0) = false := by simp; omega
    have hb11 : b ≤ 10 := by omega
    have HN := Lib.hid (And.intro hn hb)
    have hn9 : n ≤ 8 := by omega
    clear ih hv hbd hn hb
    go_enter Tryd.func96, Tryd.ntmps96
    go_wp2_with fail
    refine (IH.out b w (by have := HN.out; omega) (by have := HN.out; omega)).mono ?_; rintro e w' ⟨rfl, rfl⟩
    go_wp2_with fail
    have ih2 := IH.out (b + 1) w (by have := HN.out; omega) (by have := HN.out; omega)
    rw [show ((b + 1 : Nat) : Int) = (b : Int) + 1 by omega] at ih2
    refine ih2.mono ?_; rintro e w' ⟨rfl, rfl⟩
    go_wp2
    go_ret
    exact ⟨ret_int HV.out.symm, rfl⟩

theorem endRead {m b : Nat} (hm : m < 9) (hb : m + b < 11) : endL[m * 11 + b]? = some (behindR m b) := by
  rw [← behind_eq m hm b hb]
  exact get_getD (by rw [okTab_len okEnd]; omega)

/-- all that a round of Unrank wants to know -/
structure URound (n : Nat) (rank : Int) (k : Nat) (p : List Int) (r : Int) (b : Nat) (e x : Int) : Prop where
  now : unr n rank k = (r, p)
  next : unr n rank (k + 1) = (r - x * e, p ++ [x])
  len : p.length = k
  r0 : 0 ≤ r
  r1 : r ≤ rank
  blk : blk p = b
  bk : b ≤ k
  small : Small p
  e0 : 1 ≤ e
  e1 : e ≤ 10000000000
  tab : endL[(n - 1 - k) * 11 + b]? = some e
  beh : behindR (n - 1 - k) b = e
  x_ : x = min (b : Int) (r / e)
  x0 : 0 ≤ x
  x1 : x ≤ b
  xe0 : 0 ≤ x * e
  xe1 : x * e ≤ r
  blk' : Go.Proofs.YtooepkpgffpcjaaDoor.blk (p ++ [x]) = max (b : Int) (x + 1)
theorem unr_round {n : Nat} {rank : Int} (h : 0 ≤ rank) (h9 : n ≤ 9) {k : Nat} (hk : k < n) : ∃ p r b e x, URound n rank k p r b e x := by
  have hu := unr_ok n h k
  have hs := unr_succ n rank k
  obtain ⟨s, hs0⟩ : ∃ s, unr n rank k = s := ⟨_, rfl⟩
  obtain ⟨r, p⟩ := s
  rw [hs0] at hu hs
  obtain ⟨i1, i2, i3, i4, i5⟩ := hu
  simp only at i1 i2 i3 i4 i5
  have hb0 : 0 ≤ blk p := le_foldl_max _ _
  have hbk : blk p ≤ k := foldl_max_lt p k 0 (fun v hv => (i4 v hv).2) (by omega)
  obtain ⟨b, hb⟩ : ∃ b : Nat, blk p = b := ⟨(blk p).toNat, by omega⟩
  obtain ⟨e, he⟩ : ∃ e, e = behindR (n - 1 - k) b := ⟨_, rfl⟩
  obtain ⟨x, hx⟩ : ∃ x, x = min (b : Int) (r / e) := ⟨_, rfl⟩
  have hp := behind_pos (n - 1 - k) b (by omega)
  have hbd := behind_bd (n - 1 - k) (by omega) b (by omega)
  rw [← he] at hp hbd
  have hd : 0 ≤ r / e := Int.ediv_nonneg i2 (by omega)
  have hm : r / e * e ≤ r := Int.ediv_mul_le r (by omega)
  have hx0 : 0 ≤ x := by omega
  have hxe : x * e ≤ r / e * e := Int.mul_le_mul_of_nonneg_right (by omega) (by omega)
  have hxe0 : 0 ≤ x * e := Int.mul_nonneg hx0 (by omega)
  refine ⟨p, r, b, e, x, ⟨hs0, ?_, i1, i2, i3, hb, by omega, fun v hv => by have := i4 v hv; omega, by omega, by omega, ?_, he.symm, hx, hx0, by omega, hxe0, by omega, ?_⟩⟩
  · rw [hs]; unfold unrStep; simp only; rw [hb, ← he, ← hx]
  · rw [he]; exact endRead (by omega) (by omega)
  · show (p ++ [x]).foldl _ _ = _
    rw [List.foldl_append]
    show max (blk p) (x + 1) = _
    rw [hb]
def lenOfV : Value → Nat
  | .slice _ n _ => n
  | _ => 0
theorem countR_bd {n : Nat} (hn : n < 10) : 0 ≤ countR n ∧ countR n ≤ 1000000 := by
  have := countTo_bd hn n
  unfold countR; omega

set_option maxHeartbeats 1000000 in
set_option maxRecDepth 100000 in
theorem refUnrank_any (n rank : Int) (w : World) : Calls Tryd.prog 46 #[.int .i64 n, .int .i64 rank] w (IntsErr (unrankE n rank) w) := by
  by_cases h1 : n < 1
  · have HV : Hid (unrankE n rank = ([], 2)) := by show unrankE n rank = _; unfold unrankE; rw [if_pos (.inl h1)]
    go_enter Tryd.func46, Tryd.ntmps46
    go_wp2
    go_ret2
    rw [HV.out]; exact IntsErr.none_ _ _
  by_cases h2 : 9 < n
  · have HV : Hid (unrankE n rank = ([], 2)) := by show unrankE n rank = _; unfold unrankE; rw [if_pos (.inr h2)]
    go_enter Tryd.func46, Tryd.ntmps46
    go_wp2
    go_ret2
    rw [HV.out]; exact IntsErr.none_ _ _
  obtain ⟨m, rfl⟩ : ∃ m : Nat, n = m := ⟨n.toNat, by omega⟩
  have hm1 : 1 ≤ m := by omega
  have hm9 : m ≤ 9 := by omega
  by_cases h3 : rank < 0
  · have HV : Hid (unrankE m rank = ([], 7)) := by show unrankE m rank = _; unfold unrankE; rw [if_neg (by omega), if_pos (.inl h3)]
    go_enter Tryd.func46, Tryd.ntmps46
    go_wp2
    go_ret2
    rw [HV.out]; exact IntsErr.none_ _ _
  have hcb := countR_bd (n := m) (by omega)
  by_cases h4 : countR m ≤ rank
  · have HV : Hid (unrankE m rank = ([], 7)) := by show unrankE m rank = _; unfold unrankE; rw [if_neg (by omega), if_pos (.inr (by rw [Int.toNat_natCast]; exact h4))]
    have HC := Lib.hid (refcount_any m hm9 w)
    generalize countR m = cm at h4 hcb HC
    go_enter Tryd.func46, Tryd.ntmps46
    go_wp2_with fail
    refine HC.out.mono ?_; rintro e w' ⟨rfl, rfl⟩
    go_wp2
    go_ret2
    rw [HV.out]; exact IntsErr.none_ _ _
  have h0 : 0 ≤ rank := by omega
  have hrk : rank ≤ 1000000 := by omega
  have HV : Hid (unrankE m rank = ((unr m rank m).2, 0)) := by show unrankE m rank = _; unfold unrankE; rw [if_neg (by omega), if_neg (by rw [Int.toNat_natCast]; omega), Int.toNat_natCast]
  have HC := Lib.hid (refcount_any m hm9 w)
  have HR : Hid (∀ k, k < m → ∃ p r b e x, URound m rank k p r b e x) := Lib.hid fun k hk => unr_round h0 hm9 hk
  have H1 := Lib.hid (unr_one m h0)
  have HLN : Hid ((unr m rank m).2.length = m) := Lib.hid (unr_ok m h0 m).len
  generalize countR m = cm at h4 hcb HC
  go_enter Tryd.func46, Tryd.ntmps46
  go_wp2_with fail
  refine HC.out.mono ?_; rintro e w' ⟨rfl, rfl⟩
  go_wp2_with fail
  go_loopw [1, 6] (fun rr o wr => ∃ k : Nat, 1 ≤ k ∧ k ≤ m ∧ rr = .int .i64 (unr m rank k).1 ∧ ∃ Ao co, o = .slice Ao k co ∧ OwnI wr w.heap.size 3 Ao k co (unr m rank k).2 ∧ Below w.heap.size w wr) (fun _ o _ => m - lenOfV o)
  case atStart =>
    refine ⟨1, by omega, hm1, by rw [H1.out], _, _, rfl, ?_, (Below.refl _ _).alloc (Nat.le_refl _) _⟩
    rw [H1.out]
    exact OwnI.lit w 3 [0] 1 (by omega) rfl w.heap.size (Nat.le_refl _) (by intro v hv; simp at hv; subst hv; exact I64.small (by omega))
  case round =>
    obtain ⟨k, hk1, hk, rfl, Ao, co, rfl, hown, hbel⟩ := hrel
    have HO := Lib.hid hown
    have HB := Lib.hid hbel
    clear hown hbel H1
    by_cases hkm : k < m
    · obtain ⟨p, r, b, e, x, hu⟩ := HR.out k hkm
      have HU := Lib.hid hu
      rw [hu.now] at HO
      simp only at HO
      rw [hu.now]
      simp only
      have hr0 := hu.r0
      have hr1 := hu.r1
      have hbk := hu.bk
      have he0 := hu.e0
      have he1 := hu.e1
      have hx0 := hu.x0
      have hx1 := hu.x1
      have hxe0 := hu.xe0
      have hxe1 := hu.xe1
      have HX := Lib.hid hu.x_
      have HBL := Lib.hid hu.blk
      have hq0 : 0 ≤ r / e := Int.ediv_nonneg hr0 (by omega)
      have hq1 : r / e ≤ r := Int.ediv_le_self _ hr0
      have hsz := HB.out.size
      have HSM := Lib.hid hu.small
      have HBE := Lib.hid hu.beh
      have hmk : (m : Int) - 1 - k = ((m - 1 - k : Nat) : Int) := by omega
      have hmk2 : m - 1 - k < 9 := by omega
      have hmk3 : m - 1 - k + b < 11 := by omega
      have hen : (e == 0) = false := by simp; omega
      clear hu
      go_wp2_with fail
      refine (refBlocks_any Ao k co p wr HO.out.rd HSM.out).mono ?_; rintro en w' ⟨rfl, rfl⟩
      rw [HBL.out]
      go_wp2_with fail
      have hbh := behind_any (m - 1 - k) b wr hmk2 hmk3
      rw [HBE.out] at hbh
      refine hbh.mono ?_; rintro en w' ⟨rfl, rfl⟩
      have hrx0 : 0 ≤ r - x * e := by omega
      have hrx1 : r - x * e ≤ 1000000 := by omega
      have hmin : min (b : Int) (r / e) = x := HX.out.symm
      have hxe2 : x * e ≤ 1000000 := by omega
      go_wp2_with (at_builtin; go_must (refine wpList_appI1 _ rfl (.tmp 48) (.tmp 50) rfl _ rfl rfl HO.out (v := x) (I64.small (by omega)) (by omega) hsz ?_); intro A' c' w' kk; have KK := Lib.hid kk; clear kk)
      go_roundw
      case rel => exact ⟨k + 1, by omega, by omega, by rw [HU.out.next], A', c', rfl, by rw [HU.out.next]; exact KK.out.own, HB.out.trans KK.out.below⟩
      case measure => simp [lenOfV]; omega
    · obtain rfl : k = m := by omega
      go_wp2
      go_ret2
      rw [HV.out]
      refine ⟨Ao, co, ?_, ?_, HB.out⟩
      · show _ = _; rw [HLN.out]; rfl
      · show OwnI _ _ _ _ (unr k rank k).2.length _ _; rw [HLN.out]; exact HO.out
set_option maxHeartbeats 1000000 in
set_option maxRecDepth 100000 in
theorem unrank_any (n rank : Int) (w : World) : Calls Tryd.prog 45 #[.int .i64 n, .int .i64 rank] w (IntsErr (unrankE n rank) w) := by
  by_cases h12 : n < 1 ∨ 9 < n
  · have HV : Hid (unrankE n rank = ([], 2)) := by show unrankE n rank = _; unfold unrankE; rw [if_pos h12]
    have HE : Hid (countE n = (0, 2)) := by show countE n = _; unfold countE; rw [if_pos h12]
    clear h12
    go_enter Tryd.func45, Tryd.ntmps45
    go_wp2_with fail
    refine (count_any n w).mono ?_; rintro e w1 ⟨rfl, hb⟩
    rw [HE.out]
    have HB := Lib.hid hb
    clear hb
    go_wp2
    go_ret2
    rw [HV.out]
    exact ⟨none, 0, rfl, OwnI.nil_ _ _ _, HB.out⟩
  obtain ⟨m, rfl⟩ : ∃ m : Nat, n = m := ⟨n.toNat, by omega⟩
  have hm1 : 1 ≤ m := by omega
  have hm9 : m ≤ 9 := by omega
  have HE : Hid (countE m = (countR m, 0)) := by show countE m = _; unfold countE; rw [if_neg h12, Int.toNat_natCast]
  have hcb := countR_bd (n := m) (by omega)
  by_cases h34 : rank < 0 ∨ countR m ≤ rank
  · have HV : Hid (unrankE m rank = ([], 7)) := by show unrankE m rank = _; unfold unrankE; rw [if_neg h12, if_pos (by rw [Int.toNat_natCast]; exact h34)]
    have hw : (decide ((0 : Int) ≤ rank) && decide (rank ≤ countR m - 1)) = false := by simp; omega
    generalize countR m = cm at hcb h34 hw HE
    clear h34 h12
    go_enter Tryd.func45, Tryd.ntmps45
    go_wp2_with fail
    refine (count_any m w).mono ?_; rintro e w1 ⟨rfl, hb⟩
    rw [HE.out]
    have HB := Lib.hid hb
    clear hb
    go_wp2_with fail
    refine (within_any rank 0 (cm - 1) w1).mono ?_; rintro e w' ⟨rfl, rfl⟩
    rw [hw]
    go_wp2
    go_ret2
    rw [HV.out]
    exact ⟨none, 0, rfl, OwnI.nil_ _ _ _, HB.out⟩
  have h0 : 0 ≤ rank := by omega
  have hrk : rank ≤ 1000000 := by omega
  have HV : Hid (unrankE m rank = ((unr m rank m).2, 0)) := by show unrankE m rank = _; unfold unrankE; rw [if_neg (by omega), if_neg (by rw [Int.toNat_natCast]; omega), Int.toNat_natCast]
  have HR : Hid (∀ k, k < m → ∃ p r b e x, URound m rank k p r b e x) := Lib.hid fun k hk => unr_round h0 hm9 hk
  have HLN : Hid ((unr m rank m).2.length = m) := Lib.hid (unr_ok m h0 m).len
  have HU0 : Hid (unr m rank 0 = (rank, [])) := Lib.hid rfl
  have hw : (decide ((0 : Int) ≤ rank) && decide (rank ≤ countR m - 1)) = true := by simp; omega
  generalize countR m = cm at hcb h34 hw HE
  clear h34 h12
  have hl110 : (ints endL).toArray.size = 110 := by simp only [List.size_toArray, ints_length]; exact okTab_len okEnd
  have hsz : (Tryd.prog.info? 90).map (·.size) = some (ints endL).toArray.size := by rw [hl110]; exact endsSize
  have hold : Tryd.zeroCells90.size = (ints endL).toArray.size := by rw [hl110, endsZero]; rfl
  have hone : (ints endL).toArray.all (·.oneCell') = true := by simp only [List.all_toArray]; exact List.all_eq_true.2 (ints_oneCell' endL)
  have HEN := Lib.hid endings_any
  obtain ⟨E, hE⟩ : ∃ E, E = endL := ⟨_, rfl⟩
  rw [← hE] at HEN hsz hold hone
  have HEE := Lib.hid hE
  clear hE hl110
  go_enter Tryd.func45, Tryd.ntmps45
  go_wp2_with fail
  refine (count_any m w).mono ?_; rintro e w1 ⟨rfl, hb⟩
  rw [HE.out]
  have HB1 := Lib.hid hb
  clear hb
  go_wp2_with fail
  refine (within_any rank 0 (cm - 1) w1).mono ?_; rintro e w' ⟨rfl, rfl⟩
  rw [hw]
  go_wp2_with fail
  refine (HEN.out w1).mono ?_
  rintro e w2 ⟨rfl, hb⟩
  have HB2 := Lib.hid (HB1.out.trans (hb.mono HB1.out.size))
  clear hb
  go_wp2_with (refine wpList_store_row rfl _ (.tmp 8) (.tmp 29) rfl w2.heap.size (ints E).toArray rfl rfl _ _ (heap_alloc_new w2 _) hsz hold hone ?_)
  rw [World.setRow_alloc_new]
  have HBK := Lib.hid (Blk.new w2 90 (ints E).toArray)
  have HBW := Lib.hid (HB2.out.trans ((Below.refl _ _).alloc HB2.out.size (.cells (ints E).toArray 90)))
  have HGL : Hid (w.heap.size ≤ w2.heap.size) := HB2.out.size
  have hgw : w2.heap.size < (w2.alloc (.cells (ints E).toArray 90)).heap.size := by simp
  have HGW := Lib.hid hgw
  clear hgw
  generalize w2.alloc (.cells (ints E).toArray 90) = W at HBK HBW HGW ⊢
  generalize w2.heap.size = g at HBK HGL HGW ⊢
  clear hsz hold hone HEN HB1 HB2
  go_loopw [1, 9, 10, 31] (fun rr o b i wr => ∃ k : Nat, k ≤ m ∧ i = .int .i64 k ∧ rr = .int .i64 (unr m rank k).1 ∧ b = .int .i64 (blk (unr m rank k).2) ∧ ∃ Ao co, o = .slice Ao k co ∧ OwnI wr W.heap.size 3 Ao k co (unr m rank k).2 ∧ Below W.heap.size W wr) (fun _ _ _ i _ => m - (intOf i).toNat)
  case atStart => exact ⟨0, by omega, rfl, by rw [HU0.out], by rw [HU0.out]; rfl, none, 0, rfl, by rw [HU0.out]; exact OwnI.nil_ _ _ _, Below.refl _ _⟩
  case round =>
    obtain ⟨k, hk, rfl, rfl, rfl, Ao, co, rfl, hown, hbel⟩ := hrel
    have HO := Lib.hid hown
    have HB := Lib.hid hbel
    clear hown hbel
    by_cases hkm : k < m
    · obtain ⟨p, r, b, e, x, hu⟩ := HR.out k hkm
      have HU := Lib.hid hu
      rw [hu.now] at HO
      simp only at HO
      rw [hu.now]
      simp only
      rw [hu.blk]
      have hr0 := hu.r0
      have hr1 := hu.r1
      have hbk := hu.bk
      have he0 := hu.e0
      have he1 := hu.e1
      have hx0 := hu.x0
      have hx1 := hu.x1
      have hxe0 := hu.xe0
      have hxe1 := hu.xe1
      have hmin : min (b : Int) (r / e) = x := hu.x_.symm
      have HBL' := Lib.hid hu.blk'
      have hq0 : 0 ≤ r / e := Int.ediv_nonneg hr0 (by omega)
      have hq1 : r / e ≤ r := Int.ediv_le_self _ hr0
      have hsz := HB.out.size
      have hmk : (m : Int) - k - 1 = ((m - 1 - k : Nat) : Int) := by omega
      have hmk2 : m - 1 - k < 10 := by omega
      have hb11 : b < 11 := by omega
      have hen : (e == 0) = false := by simp; omega
      have hxe2 : x * e ≤ 1000000 := by omega
      have hrx0 : 0 ≤ r - x * e := by omega
      have hrx1 : r - x * e ≤ 1000000 := by omega
      have hce0 : W.cell? ⟨g, (m - 1 - k) * 11 + b, none⟩ = some (.int .i64 e) := by rw [HBK.out.cell, ints_arr_get (by rw [HEE.out]; exact hu.tab)]
      have hce := (HB.out.cell (p := ⟨g, (m - 1 - k) * 11 + b, none⟩) HGW.out).trans hce0
      clear hu hce0
      go_wp2_with (at_builtin; go_must (refine wpList_appI1 _ rfl (.tmp 52) (.tmp 54) rfl _ rfl rfl HO.out (v := x) (I64.small (by omega)) (by omega) hsz ?_); intro A' c' w' kk; have KK := Lib.hid kk; clear kk)
      go_roundw
      case rel => exact ⟨k + 1, by omega, by go_num, by rw [HU.out.next], by rw [HU.out.next, HBL'.out], A', c', rfl, by rw [HU.out.next]; exact KK.out.own, HB.out.trans KK.out.below⟩
      case measure => simp [intOf]; omega
    · obtain rfl : k = m := by omega
      have HBF := Lib.hid (HBW.out.trans (HB.out.mono HBW.out.size))
      have HOF := Lib.hid (HO.out.mono HBW.out.size)
      go_wp2
      go_ret2
      rw [HV.out]
      refine ⟨Ao, co, ?_, ?_, HBF.out⟩
      · show _ = _; rw [HLN.out]; rfl
      · show OwnI _ _ _ _ (unr k rank k).2.length _ _; rw [HLN.out]; exact HOF.out
end Go.Proofs.YtooepkpgffpcjaaDoor
