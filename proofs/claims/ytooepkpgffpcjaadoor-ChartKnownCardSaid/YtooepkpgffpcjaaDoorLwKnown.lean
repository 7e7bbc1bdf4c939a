/- Walk: the statement ChartKnown. -/
import Derived.Test.YtooepkpgffpcjaaDoorMgT
import Derived.Test.YtooepkpgffpcjaaDoorMgJ
namespace Go.Proofs.YtooepkpgffpcjaaDoor
open Go.RowKit

/-! ### Charts of the examples -/
def kd1 : List UInt8 := [111, 45, 45, 45, 111, 32, 32, 10, 124, 32, 111, 45, 120, 45, 111, 10, 124, 32, 124, 32, 124, 32, 124, 10]
def kd2 : List UInt8 := [111, 45, 45, 45, 45, 45, 111, 10, 124, 32, 111, 45, 111, 32, 124, 10, 124, 32, 124, 32, 124, 32, 124, 10]
def kd3 : List UInt8 := [111, 45, 45, 45, 111, 32, 124, 10, 124, 32, 124, 32, 124, 32, 124, 10, 124, 32, 124, 32, 124, 32, 124, 10]
theorem kd_d1 : drawE [0, 1, 0, 1] = (kd1, 0) := by decide +kernel
theorem kd_d2 : drawE [0, 1, 1, 0] = (kd2, 0) := by decide +kernel
theorem kd_d3 : drawE [0, 1, 0, 2] = (kd3, 0) := by decide +kernel
theorem kd_l1 : levE [0, 1, 0, 1] = ([1, 2], 0) := by decide +kernel
theorem kd_l2 : levE [0, 1, 1, 0] = ([1, 2], 0) := by decide +kernel
theorem kd_l3 : levE [0, 1, 0, 2] = ([1, 2, 1], 0) := by decide +kernel
/-- the literals of the examples, in the text's order -/
def litDr (w : World) : World :=
  (((((w.alloc (.cells #[.string ⟨#[65, 66, 65, 66]⟩, .string ⟨#[65, 66, 66, 65]⟩, .string ⟨#[65, 66, 65, 67]⟩] 9)).alloc (.cells (ints [1, 2]).toArray 3)).alloc (.cells (ints [1, 2]).toArray 3)).alloc (.cells (ints [1, 2, 1]).toArray 3)).alloc
    (.cells #[.slice (some ⟨w.heap.size + 1, 0, none⟩) 2 2, .slice (some ⟨w.heap.size + 1 + 1, 0, none⟩) 2 2, .slice (some ⟨w.heap.size + 1 + 1 + 1, 0, none⟩) 3 3] 22)).alloc (.cells #[.string ⟨kd1.toArray⟩, .string ⟨kd2.toArray⟩, .string ⟨kd3.toArray⟩] 9)
theorem alloc_sizeC (w : World) (o : Obj) : (w.alloc o).heap.size = w.heap.size + 1 := by simp
theorem rdI_atC (w : World) (t : TypeId) (l : List Int) (n q : Nat) (hq : w.heap.size = q) (hn : n ≤ 1000) (hl : l.length = n) (hi : ∀ v ∈ l, I64 v) : RdI (w.alloc (.cells (ints l).toArray t)) (some ⟨q, 0, none⟩) n l := by
  subst hq; exact rdI_litC w t l n hn hl hi
theorem blk_at (w : World) (t : TypeId) (cs : Array Value) (q : Nat) (hq : w.heap.size = q) : Blk (w.alloc (.cells cs t)) q t cs := by subst hq; exact Blk.new w t cs
/-- what a round of the drawings reads -/
structure DrR (s t : Nat) (W : World) (wd : ByteArray) (l lv : List Int) (B : Option Addr) (m : Nat) (d : List UInt8) : Prop where
  c0 : W.cell? ⟨s, t, none⟩ = some (.string wd)
  c1 : W.cell? ⟨s + 1 + 1 + 1 + 1, t, none⟩ = some (.slice B m m)
  c2 : W.cell? ⟨s + 1 + 1 + 1 + 1 + 1, t, none⟩ = some (.string ⟨d.toArray⟩)
  rd : RdI W B m lv
  of_ : ∀ W', Calls Tryd.prog 74 #[.string wd] W' (Copied l W')
  len : l.length = 4
  lev : levE l = (lv, 0)
  dr : drawE l = (d, 0)
  lt : s + 1 + 1 + 1 + 1 + 1 < W.heap.size
theorem litDr_rd (w : World) : (∀ t : Nat, t < 3 → ∀ W, Below (litDr w).heap.size (litDr w) W → ∃ wd l lv B m d, DrR w.heap.size t W wd l lv B m d) ∧ Below w.heap.size w (litDr w) := by
  have hb : ∀ (w1 : World) (o : Obj), Below w.heap.size w w1 → Below w.heap.size w (w1.alloc o) := fun w1 o hb => hb.alloc hb.size o
  have hbel : Below w.heap.size w (litDr w) := hb _ _ (hb _ _ (hb _ _ (hb _ _ (hb _ _ (hb _ _ (Below.refl _ w))))))
  refine ⟨fun t ht W hW => ?_, hbel⟩
  have k0 : Blk (litDr w) w.heap.size 9 #[.string ⟨#[65, 66, 65, 66]⟩, .string ⟨#[65, 66, 66, 65]⟩, .string ⟨#[65, 66, 65, 67]⟩] := (((((blk_at w _ _ w.heap.size rfl).alloc _).alloc _).alloc _).alloc _).alloc _
  have k1 : Blk (litDr w) (w.heap.size + 1 + 1 + 1 + 1) 22 #[.slice (some ⟨w.heap.size + 1, 0, none⟩) 2 2, .slice (some ⟨w.heap.size + 1 + 1, 0, none⟩) 2 2, .slice (some ⟨w.heap.size + 1 + 1 + 1, 0, none⟩) 3 3] := (blk_at _ _ _ _ (by simp)).alloc _
  have k2 : Blk (litDr w) (w.heap.size + 1 + 1 + 1 + 1 + 1) 9 #[.string ⟨kd1.toArray⟩, .string ⟨kd2.toArray⟩, .string ⟨kd3.toArray⟩] := blk_at _ _ _ _ (by simp)
  have r1 : RdI (litDr w) (some ⟨w.heap.size + 1, 0, none⟩) 2 [1, 2] := ((((rdI_atC _ 3 [1, 2] 2 _ (by simp) (by omega) rfl (by simp [I64])).alloc _).alloc _).alloc _).alloc _
  have r2 : RdI (litDr w) (some ⟨w.heap.size + 1 + 1, 0, none⟩) 2 [1, 2] := (((rdI_atC _ 3 [1, 2] 2 _ (by simp) (by omega) rfl (by simp [I64])).alloc _).alloc _).alloc _
  have r3 : RdI (litDr w) (some ⟨w.heap.size + 1 + 1 + 1, 0, none⟩) 3 [1, 2, 1] := ((rdI_atC _ 3 [1, 2, 1] 3 _ (by simp) (by omega) rfl (by simp [I64])).alloc _).alloc _
  have k0 := k0.below hW
  have k1 := k1.below hW
  have k2 := k2.below hW
  have hl := k2.lt
  match t, ht with
  | 0, _ => exact ⟨_, [0, 1, 0, 1], [1, 2], _, 2, kd1, by rw [k0.cell]; rfl, by rw [k1.cell]; rfl, by rw [k2.cell]; rfl, r1.below hW, of_ABAB, rfl, kd_l1, kd_d1, hl⟩
  | 1, _ => exact ⟨_, [0, 1, 1, 0], [1, 2], _, 2, kd2, by rw [k0.cell]; rfl, by rw [k1.cell]; rfl, by rw [k2.cell]; rfl, r2.below hW, of_ABBA, rfl, kd_l2, kd_d2, hl⟩
  | 2, _ => exact ⟨_, [0, 1, 0, 2], [1, 2, 1], _, 3, kd3, by rw [k0.cell]; rfl, by rw [k1.cell]; rfl, by rw [k2.cell]; rfl, r3.below hW, of_ABAC, rfl, kd_l3, kd_d3, hl⟩
theorem DrR.below {s t : Nat} {W W' : World} {wd : ByteArray} {l lv : List Int} {B : Option Addr} {m : Nat} {d : List UInt8} (h : DrR s t W wd l lv B m d) (hb : Below W.heap.size W W') : DrR s t W' wd l lv B m d :=
  ⟨(hb.cell (p := ⟨s, t, none⟩) (by have := h.lt; show s < _; omega)).trans h.c0, (hb.cell (p := ⟨s + 1 + 1 + 1 + 1, t, none⟩) (by have := h.lt; show s + 1 + 1 + 1 + 1 < _; omega)).trans h.c1, (hb.cell (p := ⟨s + 1 + 1 + 1 + 1 + 1, t, none⟩) h.lt).trans h.c2, h.rd.below hb, h.of_, h.len, h.lev, h.dr, Nat.lt_of_lt_of_le h.lt hb.size⟩

set_option maxHeartbeats 4000000 in
set_option maxRecDepth 100000 in
theorem drawn_any (w : World) (hs : Signs w) : Calls Tryd.prog 77 #[] w fun e w' => e = .returned (.bool true) ∧ Below w.heap.size w w' := by
  have HL := Lib.hid (litDr_rd w)
  have HSG := Lib.hid hs
  clear hs
  go_enter Tryd.func77, Tryd.ntmps77
  go_wp2_with fail
  go_loopw [4] (fun i wr => ∃ t : Nat, t ≤ 3 ∧ i = .int .i64 t ∧ Below (litDr w).heap.size (litDr w) wr) (fun i _ => 3 - (intOf i).toNat)
  case atStart => exact ⟨0, by omega, rfl, Below.refl _ _⟩
  case round =>
    obtain ⟨t, ht, rfl, hbel⟩ := hrel
    have HB := Lib.hid hbel
    have HBW := Lib.hid (HL.out.2.trans (hbel.mono HL.out.2.size))
    clear hbel
    by_cases hlt : t < 3
    · obtain ⟨wd, l, lv, B, m, d, hR⟩ := HL.out.1 t hlt wr HB.out
      have HR := Lib.hid hR
      have HLN := Lib.hid hR.len
      clear hR
      have c0 := HR.out.c0
      go_wp2_with fail
      refine (HR.out.of_ wr).mono ?_; rintro e w1 ⟨A1, k1, rfl, h1, b1⟩
      rw [HLN.out] at h1 ⊢
      have H1 := Lib.hid h1.rd
      have hc1 := h1.cap
      have HR1 := Lib.hid (HR.out.below b1)
      have HB1 := Lib.hid (HBW.out.trans (b1.mono HBW.out.size))
      have HN1 := Lib.hid (HB.out.trans (b1.mono HB.out.size))
      clear h1 b1 HR HB HBW c0
      go_wp2_with fail
      refine (levels_any A1 4 k1 l w1 H1.out hc1).mono ?_; rintro e w2 ⟨A2, k2, rfl, h2, b2⟩
      rw [HR1.out.lev] at h2 ⊢
      simp only at h2 ⊢
      have H2 := Lib.hid h2.rd
      have HR2 := Lib.hid (HR1.out.below b2)
      have HB2 := Lib.hid (HB1.out.trans (b2.mono HB1.out.size))
      have HN2 := Lib.hid (HN1.out.trans (b2.mono HN1.out.size))
      clear h2 b2 HR1 HB1 HN1 H1
      have c0 := HR2.out.c0
      go_wp2_with fail
      refine (HR2.out.of_ w2).mono ?_; rintro e w3 ⟨A3, k3, rfl, h3, b3⟩
      rw [HLN.out] at h3 ⊢
      have H3 := Lib.hid h3.rd
      have hc3 := h3.cap
      have H23 := Lib.hid (H2.out.below b3)
      have HR3 := Lib.hid (HR2.out.below b3)
      have HB3 := Lib.hid (HB2.out.trans (b3.mono HB2.out.size))
      have HN3 := Lib.hid (HN2.out.trans (b3.mono HN2.out.size))
      clear h3 b3 HR2 HB2 HN2 H2 c0
      go_wp2_with fail
      refine (Draw_any A3 4 k3 l w3 H3.out hc3 (HSG.out.below HB3.out)).mono ?_; rintro e w4 ⟨rfl, b4⟩
      rw [HR3.out.dr]
      simp only
      have H24 := Lib.hid (H23.out.below b4)
      have HR4 := Lib.hid (HR3.out.below b4)
      have HB4 := Lib.hid (HB3.out.trans (b4.mono HB3.out.size))
      have HN4 := Lib.hid (HN3.out.trans (b4.mono HN3.out.size))
      have hlm := HR4.out.rd.len
      have H25 : Hid (RdI w4 A2 m lv) := Lib.hid (by have := H24.out; rwa [hlm] at this)
      have HRD := Lib.hid HR4.out.rd
      clear b4 HR3 HB3 HN3 H3 H23 H24
      have c1 := HR4.out.c1
      have c2 := HR4.out.c2
      generalize (⟨d.toArray⟩ : ByteArray) = ds at c2 ⊢
      rw [hlm]
      clear hlm
      go_wp2_with fail
      refine (eq_any A2 B m m k2 m lv lv w4 H25.out HRD.out).mono ?_; rintro e w5 ⟨rfl, kk, hw⟩
      rw [beq_self_eq_true]
      have HN5 : Hid (Below (litDr w).heap.size (litDr w) w5) := Lib.hid (by rw [hw]; exact below_drewN HN4.out kk)
      clear hw HN4 HB4 HR4 H25 HRD c1 c2
      go_wp2
      go_roundw
      case rel => exact ⟨t + 1, by omega, by go_num, HN5.out⟩
      case measure => simp [intOf]; omega
    · have ht3 : (3 : Int) ≤ t := by omega
      go_wp2
      go_ret
      exact ⟨rfl, HBW.out⟩

/-! ### The checks -/
def litCh (w : World) : World :=
  (((((w.alloc (.cells (ints [0, 1, 0, 2]).toArray 3)).alloc (.cells (ints [1]).toArray 3)).alloc (.cells (ints [0, 2]).toArray 3)).alloc (.cells (ints [0, 9]).toArray 3)).alloc
    (.cells #[.slice (some ⟨w.heap.size, 0, none⟩) 4 4, .slice none 0 0, .slice (some ⟨w.heap.size + 1, 0, none⟩) 1 1, .slice (some ⟨w.heap.size + 1 + 1, 0, none⟩) 2 2, .slice (some ⟨w.heap.size + 1 + 1 + 1, 0, none⟩) 2 2] 22)).alloc (.cells (ints [0, 6, 11, 11, 2]).toArray 30)
theorem litCh_rd (w : World) : (∀ t : Nat, t < 5 → ∀ W, Below (litCh w).heap.size (litCh w) W → ∃ A n l z, W.cell? ⟨w.heap.size + 1 + 1 + 1 + 1, t, none⟩ = some (.slice A n n) ∧ W.cell? ⟨w.heap.size + 1 + 1 + 1 + 1 + 1, t, none⟩ = some (.int .i64 z) ∧ RdI W A n l ∧ chk l = z) ∧ Below w.heap.size w (litCh w) := by
  have hb : ∀ (w1 : World) (o : Obj), Below w.heap.size w w1 → Below w.heap.size w (w1.alloc o) := fun w1 o hb => hb.alloc hb.size o
  have hbel : Below w.heap.size w (litCh w) := hb _ _ (hb _ _ (hb _ _ (hb _ _ (hb _ _ (hb _ _ (Below.refl _ w))))))
  refine ⟨fun t ht W hW => ?_, hbel⟩
  have k1 : Blk (litCh w) (w.heap.size + 1 + 1 + 1 + 1) 22 #[.slice (some ⟨w.heap.size, 0, none⟩) 4 4, .slice none 0 0, .slice (some ⟨w.heap.size + 1, 0, none⟩) 1 1, .slice (some ⟨w.heap.size + 1 + 1, 0, none⟩) 2 2, .slice (some ⟨w.heap.size + 1 + 1 + 1, 0, none⟩) 2 2] := (blk_at _ _ _ _ (by simp)).alloc _
  have k2 : Blk (litCh w) (w.heap.size + 1 + 1 + 1 + 1 + 1) 30 (ints [0, 6, 11, 11, 2]).toArray := blk_at _ _ _ _ (by simp)
  have r1 : RdI (litCh w) (some ⟨w.heap.size, 0, none⟩) 4 [0, 1, 0, 2] := (((((rdI_atC _ 3 [0, 1, 0, 2] 4 _ (by simp) (by omega) rfl (by simp [I64])).alloc _).alloc _).alloc _).alloc _).alloc _
  have r2 : RdI (litCh w) (some ⟨w.heap.size + 1, 0, none⟩) 1 [1] := ((((rdI_atC _ 3 [1] 1 _ (by simp) (by omega) rfl (by simp [I64])).alloc _).alloc _).alloc _).alloc _
  have r3 : RdI (litCh w) (some ⟨w.heap.size + 1 + 1, 0, none⟩) 2 [0, 2] := (((rdI_atC _ 3 [0, 2] 2 _ (by simp) (by omega) rfl (by simp [I64])).alloc _).alloc _).alloc _
  have r4 : RdI (litCh w) (some ⟨w.heap.size + 1 + 1 + 1, 0, none⟩) 2 [0, 9] := ((rdI_atC _ 3 [0, 9] 2 _ (by simp) (by omega) rfl (by simp [I64])).alloc _).alloc _
  have k1 := k1.below hW
  have k2 := k2.below hW
  match t, ht with
  | 0, _ => exact ⟨_, 4, [0, 1, 0, 2], 0, by rw [k1.cell]; rfl, by rw [k2.cell]; rfl, r1.below hW, by decide⟩
  | 1, _ => exact ⟨_, 0, [], 6, by rw [k1.cell]; rfl, by rw [k2.cell]; rfl, RdI.nil_, by decide⟩
  | 2, _ => exact ⟨_, 1, [1], 11, by rw [k1.cell]; rfl, by rw [k2.cell]; rfl, r2.below hW, by decide⟩
  | 3, _ => exact ⟨_, 2, [0, 2], 11, by rw [k1.cell]; rfl, by rw [k2.cell]; rfl, r3.below hW, by decide⟩
  | 4, _ => exact ⟨_, 2, [0, 9], 2, by rw [k1.cell]; rfl, by rw [k2.cell]; rfl, r4.below hW, by decide⟩

set_option maxHeartbeats 4000000 in
set_option maxRecDepth 100000 in
theorem chartKnown_any (w : World) (hs : Signs w) : Calls Tryd.prog 17 #[] w (Held w) := by
  have HC := Lib.hid (litCh_rd w)
  have HSG := Lib.hid hs
  clear hs
  go_enter Tryd.func17, Tryd.ntmps17
  go_wp2_with fail
  go_loopw [3] (fun i wr => ∃ t : Nat, t ≤ 5 ∧ i = .int .i64 t ∧ Below (litCh w).heap.size (litCh w) wr) (fun i _ => 5 - (intOf i).toNat)
  case atStart => exact ⟨0, by omega, rfl, Below.refl _ _⟩
  case round =>
    obtain ⟨t, ht, rfl, hbel⟩ := hrel
    have HB := Lib.hid hbel
    have HBW := Lib.hid (HC.out.2.trans (hbel.mono HC.out.2.size))
    clear hbel
    by_cases hlt : t < 5
    · obtain ⟨A, n, l, z, c0, c1, hr, hz⟩ := HC.out.1 t hlt wr HB.out
      have HRD := Lib.hid hr
      have HCK : Hid (∀ W, RdI W A n l → Calls Tryd.prog 31 #[.slice A n n] W fun e w' => e = .returned (.int .i64 z) ∧ W = w') := Lib.hid (fun W hW => by rw [← hz]; exact check_any A n n l W hW)
      clear hr hz
      go_upto_region 5 with fail
      go_region_held3 (fun w' => w'.cell? ⟨w.heap.size + 1 + 1 + 1 + 1, t, none⟩ = some (.slice A n n) ∧ w'.cell? ⟨w.heap.size + 1 + 1 + 1 + 1 + 1, t, none⟩ = some (.int .i64 z)) (first | exact ⟨c0, c1⟩) (first
        | (go_at_call 31; (with_reducible refine (HCK.out wr.drew HRD.out.drew).mono ?_); rintro e w5 ⟨rfl, rfl⟩))
      all_goals
        go_wp2
        go_roundw
        case rel => exact ⟨t + 1, by omega, by go_num, HB.out.drew⟩
        case measure => simp [intOf]; omega
    · have ht5 : (5 : Int) ≤ t := by omega
      clear HB HC
      have HB0 := HBW
      clear HBW
      go_wp2_with fail
      obtain ⟨w1, hw⟩ : ∃ W : World, W = wr.alloc (.cells #[.int .i64 7, .int .i64 (-3), .int .i64 7, .int .i64 0] 3) := ⟨_, rfl⟩
      have Hx1 : Hid (RdI w1 (some ⟨wr.heap.size, 0, none⟩) 4 [7, -3, 7, 0]) := Lib.hid (by rw [hw]; exact rdI_litC wr 3 [7, -3, 7, 0] 4 (by omega) rfl (by simp [I64]))
      have hwb : Below wr.heap.size wr w1 := by rw [hw]; exact (Below.refl _ _).alloc (Nat.le_refl _) _
      rw [← hw]
      have HB1 := Lib.hid (HB0.out.trans (hwb.mono HB0.out.size))
      clear hw hwb HB0
      go_wp2_with fail
      refine (progOf_any (some ⟨wr.heap.size, 0, none⟩) 4 4 [7, -3, 7, 0] w1 Hx1.out).mono ?_; rintro e w2 ⟨Aa, ca, rfl, h, b⟩
      rw [kc_of] at h ⊢
      simp only [List.length_cons, List.length_nil, Nat.reduceAdd] at h ⊢
      have Ha2 := Lib.hid h.rd
      have hca := h.cap
      have Hx2 := Lib.hid (Hx1.out.below b)
      have HB2 := Lib.hid (HB1.out.trans (b.mono HB1.out.size))
      clear Hx1 HB1 b h
      clear Hx2
      go_wp2_with fail
      refine (count_any 4 w2).mono ?_; rintro e w3 ⟨rfl, b⟩
      rw [kc_c4]
      have Ha3 := Lib.hid (Ha2.out.below b)
      have HB3 := Lib.hid (HB2.out.trans (b.mono HB2.out.size))
      clear Ha2 HB2 b
      go_wp2_with fail
      refine (count_any 9 w3).mono ?_; rintro e w4 ⟨rfl, b⟩
      rw [kc_c9]
      have Ha4 := Lib.hid (Ha3.out.below b)
      have HB4 := Lib.hid (HB3.out.trans (b.mono HB3.out.size))
      clear Ha3 HB3 b
      go_wp2_with fail
      refine (partedP_any 4 2 w4).mono ?_; rintro e w5 ⟨rfl, b⟩
      rw [kc_q2]
      have Ha5 := Lib.hid (Ha4.out.below b)
      have HB5 := Lib.hid (HB4.out.trans (b.mono HB4.out.size))
      clear Ha4 HB4 b
      go_wp2_with fail
      refine (partedP_any 4 4 w5).mono ?_; rintro e w6 ⟨rfl, b⟩
      rw [kc_q4]
      have Ha6 := Lib.hid (Ha5.out.below b)
      have HB6 := Lib.hid (HB5.out.trans (b.mono HB5.out.size))
      clear Ha5 HB5 b
      go_wp2_with fail
      refine (of_ABAC w6).mono ?_; rintro e w7 ⟨Ax, cx, rfl, h, b⟩
      have Hx7 := Lib.hid h.rd
      have hcx := h.cap
      have Ha7 := Lib.hid (Ha6.out.below b)
      have HB7 := Lib.hid (HB6.out.trans (b.mono HB6.out.size))
      clear Ha6 HB6 b h
      go_wp2_with fail
      refine (eq_any Aa Ax 4 4 ca cx [0, 1, 0, 2] [0, 1, 0, 2] w7 Ha7.out Hx7.out).mono ?_; rintro e w8 ⟨rfl, kk, hw⟩
      rw [beq_self_eq_true]
      have Ha8 : Hid (RdI w8 Aa 4 [0, 1, 0, 2]) := Lib.hid (by rw [hw]; exact Ha7.out.drewN kk)
      have Hx8 : Hid (RdI w8 Ax 4 [0, 1, 0, 2]) := Lib.hid (by rw [hw]; exact Hx7.out.drewN kk)
      have HB8 : Hid (Below w.heap.size w w8) := Lib.hid (by rw [hw]; exact below_drewN HB7.out kk)
      clear hw Ha7 Hx7 HB7
      clear Ha8 Hx8
      go_wp2_with fail
      refine (awake_any w8 (HSG.out.below HB8.out)).mono ?_; rintro e w9 ⟨rfl, b⟩
      have HB9 := Lib.hid (HB8.out.trans (b.mono HB8.out.size))
      clear HB8 b
      go_wp2_with fail
      refine (ranked_any w9).mono ?_; rintro e w10 ⟨rfl, b⟩
      have HB10 := Lib.hid (HB9.out.trans (b.mono HB9.out.size))
      clear HB9 b
      go_wp2_with fail
      refine (latticed_any w10).mono ?_; rintro e w11 ⟨rfl, b⟩
      have HB11 := Lib.hid (HB10.out.trans (b.mono HB10.out.size))
      clear HB10 b
      go_wp2_with fail
      refine (drawn_any w11 (HSG.out.below HB11.out)).mono ?_; rintro e w12 ⟨rfl, b⟩
      have HB12 := Lib.hid (HB11.out.trans (b.mono HB11.out.size))
      clear HB11 b
      go_wp2_with fail
      refine (named_any w12).mono ?_; rintro e w13 ⟨rfl, b⟩
      have HB13 := Lib.hid (HB12.out.trans (b.mono HB12.out.size))
      clear HB12 b
      go_wp2
      go_ret
      exact ⟨rfl, HB13.out⟩
end Go.Proofs.YtooepkpgffpcjaaDoor
