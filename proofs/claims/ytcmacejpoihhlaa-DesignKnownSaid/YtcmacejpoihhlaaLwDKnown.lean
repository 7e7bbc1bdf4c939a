/- Walk: the statement DesignKnown. -/
import Derived.Test.YtcmacejpoihhlaaMgV
namespace Go.Proofs.Ytcmacejpoihhlaa
open Go.RowKit

/-- the three stocks, after their fields are set -/
def litK (w : World) (g : Nat) : World :=
  (((w.alloc (.cells #[.slice none 0 0, .int .i64 3] 24)).alloc (.cells #[.slice (some ⟨w.heap.size + 1 + 1 + 1, 0, none⟩) 2 2, .int .i64 3] 24)).alloc (.cells #[.slice (some ⟨g, 0, none⟩) 2 2, .int .i64 5] 24)).alloc (.cells (ints [2, 0]).toArray 3)
structure LitK (s g : Nat) (W : World) : Prop where
  a0 : W.cell? ⟨s, 0, none⟩ = some (.slice none 0 0)
  a1 : W.cell? ⟨s, 1, none⟩ = some (.int .i64 3)
  b0 : W.cell? ⟨s + 1, 0, none⟩ = some (.slice (some ⟨s + 1 + 1 + 1, 0, none⟩) 2 2)
  b1 : W.cell? ⟨s + 1, 1, none⟩ = some (.int .i64 3)
  c0 : W.cell? ⟨s + 1 + 1, 0, none⟩ = some (.slice (some ⟨g, 0, none⟩) 2 2)
  c1 : W.cell? ⟨s + 1 + 1, 1, none⟩ = some (.int .i64 5)
  rb : RdI W (some ⟨s + 1 + 1 + 1, 0, none⟩) 2 [2, 0]
  rc : RdI W (some ⟨g, 0, none⟩) 2 [2, 2]
  lt : s + 1 + 1 < W.heap.size
theorem LitK.below {s g : Nat} {W W' : World} (h : LitK s g W) (hb : Below W.heap.size W W') : LitK s g W' :=
  ⟨(hb.cell (p := ⟨s, 0, none⟩) (by have := h.lt; show s < _; omega)).trans h.a0, (hb.cell (p := ⟨s, 1, none⟩) (by have := h.lt; show s < _; omega)).trans h.a1, (hb.cell (p := ⟨s + 1, 0, none⟩) (by have := h.lt; show s + 1 < _; omega)).trans h.b0, (hb.cell (p := ⟨s + 1, 1, none⟩) (by have := h.lt; show s + 1 < _; omega)).trans h.b1, (hb.cell (p := ⟨s + 1 + 1, 0, none⟩) h.lt).trans h.c0, (hb.cell (p := ⟨s + 1 + 1, 1, none⟩) h.lt).trans h.c1, h.rb.below hb, h.rc.below hb, Nat.lt_of_lt_of_le h.lt hb.size⟩
theorem litK_rd (w : World) (g : Nat) (h : RdI w (some ⟨g, 0, none⟩) 2 [2, 2]) : LitK w.heap.size g (litK w g) ∧ Below w.heap.size w (litK w g) := by
  have hb : ∀ (w1 : World) (o : Obj), Below w.heap.size w w1 → Below w.heap.size w (w1.alloc o) := fun w1 o hb => hb.alloc hb.size o
  have hbel : Below w.heap.size w (litK w g) := hb _ _ (hb _ _ (hb _ _ (hb _ _ (Below.refl _ w))))
  have k0 : Blk (litK w g) w.heap.size 24 #[.slice none 0 0, .int .i64 3] := (((Blk.new w _ _).alloc _).alloc _).alloc _
  have k1 : Blk (litK w g) (w.heap.size + 1) 24 #[.slice (some ⟨w.heap.size + 1 + 1 + 1, 0, none⟩) 2 2, .int .i64 3] := by
    have := ((Blk.new (w.alloc (.cells #[.slice none 0 0, .int .i64 3] 24)) 24 #[.slice (some ⟨w.heap.size + 1 + 1 + 1, 0, none⟩) 2 2, .int .i64 3]).alloc (.cells #[.slice (some ⟨g, 0, none⟩) 2 2, .int .i64 5] 24)).alloc (.cells (ints [2, 0]).toArray 3)
    rwa [alloc_size] at this
  have k2 : Blk (litK w g) (w.heap.size + 1 + 1) 24 #[.slice (some ⟨g, 0, none⟩) 2 2, .int .i64 5] := by
    have := (Blk.new ((w.alloc (.cells #[.slice none 0 0, .int .i64 3] 24)).alloc (.cells #[.slice (some ⟨w.heap.size + 1 + 1 + 1, 0, none⟩) 2 2, .int .i64 3] 24)) 24 #[.slice (some ⟨g, 0, none⟩) 2 2, .int .i64 5]).alloc (.cells (ints [2, 0]).toArray 3)
    rwa [alloc_size, alloc_size] at this
  exact ⟨⟨by rw [k0.cell]; rfl, by rw [k0.cell]; rfl, by rw [k1.cell]; rfl, by rw [k1.cell]; rfl, by rw [k2.cell]; rfl, by rw [k2.cell]; rfl, rdI_at _ 3 [2, 0] 2 _ (by rw [alloc_size, alloc_size, alloc_size]) (by omega) rfl (by simp [I64]), h.below hbel, k2.lt⟩, hbel⟩

set_option maxHeartbeats 4000000 in
set_option maxRecDepth 100000 in
theorem designKnown_any (w : World) : Calls Try.prog 15 #[] w fun e w' => e = .returned (.bool true) ∧ Below w.heap.size w w' := by
  go_enter Try.func15, Try.ntmps15
  go_wp2_with fail
  refine (two_any w).mono ?_; rintro e w1 ⟨g1, rfl, h1, b1⟩
  have H1 := Lib.hid (show RdI w1 (some ⟨g1, 0, none⟩) 2 [2, 2] from h1)
  have B1 := Lib.hid b1
  clear h1 b1
  go_wp2_with fail
  refine (two_any w1).mono ?_; rintro e w2 ⟨g2, rfl, h2, b2⟩
  have H2 := Lib.hid (show RdI w2 (some ⟨g2, 0, none⟩) 2 [2, 2] from h2)
  have B2 := Lib.hid (B1.out.trans (b2.mono B1.out.size))
  clear h2 b2 H1 B1
  go_wp2_with fail
  refine (two_any w2).mono ?_; rintro e w3 ⟨g3, rfl, h3, b3⟩
  have H3 := Lib.hid (show RdI w3 (some ⟨g3, 0, none⟩) 2 [2, 2] from h3)
  have B3 := Lib.hid (B2.out.trans (b3.mono B2.out.size))
  clear h3 b3 H2 B2
  have HK0 := Lib.hid (litK_rd w3 g3 H3.out)
  have BK0 := Lib.hid (B3.out.trans (HK0.out.2.mono B3.out.size))
  clear H3 B3
  go_wp2_with fail
  refine (awake5_any (litK w3 g3)).mono ?_; rintro e w5 ⟨rfl, b5⟩
  have HK := Lib.hid (HK0.out.1.below b5)
  have BK := Lib.hid (BK0.out.trans (b5.mono BK0.out.size))
  clear b5 HK0 BK0
  generalize w3.heap.size = s at HK ⊢
  go_wp2_with fail
  refine (two_any w5).mono ?_; rintro e w6 ⟨g6, rfl, h6, b6⟩
  have H6 := Lib.hid (show RdI w6 (some ⟨g6, 0, none⟩) 2 [2, 2] from h6)
  have HK1 := Lib.hid (HK.out.below b6)
  have BK1 := Lib.hid (BK.out.trans (b6.mono BK.out.size))
  clear h6 b6 HK BK
  go_wp2_with fail
  refine (checkS_any (some ⟨g6, 0, none⟩) 2 2 [2, 2] 3 w6 H6.out (by simp [I64])).mono ?_; rintro e w7 ⟨rfl, b7⟩
  rw [kn_chk]
  have HK2 := Lib.hid (HK1.out.below b7)
  have BK2 := Lib.hid (BK1.out.trans (b7.mono BK1.out.size))
  clear b7 HK1 BK1 H6
  have a0 := HK2.out.a0
  have a1 := HK2.out.a1
  go_wp2_with fail
  refine (checkS_any none 0 0 [] 3 w7 RdI.nil_ (by simp [I64])).mono ?_; rintro e w8 ⟨rfl, b8⟩
  rw [kn_chk1]
  have HK3 := Lib.hid (HK2.out.below b8)
  have BK3 := Lib.hid (BK2.out.trans (b8.mono BK2.out.size))
  clear b8 HK2 BK2 a0 a1
  have a0 := HK3.out.b0
  have a1 := HK3.out.b1
  go_wp2_with fail
  refine (checkS_any (some ⟨s + 1 + 1 + 1, 0, none⟩) 2 2 [2, 0] 3 w8 HK3.out.rb (by simp [I64])).mono ?_; rintro e w9 ⟨rfl, b9⟩
  rw [kn_chk2]
  have HK4 := Lib.hid (HK3.out.below b9)
  have BK4 := Lib.hid (BK3.out.trans (b9.mono BK3.out.size))
  clear b9 HK3 BK3 a0 a1
  have a0 := HK4.out.c0
  have a1 := HK4.out.c1
  go_wp2_with fail
  refine (checkS_any (some ⟨g3, 0, none⟩) 2 2 [2, 2] 5 w9 HK4.out.rc (by simp [I64])).mono ?_; rintro e w10 ⟨rfl, b10⟩
  rw [kn_chk3]
  have B10 := Lib.hid (BK4.out.trans (b10.mono BK4.out.size))
  clear b10 HK4 BK4 a0 a1
  go_wp2_with fail
  refine (oneS_any w10).mono ?_; rintro e w11 ⟨g11, rfl, h11, b11⟩
  have H11 := Lib.hid (show RdI w11 (some ⟨g11, 0, none⟩) 2 [3, 1] from h11)
  have B11 := Lib.hid (B10.out.trans (b11.mono B10.out.size))
  clear h11 b11 B10
  go_wp2_with fail
  refine (ways_any (some ⟨g11, 0, none⟩) 2 2 [3, 1] 4 w11 H11.out (by simp [I64])).mono ?_; rintro e w12 ⟨rfl, b12⟩
  rw [kn_ways1]
  have B12 := Lib.hid (B11.out.trans (b12.mono B11.out.size))
  clear b12 B11 H11
  go_wp2_with fail
  have HL := Lib.hid (rdI_lit w12 3 [9, 9, 9, 9, 9, 9] 6 (by omega) rfl (by simp [I64]))
  have BL := Lib.hid (B12.out.alloc B12.out.size (.cells (ints [9, 9, 9, 9, 9, 9]).toArray 3))
  refine (ways_any (some ⟨w12.heap.size, 0, none⟩) 6 6 [9, 9, 9, 9, 9, 9] 9 _ HL.out (by simp [I64])).mono ?_; rintro e w13 ⟨rfl, b13⟩
  rw [kn_ways2]
  have B13 := Lib.hid (BL.out.trans (b13.mono BL.out.size))
  clear b13 B12 HL BL
  go_wp2_with fail
  refine (two_any w13).mono ?_; rintro e w14 ⟨g14, rfl, h14, b14⟩
  have H14 := Lib.hid ((show RdI w14 (some ⟨g14, 0, none⟩) 2 [2, 2] from h14).alloc (.cells (ints [0, 0, 1]).toArray 3))
  have HL := Lib.hid (rdI_lit w14 3 [0, 0, 1] 3 (by omega) rfl (by simp [I64]))
  have hb := B13.out.trans (b14.mono B13.out.size)
  have BL := Lib.hid (hb.alloc hb.size (.cells (ints [0, 0, 1]).toArray 3))
  clear h14 b14 hb B13
  go_wp2_with fail
  refine (chancePE_any (some ⟨g14, 0, none⟩) (some ⟨w14.heap.size, 0, none⟩) 2 2 3 3 [2, 2] [0, 0, 1] 3 _ H14.out HL.out (by simp [I64])).mono ?_; rintro e w15 ⟨rfl, b15⟩
  rw [kn_ch1]
  have B15 := Lib.hid (BL.out.trans (b15.mono BL.out.size))
  clear b15 H14 HL BL
  go_wp2_with fail
  refine (two_any w15).mono ?_; rintro e w16 ⟨g16, rfl, h16, b16⟩
  have H16 := Lib.hid ((show RdI w16 (some ⟨g16, 0, none⟩) 2 [2, 2] from h16).alloc (.cells (ints [0, 0, 0]).toArray 3))
  have HL := Lib.hid (rdI_lit w16 3 [0, 0, 0] 3 (by omega) rfl (by simp [I64]))
  have hb := B15.out.trans (b16.mono B15.out.size)
  have BL := Lib.hid (hb.alloc hb.size (.cells (ints [0, 0, 0]).toArray 3))
  clear h16 b16 hb B15
  go_wp2_with fail
  refine (chancePE_any (some ⟨g16, 0, none⟩) (some ⟨w16.heap.size, 0, none⟩) 2 2 3 3 [2, 2] [0, 0, 0] 3 _ H16.out HL.out (by simp [I64])).mono ?_; rintro e w17 ⟨rfl, b17⟩
  rw [kn_ch2]
  have B17 := Lib.hid (BL.out.trans (b17.mono BL.out.size))
  clear b17 H16 HL BL
  go_wp2_with fail
  refine (two_any w17).mono ?_; rintro e w18 ⟨g18, rfl, h18, b18⟩
  have H18 := Lib.hid ((show RdI w18 (some ⟨g18, 0, none⟩) 2 [2, 2] from h18).alloc (.cells (ints [0, 1]).toArray 3))
  have HL := Lib.hid (rdI_lit w18 3 [0, 1] 2 (by omega) rfl (by simp [I64]))
  have hb := B17.out.trans (b18.mono B17.out.size)
  have BL := Lib.hid (hb.alloc hb.size (.cells (ints [0, 1]).toArray 3))
  clear h18 b18 hb B17
  go_wp2_with fail
  refine (chancePE_any (some ⟨g18, 0, none⟩) (some ⟨w18.heap.size, 0, none⟩) 2 2 2 2 [2, 2] [0, 1] 3 _ H18.out HL.out (by simp [I64])).mono ?_; rintro e w19 ⟨rfl, b19⟩
  have hk3 := kn_ch3
  obtain ⟨⟨xa, xe⟩, hx⟩ : ∃ x, chanceE [2, 2] 3 [0, 1] = x := ⟨_, rfl⟩
  rw [hx] at hk3 ⊢
  simp only at hk3 ⊢
  subst hk3
  have B19 := Lib.hid (BL.out.trans (b19.mono BL.out.size))
  clear b19 H18 HL BL hx
  go_wp2_with fail
  refine (two_any w19).mono ?_; rintro e w20 ⟨g20, rfl, h20, b20⟩
  have H20 := Lib.hid (show RdI w20 (some ⟨g20, 0, none⟩) 2 [2, 2] from h20)
  have B20 := Lib.hid (B19.out.trans (b20.mono B19.out.size))
  clear h20 b20 B19
  go_wp2_with fail
  refine (guessP_any (some ⟨g20, 0, none⟩) 2 2 [2, 2] 3 w20 H20.out (by simp [I64])).mono ?_; rintro e w21 ⟨A1, c1, rfl, h21, b21⟩
  rw [kn_gs1] at h21 ⊢
  simp only [List.length_cons, List.length_nil, Nat.reduceAdd] at h21 ⊢
  have HG1 := Lib.hid h21.rd
  have B21 := Lib.hid (B20.out.trans (b21.mono B20.out.size))
  clear h21 b21 B20 H20
  go_wp2_with fail
  refine (oneS_any w21).mono ?_; rintro e w22 ⟨g22, rfl, h22, b22⟩
  have H22 := Lib.hid (show RdI w22 (some ⟨g22, 0, none⟩) 2 [3, 1] from h22)
  have HG2 := Lib.hid (HG1.out.below b22)
  have B22 := Lib.hid (B21.out.trans (b22.mono B21.out.size))
  clear h22 b22 B21 HG1
  go_wp2_with fail
  refine (guessP_any (some ⟨g22, 0, none⟩) 2 2 [3, 1] 4 w22 H22.out (by simp [I64])).mono ?_; rintro e w23 ⟨A2, c2, rfl, h23, b23⟩
  rw [kn_gs2] at h23 ⊢
  simp only [List.length_cons, List.length_nil, Nat.reduceAdd] at h23 ⊢
  have HH := Lib.hid (h23.rd.alloc (.cells (ints [0, 0, 1]).toArray 3))
  have HG := Lib.hid ((HG2.out.below b23).alloc (.cells (ints [0, 0, 1]).toArray 3))
  have hb := B22.out.trans (b23.mono B22.out.size)
  have BL := Lib.hid (hb.alloc hb.size (.cells (ints [0, 0, 1]).toArray 3))
  have HL := Lib.hid (rdI_lit w23 3 [0, 0, 1] 3 (by omega) rfl (by simp [I64]))
  clear h23 b23 hb B22 H22 HG2
  go_wp2_with fail
  refine (eq_any A1 (some ⟨w23.heap.size, 0, none⟩) 3 3 c1 3 [0, 0, 1] [0, 0, 1] _ HG.out HL.out).mono ?_; rintro e w24 ⟨rfl, k, hw⟩
  rw [beq_self_eq_true]
  have HH1 : Hid (RdI w24 A2 4 [0, 0, 0, 1]) := Lib.hid (by rw [hw]; exact HH.out.drewN k)
  have B24 : Hid (Below w.heap.size w w24) := Lib.hid (by rw [hw]; exact below_drewN BL.out k)
  clear hw HH HG BL HL
  go_wp2_with fail
  have HL := Lib.hid (rdI_lit w24 3 [0, 0, 0, 1] 4 (by omega) rfl (by simp [I64]))
  have HH2 := Lib.hid (HH1.out.alloc (.cells (ints [0, 0, 0, 1]).toArray 3))
  have BL := Lib.hid (B24.out.alloc B24.out.size (.cells (ints [0, 0, 0, 1]).toArray 3))
  refine (eq_any A2 (some ⟨w24.heap.size, 0, none⟩) 4 4 c2 4 [0, 0, 0, 1] [0, 0, 0, 1] _ HH2.out HL.out).mono ?_; rintro e w25 ⟨rfl, k, hw⟩
  rw [beq_self_eq_true]
  have B25 : Hid (Below w.heap.size w w25) := Lib.hid (by rw [hw]; exact below_drewN BL.out k)
  clear hw HH1 HH2 BL HL B24
  go_wp2_with fail
  refine (countedX_any w25).mono ?_; rintro e w26 ⟨rfl, b26⟩
  have B26 := Lib.hid (B25.out.trans (b26.mono B25.out.size))
  clear b26 B25
  go_wp2_with fail
  refine (seated_any w26).mono ?_; rintro e w27 ⟨rfl, b27⟩
  have B27 := Lib.hid (B26.out.trans (b27.mono B26.out.size))
  clear b27 B26
  go_wp2
  go_ret
  exact ⟨rfl, B27.out⟩
end Go.Proofs.Ytcmacejpoihhlaa
