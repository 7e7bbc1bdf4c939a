/- Walks: the chapter's examples of the charts. (Printed by genknown.py.) -/
import Derived.Test.YtooepkpgffpcjaaDoorMgR
import Derived.Test.YtooepkpgffpcjaaDoorMgM
import Derived.Test.YtooepkpgffpcjaaDoorMgS
import Derived.Test.YtooepkpgffpcjaaDoorMgH
import Derived.Test.YtooepkpgffpcjaaDoorMgC
import Derived.Test.YtooepkpgffpcjaaDoorMgJ
import Derived.Test.YtooepkpgffpcjaaDoorMgQ
namespace Go.Proofs.YtooepkpgffpcjaaDoor
open Go.RowKit

theorem of_ABCD (w : World) : Calls Tryd.prog 74 #[.string ⟨#[65, 66, 67, 68]⟩] w (Copied [0, 1, 2, 3] w) := of_any ⟨#[65, 66, 67, 68]⟩ w (by decide)
theorem of_ABCC (w : World) : Calls Tryd.prog 74 #[.string ⟨#[65, 66, 67, 67]⟩] w (Copied [0, 1, 2, 2] w) := of_any ⟨#[65, 66, 67, 67]⟩ w (by decide)
theorem of_AABC (w : World) : Calls Tryd.prog 74 #[.string ⟨#[65, 65, 66, 67]⟩] w (Copied [0, 0, 1, 2] w) := of_any ⟨#[65, 65, 66, 67]⟩ w (by decide)
theorem of_ABBB (w : World) : Calls Tryd.prog 74 #[.string ⟨#[65, 66, 66, 66]⟩] w (Copied [0, 1, 1, 1] w) := of_any ⟨#[65, 66, 66, 66]⟩ w (by decide)
theorem of_ABBC (w : World) : Calls Tryd.prog 74 #[.string ⟨#[65, 66, 66, 67]⟩] w (Copied [0, 1, 1, 2] w) := of_any ⟨#[65, 66, 66, 67]⟩ w (by decide)
theorem of_A (w : World) : Calls Tryd.prog 74 #[.string ⟨#[65]⟩] w (Copied [0] w) := of_any ⟨#[65]⟩ w (by decide)
theorem of_AA (w : World) : Calls Tryd.prog 74 #[.string ⟨#[65, 65]⟩] w (Copied [0, 0] w) := of_any ⟨#[65, 65]⟩ w (by decide)
theorem of_AAAA (w : World) : Calls Tryd.prog 74 #[.string ⟨#[65, 65, 65, 65]⟩] w (Copied [0, 0, 0, 0] w) := of_any ⟨#[65, 65, 65, 65]⟩ w (by decide)
theorem of_AAAB (w : World) : Calls Tryd.prog 74 #[.string ⟨#[65, 65, 65, 66]⟩] w (Copied [0, 0, 0, 1] w) := of_any ⟨#[65, 65, 65, 66]⟩ w (by decide)
theorem of_AABA (w : World) : Calls Tryd.prog 74 #[.string ⟨#[65, 65, 66, 65]⟩] w (Copied [0, 0, 1, 0] w) := of_any ⟨#[65, 65, 66, 65]⟩ w (by decide)
theorem of_AB (w : World) : Calls Tryd.prog 74 #[.string ⟨#[65, 66]⟩] w (Copied [0, 1] w) := of_any ⟨#[65, 66]⟩ w (by decide)
theorem of_ABBA (w : World) : Calls Tryd.prog 74 #[.string ⟨#[65, 66, 66, 65]⟩] w (Copied [0, 1, 1, 0] w) := of_any ⟨#[65, 66, 66, 65]⟩ w (by decide)
theorem kc_u1 : unrankE 4 14 = ([0, 1, 2, 3], 0) := by decide +kernel
theorem kc_u2 : unrankE 4 15 = ([], 7) := by decide +kernel
theorem kc_n1 : nextE [0, 0, 1, 1] = ([0, 0, 1, 2], 0) := by decide +kernel
theorem kc_n2 : nextE [0, 1, 2, 2] = ([0, 1, 2, 3], 0) := by decide +kernel
theorem kc_n3 : nextE [0, 1, 2, 3] = ([], 7) := by decide +kernel
theorem kc_m : meetE [0, 0, 1, 1] [0, 1, 1, 1] = ([0, 1, 2, 2], 0) := by decide +kernel
theorem kc_f1 : finE [0, 1, 2, 2] [0, 0, 1, 1] = (true, 0) := by decide +kernel
theorem kc_f2 : finE [0, 0, 1, 1] [0, 1, 2, 2] = (false, 0) := by decide +kernel
theorem kc_f3 : finE [0] [0, 0] = (false, 12) := by decide +kernel
theorem kc_v1 : movesP [0, 0, 0, 0] [0, 1, 2, 3] = (3, 0) := by decide +kernel
theorem kc_v2 : movesP [0, 0, 0, 1] [0, 0, 1, 0] = (2, 0) := by decide +kernel
theorem kc_s : spellE [0, 1, 2, 0] = ([65, 66, 67, 65], 0) := by decide +kernel
theorem kc_p1 : parseE [66, 65] = ([], 3) := by decide +kernel
theorem kc_p2 : parseE [65, 65, 66] = ([0, 0, 1], 0) := by decide +kernel
theorem kc_t : titleE [[107, 105, 114, 105], [104, 97, 110, 97]] [0, 1] = ([104, 97, 110, 97], 0) := by decide +kernel
theorem kc_i : findE [[107, 105, 114, 105], [104, 97, 110, 97]] 2 [107, 105, 114, 105] = ([0, 0], 0) := by decide +kernel
theorem kc_of : ofE [7, -3, 7, 0] = ([0, 1, 0, 2], 0) := by decide +kernel
theorem kc_c4 : countE 4 = (15, 0) := by decide +kernel
theorem kc_c9 : countE 9 = (21147, 0) := by decide +kernel
theorem kc_q2 : partedE 4 2 = (7, 0) := by decide +kernel
theorem kc_q4 : partedE 4 4 = (1, 0) := by decide +kernel
theorem kc_join : Joined [0, 0, 1, 2] [0, 1, 1, 2] [0, 0, 0, 1] := by
  have h01 : Hang [0, 0, 1, 2] [0, 1, 1, 2] 0 1 := Hang.one (by decide) (by decide) (.inl rfl)
  have h12 : Hang [0, 0, 1, 2] [0, 1, 1, 2] 1 2 := Hang.one (by decide) (by decide) (.inr rfl)
  have h02 := h01.trans h12
  refine ⟨rfl, fun i j hi hj => ⟨fun e => ?_, fun e => hang_eq (fun i j hi hj e2 => ?_) (fun i j hi hj e2 => ?_) e⟩⟩
  · have hi4 : i < 4 := hi
    have hj4 : j < 4 := hj
    match i, hi4, j, hj4 with
    | 0, _, 0, _ => exact .refl _
    | 0, _, 1, _ => exact h01
    | 0, _, 2, _ => exact h02
    | 1, _, 0, _ => exact h01.symm
    | 1, _, 1, _ => exact .refl _
    | 1, _, 2, _ => exact h12
    | 2, _, 0, _ => exact h02.symm
    | 2, _, 1, _ => exact h12.symm
    | 2, _, 2, _ => exact .refl _
    | 3, _, 3, _ => exact .refl _
    | 0, _, 3, _ => exact absurd e (by decide)
    | 1, _, 3, _ => exact absurd e (by decide)
    | 2, _, 3, _ => exact absurd e (by decide)
    | 3, _, 0, _ => exact absurd e (by decide)
    | 3, _, 1, _ => exact absurd e (by decide)
    | 3, _, 2, _ => exact absurd e (by decide)
  · have key : ∀ i, i < 4 → ∀ j, j < 4 → ([0, 0, 1, 2] : List Int).getD i 0 = ([0, 0, 1, 2] : List Int).getD j 0 → ([0, 0, 0, 1] : List Int).getD i 0 = ([0, 0, 0, 1] : List Int).getD j 0 := by decide
    exact key i hi j hj e2
  · have key : ∀ i, i < 4 → ∀ j, j < 4 → ([0, 1, 1, 2] : List Int).getD i 0 = ([0, 1, 1, 2] : List Int).getD j 0 → ([0, 0, 0, 1] : List Int).getD i 0 = ([0, 0, 0, 1] : List Int).getD j 0 := by decide
    exact key i hi j hj e2
theorem kc_j : joinE [0, 0, 1, 2] [0, 1, 1, 2] = ([0, 0, 0, 1], 0) := by
  unfold joinE
  rw [if_neg (by decide), ← joinL_of kc_join]
  decide


set_option maxHeartbeats 4000000 in
set_option maxRecDepth 100000 in
theorem ranked_any (w : World) : Calls Tryd.prog 75 #[] w fun e w' => e = .returned (.bool true) ∧ Below w.heap.size w w' := by
  go_enter Tryd.func75, Tryd.ntmps75
  go_wp2_with fail
  refine (unrank_any 4 14 w).mono ?_; rintro e w1 ⟨Aa, ca, rfl, h, b⟩
  rw [kc_u1] at h ⊢
  simp only [List.length_cons, List.length_nil, Nat.reduceAdd] at h ⊢
  have Ha1 := Lib.hid h.rd
  have hca := h.cap
  have HB1 := Lib.hid b
  clear b h
  go_wp2_with fail
  refine (unrank_any 4 15 w1).mono ?_; rintro e w2 ⟨Az, cz, rfl, h, b⟩
  rw [kc_u2] at h ⊢
  simp only [List.length_nil] at h ⊢
  have Ha2 := Lib.hid (Ha1.out.below b)
  have HB2 := Lib.hid (HB1.out.trans (b.mono HB1.out.size))
  clear Ha1 HB1 b h
  go_wp2_with fail
  refine (of_AABB w2).mono ?_; rintro e w3 ⟨Ax, cx, rfl, h, b⟩
  have Hx3 := Lib.hid h.rd
  have hcx := h.cap
  have Ha3 := Lib.hid (Ha2.out.below b)
  have HB3 := Lib.hid (HB2.out.trans (b.mono HB2.out.size))
  clear Ha2 HB2 b h
  go_wp2_with fail
  refine (next_any Ax 4 cx [0, 0, 1, 1] w3 Hx3.out).mono ?_; rintro e w4 ⟨Ab, cb, rfl, h, b⟩
  rw [kc_n1] at h ⊢
  simp only [List.length_cons, List.length_nil, Nat.reduceAdd] at h ⊢
  have Hb4 := Lib.hid h.rd
  have hcb := h.cap
  have Ha4 := Lib.hid (Ha3.out.below b)
  have Hx4 := Lib.hid (Hx3.out.below b)
  have HB4 := Lib.hid (HB3.out.trans (b.mono HB3.out.size))
  clear Ha3 Hx3 HB3 b h
  clear Hx4
  go_wp2_with fail
  refine (of_ABCC w4).mono ?_; rintro e w5 ⟨Ax, cx, rfl, h, b⟩
  have Hx5 := Lib.hid h.rd
  have hcx := h.cap
  have Ha5 := Lib.hid (Ha4.out.below b)
  have Hb5 := Lib.hid (Hb4.out.below b)
  have HB5 := Lib.hid (HB4.out.trans (b.mono HB4.out.size))
  clear Ha4 Hb4 HB4 b h
  go_wp2_with fail
  refine (next_any Ax 4 cx [0, 1, 2, 2] w5 Hx5.out).mono ?_; rintro e w6 ⟨Ad, cd, rfl, h, b⟩
  rw [kc_n2] at h ⊢
  simp only [List.length_cons, List.length_nil, Nat.reduceAdd] at h ⊢
  have Hd6 := Lib.hid h.rd
  have hcd := h.cap
  have Ha6 := Lib.hid (Ha5.out.below b)
  have Hb6 := Lib.hid (Hb5.out.below b)
  have Hx6 := Lib.hid (Hx5.out.below b)
  have HB6 := Lib.hid (HB5.out.trans (b.mono HB5.out.size))
  clear Ha5 Hb5 Hx5 HB5 b h
  clear Hx6
  go_wp2_with fail
  refine (of_ABCD w6).mono ?_; rintro e w7 ⟨Ax, cx, rfl, h, b⟩
  have Hx7 := Lib.hid h.rd
  have hcx := h.cap
  have Ha7 := Lib.hid (Ha6.out.below b)
  have Hb7 := Lib.hid (Hb6.out.below b)
  have Hd7 := Lib.hid (Hd6.out.below b)
  have HB7 := Lib.hid (HB6.out.trans (b.mono HB6.out.size))
  clear Ha6 Hb6 Hd6 HB6 b h
  go_wp2_with fail
  refine (next_any Ax 4 cx [0, 1, 2, 3] w7 Hx7.out).mono ?_; rintro e w8 ⟨Az, cz, rfl, h, b⟩
  rw [kc_n3] at h ⊢
  simp only [List.length_nil] at h ⊢
  have Ha8 := Lib.hid (Ha7.out.below b)
  have Hb8 := Lib.hid (Hb7.out.below b)
  have Hd8 := Lib.hid (Hd7.out.below b)
  have Hx8 := Lib.hid (Hx7.out.below b)
  have HB8 := Lib.hid (HB7.out.trans (b.mono HB7.out.size))
  clear Ha7 Hb7 Hd7 Hx7 HB7 b h
  clear Hx8
  go_wp2_with fail
  refine (of_ABCD w8).mono ?_; rintro e w9 ⟨Ax, cx, rfl, h, b⟩
  have Hx9 := Lib.hid h.rd
  have hcx := h.cap
  have Ha9 := Lib.hid (Ha8.out.below b)
  have Hb9 := Lib.hid (Hb8.out.below b)
  have Hd9 := Lib.hid (Hd8.out.below b)
  have HB9 := Lib.hid (HB8.out.trans (b.mono HB8.out.size))
  clear Ha8 Hb8 Hd8 HB8 b h
  go_wp2_with fail
  refine (eq_any Aa Ax 4 4 ca cx [0, 1, 2, 3] [0, 1, 2, 3] w9 Ha9.out Hx9.out).mono ?_; rintro e w10 ⟨rfl, kk, hw⟩
  rw [beq_self_eq_true]
  have Ha10 : Hid (RdI w10 Aa 4 [0, 1, 2, 3]) := Lib.hid (by rw [hw]; exact Ha9.out.drewN kk)
  have Hb10 : Hid (RdI w10 Ab 4 [0, 0, 1, 2]) := Lib.hid (by rw [hw]; exact Hb9.out.drewN kk)
  have Hd10 : Hid (RdI w10 Ad 4 [0, 1, 2, 3]) := Lib.hid (by rw [hw]; exact Hd9.out.drewN kk)
  have Hx10 : Hid (RdI w10 Ax 4 [0, 1, 2, 3]) := Lib.hid (by rw [hw]; exact Hx9.out.drewN kk)
  have HB10 : Hid (Below w.heap.size w w10) := Lib.hid (by rw [hw]; exact below_drewN HB9.out kk)
  clear hw Ha9 Hb9 Hd9 Hx9 HB9
  clear Hx10 Ha10
  go_wp2_with fail
  refine (of_AABC w10).mono ?_; rintro e w11 ⟨Ax, cx, rfl, h, b⟩
  have Hx11 := Lib.hid h.rd
  have hcx := h.cap
  have Hb11 := Lib.hid (Hb10.out.below b)
  have Hd11 := Lib.hid (Hd10.out.below b)
  have HB11 := Lib.hid (HB10.out.trans (b.mono HB10.out.size))
  clear Hb10 Hd10 HB10 b h
  go_wp2_with fail
  refine (eq_any Ab Ax 4 4 cb cx [0, 0, 1, 2] [0, 0, 1, 2] w11 Hb11.out Hx11.out).mono ?_; rintro e w12 ⟨rfl, kk, hw⟩
  rw [beq_self_eq_true]
  have Hb12 : Hid (RdI w12 Ab 4 [0, 0, 1, 2]) := Lib.hid (by rw [hw]; exact Hb11.out.drewN kk)
  have Hd12 : Hid (RdI w12 Ad 4 [0, 1, 2, 3]) := Lib.hid (by rw [hw]; exact Hd11.out.drewN kk)
  have Hx12 : Hid (RdI w12 Ax 4 [0, 0, 1, 2]) := Lib.hid (by rw [hw]; exact Hx11.out.drewN kk)
  have HB12 : Hid (Below w.heap.size w w12) := Lib.hid (by rw [hw]; exact below_drewN HB11.out kk)
  clear hw Hb11 Hd11 Hx11 HB11
  clear Hx12 Hb12
  go_wp2_with fail
  refine (of_ABCD w12).mono ?_; rintro e w13 ⟨Ax, cx, rfl, h, b⟩
  have Hx13 := Lib.hid h.rd
  have hcx := h.cap
  have Hd13 := Lib.hid (Hd12.out.below b)
  have HB13 := Lib.hid (HB12.out.trans (b.mono HB12.out.size))
  clear Hd12 HB12 b h
  go_wp2_with fail
  refine (eq_any Ad Ax 4 4 cd cx [0, 1, 2, 3] [0, 1, 2, 3] w13 Hd13.out Hx13.out).mono ?_; rintro e w14 ⟨rfl, kk, hw⟩
  rw [beq_self_eq_true]
  have Hd14 : Hid (RdI w14 Ad 4 [0, 1, 2, 3]) := Lib.hid (by rw [hw]; exact Hd13.out.drewN kk)
  have Hx14 : Hid (RdI w14 Ax 4 [0, 1, 2, 3]) := Lib.hid (by rw [hw]; exact Hx13.out.drewN kk)
  have HB14 : Hid (Below w.heap.size w w14) := Lib.hid (by rw [hw]; exact below_drewN HB13.out kk)
  clear hw Hd13 Hx13 HB13
  clear Hx14 Hd14
  go_wp2
  go_ret
  exact ⟨rfl, HB14.out⟩

set_option maxHeartbeats 4000000 in
set_option maxRecDepth 100000 in
theorem latticed_any (w : World) : Calls Tryd.prog 76 #[] w fun e w' => e = .returned (.bool true) ∧ Below w.heap.size w w' := by
  go_enter Tryd.func76, Tryd.ntmps76
  go_wp2_with fail
  refine (of_AABB w).mono ?_; rintro e w1 ⟨Ax, cx, rfl, h, b⟩
  have Hx1 := Lib.hid h.rd
  have hcx := h.cap
  have HB1 := Lib.hid b
  clear b h
  go_wp2_with fail
  refine (of_ABBB w1).mono ?_; rintro e w2 ⟨Ay, cy, rfl, h, b⟩
  have Hy2 := Lib.hid h.rd
  have hcy := h.cap
  have Hx2 := Lib.hid (Hx1.out.below b)
  have HB2 := Lib.hid (HB1.out.trans (b.mono HB1.out.size))
  clear Hx1 HB1 b h
  go_wp2_with fail
  refine (meetP_any Ax Ay 4 4 cx cy [0, 0, 1, 1] [0, 1, 1, 1] w2 Hx2.out Hy2.out).mono ?_; rintro e w3 ⟨Aa, ca, rfl, h, b⟩
  rw [kc_m] at h ⊢
  simp only [List.length_cons, List.length_nil, Nat.reduceAdd] at h ⊢
  have Ha3 := Lib.hid h.rd
  have hca := h.cap
  have Hx3 := Lib.hid (Hx2.out.below b)
  have Hy3 := Lib.hid (Hy2.out.below b)
  have HB3 := Lib.hid (HB2.out.trans (b.mono HB2.out.size))
  clear Hx2 Hy2 HB2 b h
  clear Hx3 Hy3
  go_wp2_with fail
  refine (of_AABC w3).mono ?_; rintro e w4 ⟨Ax, cx, rfl, h, b⟩
  have Hx4 := Lib.hid h.rd
  have hcx := h.cap
  have Ha4 := Lib.hid (Ha3.out.below b)
  have HB4 := Lib.hid (HB3.out.trans (b.mono HB3.out.size))
  clear Ha3 HB3 b h
  go_wp2_with fail
  refine (of_ABBC w4).mono ?_; rintro e w5 ⟨Ay, cy, rfl, h, b⟩
  have Hy5 := Lib.hid h.rd
  have hcy := h.cap
  have Ha5 := Lib.hid (Ha4.out.below b)
  have Hx5 := Lib.hid (Hx4.out.below b)
  have HB5 := Lib.hid (HB4.out.trans (b.mono HB4.out.size))
  clear Ha4 Hx4 HB4 b h
  go_wp2_with fail
  refine (joinP_any Ax Ay 4 4 cx cy [0, 0, 1, 2] [0, 1, 1, 2] w5 Hx5.out Hy5.out).mono ?_; rintro e w6 ⟨Ab, cb, rfl, h, b⟩
  rw [kc_j] at h ⊢
  simp only [List.length_cons, List.length_nil, Nat.reduceAdd] at h ⊢
  have Hb6 := Lib.hid h.rd
  have hcb := h.cap
  have Ha6 := Lib.hid (Ha5.out.below b)
  have Hx6 := Lib.hid (Hx5.out.below b)
  have Hy6 := Lib.hid (Hy5.out.below b)
  have HB6 := Lib.hid (HB5.out.trans (b.mono HB5.out.size))
  clear Ha5 Hx5 Hy5 HB5 b h
  clear Hx6 Hy6
  go_wp2_with fail
  refine (of_ABCC w6).mono ?_; rintro e w7 ⟨Ax, cx, rfl, h, b⟩
  have Hx7 := Lib.hid h.rd
  have hcx := h.cap
  have Ha7 := Lib.hid (Ha6.out.below b)
  have Hb7 := Lib.hid (Hb6.out.below b)
  have HB7 := Lib.hid (HB6.out.trans (b.mono HB6.out.size))
  clear Ha6 Hb6 HB6 b h
  go_wp2_with fail
  refine (of_AABB w7).mono ?_; rintro e w8 ⟨Ay, cy, rfl, h, b⟩
  have Hy8 := Lib.hid h.rd
  have hcy := h.cap
  have Ha8 := Lib.hid (Ha7.out.below b)
  have Hb8 := Lib.hid (Hb7.out.below b)
  have Hx8 := Lib.hid (Hx7.out.below b)
  have HB8 := Lib.hid (HB7.out.trans (b.mono HB7.out.size))
  clear Ha7 Hb7 Hx7 HB7 b h
  go_wp2_with fail
  refine (finer_any Ax Ay 4 4 cx cy [0, 1, 2, 2] [0, 0, 1, 1] w8 Hx8.out Hy8.out).mono ?_; rintro e w9 ⟨rfl, b⟩
  rw [kc_f1]
  have Ha9 := Lib.hid (Ha8.out.below b)
  have Hb9 := Lib.hid (Hb8.out.below b)
  have Hx9 := Lib.hid (Hx8.out.below b)
  have Hy9 := Lib.hid (Hy8.out.below b)
  have HB9 := Lib.hid (HB8.out.trans (b.mono HB8.out.size))
  clear Ha8 Hb8 Hx8 Hy8 HB8 b
  clear Hx9 Hy9
  go_wp2_with fail
  refine (of_AABB w9).mono ?_; rintro e w10 ⟨Ax, cx, rfl, h, b⟩
  have Hx10 := Lib.hid h.rd
  have hcx := h.cap
  have Ha10 := Lib.hid (Ha9.out.below b)
  have Hb10 := Lib.hid (Hb9.out.below b)
  have HB10 := Lib.hid (HB9.out.trans (b.mono HB9.out.size))
  clear Ha9 Hb9 HB9 b h
  go_wp2_with fail
  refine (of_ABCC w10).mono ?_; rintro e w11 ⟨Ay, cy, rfl, h, b⟩
  have Hy11 := Lib.hid h.rd
  have hcy := h.cap
  have Ha11 := Lib.hid (Ha10.out.below b)
  have Hb11 := Lib.hid (Hb10.out.below b)
  have Hx11 := Lib.hid (Hx10.out.below b)
  have HB11 := Lib.hid (HB10.out.trans (b.mono HB10.out.size))
  clear Ha10 Hb10 Hx10 HB10 b h
  go_wp2_with fail
  refine (finer_any Ax Ay 4 4 cx cy [0, 0, 1, 1] [0, 1, 2, 2] w11 Hx11.out Hy11.out).mono ?_; rintro e w12 ⟨rfl, b⟩
  rw [kc_f2]
  have Ha12 := Lib.hid (Ha11.out.below b)
  have Hb12 := Lib.hid (Hb11.out.below b)
  have Hx12 := Lib.hid (Hx11.out.below b)
  have Hy12 := Lib.hid (Hy11.out.below b)
  have HB12 := Lib.hid (HB11.out.trans (b.mono HB11.out.size))
  clear Ha11 Hb11 Hx11 Hy11 HB11 b
  clear Hx12 Hy12
  go_wp2_with fail
  refine (of_A w12).mono ?_; rintro e w13 ⟨Ax, cx, rfl, h, b⟩
  have Hx13 := Lib.hid h.rd
  have hcx := h.cap
  have Ha13 := Lib.hid (Ha12.out.below b)
  have Hb13 := Lib.hid (Hb12.out.below b)
  have HB13 := Lib.hid (HB12.out.trans (b.mono HB12.out.size))
  clear Ha12 Hb12 HB12 b h
  go_wp2_with fail
  refine (of_AA w13).mono ?_; rintro e w14 ⟨Ay, cy, rfl, h, b⟩
  have Hy14 := Lib.hid h.rd
  have hcy := h.cap
  have Ha14 := Lib.hid (Ha13.out.below b)
  have Hb14 := Lib.hid (Hb13.out.below b)
  have Hx14 := Lib.hid (Hx13.out.below b)
  have HB14 := Lib.hid (HB13.out.trans (b.mono HB13.out.size))
  clear Ha13 Hb13 Hx13 HB13 b h
  go_wp2_with fail
  refine (finer_any Ax Ay 1 2 cx cy [0] [0, 0] w14 Hx14.out Hy14.out).mono ?_; rintro e w15 ⟨rfl, b⟩
  rw [kc_f3]
  have Ha15 := Lib.hid (Ha14.out.below b)
  have Hb15 := Lib.hid (Hb14.out.below b)
  have Hx15 := Lib.hid (Hx14.out.below b)
  have Hy15 := Lib.hid (Hy14.out.below b)
  have HB15 := Lib.hid (HB14.out.trans (b.mono HB14.out.size))
  clear Ha14 Hb14 Hx14 Hy14 HB14 b
  clear Hx15 Hy15
  go_wp2_with fail
  refine (of_AAAA w15).mono ?_; rintro e w16 ⟨Ax, cx, rfl, h, b⟩
  have Hx16 := Lib.hid h.rd
  have hcx := h.cap
  have Ha16 := Lib.hid (Ha15.out.below b)
  have Hb16 := Lib.hid (Hb15.out.below b)
  have HB16 := Lib.hid (HB15.out.trans (b.mono HB15.out.size))
  clear Ha15 Hb15 HB15 b h
  go_wp2_with fail
  refine (of_ABCD w16).mono ?_; rintro e w17 ⟨Ay, cy, rfl, h, b⟩
  have Hy17 := Lib.hid h.rd
  have hcy := h.cap
  have Ha17 := Lib.hid (Ha16.out.below b)
  have Hb17 := Lib.hid (Hb16.out.below b)
  have Hx17 := Lib.hid (Hx16.out.below b)
  have HB17 := Lib.hid (HB16.out.trans (b.mono HB16.out.size))
  clear Ha16 Hb16 Hx16 HB16 b h
  go_wp2_with fail
  refine (moves_any Ax Ay 4 4 cx cy [0, 0, 0, 0] [0, 1, 2, 3] w17 Hx17.out Hy17.out).mono ?_; rintro e w18 ⟨rfl, b⟩
  rw [kc_v1]
  have Ha18 := Lib.hid (Ha17.out.below b)
  have Hb18 := Lib.hid (Hb17.out.below b)
  have Hx18 := Lib.hid (Hx17.out.below b)
  have Hy18 := Lib.hid (Hy17.out.below b)
  have HB18 := Lib.hid (HB17.out.trans (b.mono HB17.out.size))
  clear Ha17 Hb17 Hx17 Hy17 HB17 b
  clear Hx18 Hy18
  go_wp2_with fail
  refine (of_AAAB w18).mono ?_; rintro e w19 ⟨Ax, cx, rfl, h, b⟩
  have Hx19 := Lib.hid h.rd
  have hcx := h.cap
  have Ha19 := Lib.hid (Ha18.out.below b)
  have Hb19 := Lib.hid (Hb18.out.below b)
  have HB19 := Lib.hid (HB18.out.trans (b.mono HB18.out.size))
  clear Ha18 Hb18 HB18 b h
  go_wp2_with fail
  refine (of_AABA w19).mono ?_; rintro e w20 ⟨Ay, cy, rfl, h, b⟩
  have Hy20 := Lib.hid h.rd
  have hcy := h.cap
  have Ha20 := Lib.hid (Ha19.out.below b)
  have Hb20 := Lib.hid (Hb19.out.below b)
  have Hx20 := Lib.hid (Hx19.out.below b)
  have HB20 := Lib.hid (HB19.out.trans (b.mono HB19.out.size))
  clear Ha19 Hb19 Hx19 HB19 b h
  go_wp2_with fail
  refine (moves_any Ax Ay 4 4 cx cy [0, 0, 0, 1] [0, 0, 1, 0] w20 Hx20.out Hy20.out).mono ?_; rintro e w21 ⟨rfl, b⟩
  rw [kc_v2]
  have Ha21 := Lib.hid (Ha20.out.below b)
  have Hb21 := Lib.hid (Hb20.out.below b)
  have Hx21 := Lib.hid (Hx20.out.below b)
  have Hy21 := Lib.hid (Hy20.out.below b)
  have HB21 := Lib.hid (HB20.out.trans (b.mono HB20.out.size))
  clear Ha20 Hb20 Hx20 Hy20 HB20 b
  clear Hx21 Hy21
  go_wp2_with fail
  refine (of_ABCC w21).mono ?_; rintro e w22 ⟨Ax, cx, rfl, h, b⟩
  have Hx22 := Lib.hid h.rd
  have hcx := h.cap
  have Ha22 := Lib.hid (Ha21.out.below b)
  have Hb22 := Lib.hid (Hb21.out.below b)
  have HB22 := Lib.hid (HB21.out.trans (b.mono HB21.out.size))
  clear Ha21 Hb21 HB21 b h
  go_wp2_with fail
  refine (eq_any Aa Ax 4 4 ca cx [0, 1, 2, 2] [0, 1, 2, 2] w22 Ha22.out Hx22.out).mono ?_; rintro e w23 ⟨rfl, kk, hw⟩
  rw [beq_self_eq_true]
  have Ha23 : Hid (RdI w23 Aa 4 [0, 1, 2, 2]) := Lib.hid (by rw [hw]; exact Ha22.out.drewN kk)
  have Hb23 : Hid (RdI w23 Ab 4 [0, 0, 0, 1]) := Lib.hid (by rw [hw]; exact Hb22.out.drewN kk)
  have Hx23 : Hid (RdI w23 Ax 4 [0, 1, 2, 2]) := Lib.hid (by rw [hw]; exact Hx22.out.drewN kk)
  have HB23 : Hid (Below w.heap.size w w23) := Lib.hid (by rw [hw]; exact below_drewN HB22.out kk)
  clear hw Ha22 Hb22 Hx22 HB22
  clear Hx23 Ha23
  go_wp2_with fail
  refine (of_AAAB w23).mono ?_; rintro e w24 ⟨Ax, cx, rfl, h, b⟩
  have Hx24 := Lib.hid h.rd
  have hcx := h.cap
  have Hb24 := Lib.hid (Hb23.out.below b)
  have HB24 := Lib.hid (HB23.out.trans (b.mono HB23.out.size))
  clear Hb23 HB23 b h
  go_wp2_with fail
  refine (eq_any Ab Ax 4 4 cb cx [0, 0, 0, 1] [0, 0, 0, 1] w24 Hb24.out Hx24.out).mono ?_; rintro e w25 ⟨rfl, kk, hw⟩
  rw [beq_self_eq_true]
  have Hb25 : Hid (RdI w25 Ab 4 [0, 0, 0, 1]) := Lib.hid (by rw [hw]; exact Hb24.out.drewN kk)
  have Hx25 : Hid (RdI w25 Ax 4 [0, 0, 0, 1]) := Lib.hid (by rw [hw]; exact Hx24.out.drewN kk)
  have HB25 : Hid (Below w.heap.size w w25) := Lib.hid (by rw [hw]; exact below_drewN HB24.out kk)
  clear hw Hb24 Hx24 HB24
  clear Hx25 Hb25
  go_wp2
  go_ret
  exact ⟨rfl, HB25.out⟩
theorem rdI_litC (w : World) (t : TypeId) (l : List Int) (n : Nat) (hn : n ≤ 1000) (hl : l.length = n) (hi : ∀ v ∈ l, I64 v) : RdI (w.alloc (.cells (ints l).toArray t)) (some ⟨w.heap.size, 0, none⟩) n l := (OwnI.lit w t l n (by omega) hl 0 (by omega) hi).rd
theorem kn_bd : ∀ S ∈ ([[107, 105, 114, 105], [104, 97, 110, 97]] : List (List UInt8)), S.length ≤ 1000 := by decide


set_option maxHeartbeats 4000000 in
set_option maxRecDepth 100000 in
theorem named_any (w : World) : Calls Tryd.prog 78 #[] w fun e w' => e = .returned (.bool true) ∧ Below w.heap.size w w' := by
  go_enter Tryd.func78, Tryd.ntmps78
  go_wp2_with fail
  obtain ⟨w1, hw⟩ : ∃ W : World, W = w.alloc (.cells #[.int .i64 0, .int .i64 1, .int .i64 2, .int .i64 0] 3) := ⟨_, rfl⟩
  have Hx1 : Hid (RdI w1 (some ⟨w.heap.size, 0, none⟩) 4 [0, 1, 2, 0]) := Lib.hid (by rw [hw]; exact rdI_litC w 3 [0, 1, 2, 0] 4 (by omega) rfl (by simp [I64]))
  have hwb : Below w.heap.size w w1 := by rw [hw]; exact (Below.refl _ _).alloc (Nat.le_refl _) _
  rw [← hw]
  have HB1 := Lib.hid hwb
  clear hw hwb 
  go_wp2_with fail
  refine (spell_any (some ⟨w.heap.size, 0, none⟩) 4 4 [0, 1, 2, 0] w1 Hx1.out).mono ?_; rintro e w2 ⟨rfl, b⟩
  rw [kc_s]
  have Hx2 := Lib.hid (Hx1.out.below b)
  have HB2 := Lib.hid (HB1.out.trans (b.mono HB1.out.size))
  clear Hx1 HB1 b
  clear Hx2
  go_wp2_with fail
  refine (parse_any ⟨#[66, 65]⟩ w2 (by decide)).mono ?_; rintro e w3 ⟨Az, cz, rfl, h, b⟩
  rw [show parseE (⟨#[66, 65]⟩ : ByteArray).data.toList = ([], 3) from kc_p1] at h ⊢
  simp only [List.length_nil] at h ⊢
  have HB3 := Lib.hid (HB2.out.trans (b.mono HB2.out.size))
  clear HB2 b h
  go_wp2_with fail
  refine (parse_any ⟨#[65, 65, 66]⟩ w3 (by decide)).mono ?_; rintro e w4 ⟨Aa, ca, rfl, h, b⟩
  rw [show parseE (⟨#[65, 65, 66]⟩ : ByteArray).data.toList = ([0, 0, 1], 0) from kc_p2] at h ⊢
  simp only [List.length_cons, List.length_nil, Nat.reduceAdd] at h ⊢
  have Ha4 := Lib.hid h.rd
  have hca := h.cap
  have HB4 := Lib.hid (HB3.out.trans (b.mono HB3.out.size))
  clear HB3 b h
  go_wp2_with fail
  obtain ⟨w5, hw⟩ : ∃ W : World, W = w4.alloc (.cells #[.string ⟨#[107, 105, 114, 105]⟩, .string ⟨#[104, 97, 110, 97]⟩] 9) := ⟨_, rfl⟩
  have Hs5 : Hid (RdS w5 (some ⟨w4.heap.size, 0, none⟩) 2 [[107, 105, 114, 105], [104, 97, 110, 97]]) := Lib.hid (by rw [hw]; exact ⟨(Own.lit w4 9 #[.string ⟨#[107, 105, 114, 105]⟩, .string ⟨#[104, 97, 110, 97]⟩] 2 (by omega) rfl 0 (by omega)).rd, rfl⟩)
  have hwb : Below w4.heap.size w4 w5 := by rw [hw]; exact (Below.refl _ _).alloc (Nat.le_refl _) _
  rw [← hw]
  have Ha5 := Lib.hid (Ha4.out.below hwb)
  have HB5 := Lib.hid (HB4.out.trans (hwb.mono HB4.out.size))
  clear hw hwb Ha4 HB4
  go_wp2_with fail
  refine (of_AB w5).mono ?_; rintro e w6 ⟨Ax, cx, rfl, h, b⟩
  have Hx6 := Lib.hid h.rd
  have hcx := h.cap
  have Ha6 := Lib.hid (Ha5.out.below b)
  have Hs6 := Lib.hid (Hs5.out.below b)
  have HB6 := Lib.hid (HB5.out.trans (b.mono HB5.out.size))
  clear Ha5 Hs5 HB5 b h
  go_wp2_with fail
  refine (title_any (some ⟨w4.heap.size, 0, none⟩) Ax 2 2 2 cx [[107, 105, 114, 105], [104, 97, 110, 97]] [0, 1] w6 Hs6.out Hx6.out (by omega) kn_bd).mono ?_; rintro e w7 ⟨rfl, b⟩
  rw [kc_t]
  have Ha7 := Lib.hid (Ha6.out.below b)
  have Hs7 := Lib.hid (Hs6.out.below b)
  have Hx7 := Lib.hid (Hx6.out.below b)
  have HB7 := Lib.hid (HB6.out.trans (b.mono HB6.out.size))
  clear Ha6 Hs6 Hx6 HB6 b
  clear Hx7 Hs7
  go_wp2_with fail
  obtain ⟨w8, hw⟩ : ∃ W : World, W = w7.alloc (.cells #[.string ⟨#[107, 105, 114, 105]⟩, .string ⟨#[104, 97, 110, 97]⟩] 9) := ⟨_, rfl⟩
  have Hs8 : Hid (RdS w8 (some ⟨w7.heap.size, 0, none⟩) 2 [[107, 105, 114, 105], [104, 97, 110, 97]]) := Lib.hid (by rw [hw]; exact ⟨(Own.lit w7 9 #[.string ⟨#[107, 105, 114, 105]⟩, .string ⟨#[104, 97, 110, 97]⟩] 2 (by omega) rfl 0 (by omega)).rd, rfl⟩)
  have hwb : Below w7.heap.size w7 w8 := by rw [hw]; exact (Below.refl _ _).alloc (Nat.le_refl _) _
  rw [← hw]
  have Ha8 := Lib.hid (Ha7.out.below hwb)
  have HB8 := Lib.hid (HB7.out.trans (hwb.mono HB7.out.size))
  clear hw hwb Ha7 HB7
  go_wp2_with fail
  refine (find_any (some ⟨w7.heap.size, 0, none⟩) 2 2 [[107, 105, 114, 105], [104, 97, 110, 97]] 2 ⟨#[107, 105, 114, 105]⟩ w8 Hs8.out (by omega) kn_bd).mono ?_; rintro e w9 ⟨Ab, cb, rfl, h, b⟩
  rw [show findE [[107, 105, 114, 105], [104, 97, 110, 97]] 2 (⟨#[107, 105, 114, 105]⟩ : ByteArray).data.toList = ([0, 0], 0) from kc_i] at h ⊢
  simp only [List.length_cons, List.length_nil, Nat.reduceAdd] at h ⊢
  have Hb9 := Lib.hid h.rd
  have hcb := h.cap
  have Ha9 := Lib.hid (Ha8.out.below b)
  have Hs9 := Lib.hid (Hs8.out.below b)
  have HB9 := Lib.hid (HB8.out.trans (b.mono HB8.out.size))
  clear Ha8 Hs8 HB8 b h
  clear Hs9
  go_wp2_with fail
  obtain ⟨w10, hw⟩ : ∃ W : World, W = w9.alloc (.cells #[.int .i64 0, .int .i64 0, .int .i64 1] 3) := ⟨_, rfl⟩
  have Hx10 : Hid (RdI w10 (some ⟨w9.heap.size, 0, none⟩) 3 [0, 0, 1]) := Lib.hid (by rw [hw]; exact rdI_litC w9 3 [0, 0, 1] 3 (by omega) rfl (by simp [I64]))
  have hwb : Below w9.heap.size w9 w10 := by rw [hw]; exact (Below.refl _ _).alloc (Nat.le_refl _) _
  rw [← hw]
  have Ha10 := Lib.hid (Ha9.out.below hwb)
  have Hb10 := Lib.hid (Hb9.out.below hwb)
  have HB10 := Lib.hid (HB9.out.trans (hwb.mono HB9.out.size))
  clear hw hwb Ha9 Hb9 HB9
  go_wp2_with fail
  refine (eq_any Aa (some ⟨w9.heap.size, 0, none⟩) 3 3 ca 3 [0, 0, 1] [0, 0, 1] w10 Ha10.out Hx10.out).mono ?_; rintro e w11 ⟨rfl, kk, hw⟩
  rw [beq_self_eq_true]
  have Ha11 : Hid (RdI w11 Aa 3 [0, 0, 1]) := Lib.hid (by rw [hw]; exact Ha10.out.drewN kk)
  have Hb11 : Hid (RdI w11 Ab 2 [0, 0]) := Lib.hid (by rw [hw]; exact Hb10.out.drewN kk)
  have Hx11 : Hid (RdI w11 (some ⟨w9.heap.size, 0, none⟩) 3 [0, 0, 1]) := Lib.hid (by rw [hw]; exact Hx10.out.drewN kk)
  have HB11 : Hid (Below w.heap.size w w11) := Lib.hid (by rw [hw]; exact below_drewN HB10.out kk)
  clear hw Ha10 Hb10 Hx10 HB10
  clear Ha11 Hx11
  go_wp2_with fail
  refine (of_AA w11).mono ?_; rintro e w12 ⟨Ax, cx, rfl, h, b⟩
  have Hx12 := Lib.hid h.rd
  have hcx := h.cap
  have Hb12 := Lib.hid (Hb11.out.below b)
  have HB12 := Lib.hid (HB11.out.trans (b.mono HB11.out.size))
  clear Hb11 HB11 b h
  go_wp2_with fail
  refine (eq_any Ab Ax 2 2 cb cx [0, 0] [0, 0] w12 Hb12.out Hx12.out).mono ?_; rintro e w13 ⟨rfl, kk, hw⟩
  rw [beq_self_eq_true]
  have Hb13 : Hid (RdI w13 Ab 2 [0, 0]) := Lib.hid (by rw [hw]; exact Hb12.out.drewN kk)
  have Hx13 : Hid (RdI w13 Ax 2 [0, 0]) := Lib.hid (by rw [hw]; exact Hx12.out.drewN kk)
  have HB13 : Hid (Below w.heap.size w w13) := Lib.hid (by rw [hw]; exact below_drewN HB12.out kk)
  clear hw Hb12 Hx12 HB12
  clear Hb13 Hx13
  go_wp2
  go_ret
  exact ⟨rfl, HB13.out⟩
end Go.Proofs.YtooepkpgffpcjaaDoor
