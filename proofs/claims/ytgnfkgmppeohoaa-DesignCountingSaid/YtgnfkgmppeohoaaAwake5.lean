/- Walk: the warm-up of the design laws: some of the chapter's examples. -/
import Derived.Test.YtgnfkgmppeohoaaShapesW
import Derived.Test.YtgnfkgmppeohoaaRoundsW
namespace Go.Proofs.Ytgnfkgmppeohoaa
open Go.RowKit

/-- a stock of the callee's own -/
def Stocked (c : List Int) (d : Int) (w : World) (e : Ending) (w' : World) : Prop :=
  ∃ g, e = .returned (.agg #[.slice (some ⟨g, 0, none⟩) c.length c.length, .int .i64 d]) ∧ RdI w' (some ⟨g, 0, none⟩) c.length c ∧ Below w.heap.size w w'

set_option maxHeartbeats 1000000 in
theorem two_any (w : World) : Calls Try.prog 73 #[] w (Stocked [2, 2] 3 w) := by
  go_enter Try.func73, Try.ntmps73
  go_wp2
  have hx := (Blk.new w 24 #[.slice (some ⟨w.heap.size + 1, 0, none⟩) 2 2, .int .i64 3]).alloc (.cells #[.int .i64 2, .int .i64 2] 3)
  have hr := (OwnI.lit (w.alloc (.cells #[.slice (some ⟨w.heap.size + 1, 0, none⟩) 2 2, .int .i64 3] 24)) 3 [2, 2] 2 (by omega) rfl (w.heap.size + 1) (by simp) (by simp [I64])).rd
  rw [show (w.alloc (.cells #[.slice (some ⟨w.heap.size + 1, 0, none⟩) 2 2, .int .i64 3] 24)).heap.size = w.heap.size + 1 by simp] at hr
  have hb : Below w.heap.size w ((w.alloc (.cells #[.slice (some ⟨w.heap.size + 1, 0, none⟩) 2 2, .int .i64 3] 24)).alloc (.cells #[.int .i64 2, .int .i64 2] 3)) := ((Below.refl _ w).alloc (Nat.le_refl _) _).alloc (by simp) _
  exact bodyPost_ret (v := .agg #[.slice (some ⟨w.heap.size + 1, 0, none⟩) 2 2, .int .i64 3]) (results_cell_row rfl _ _ w.heap.size 24 _ (0, 0) _ rfl hx Try.underlying24 rfl (by kernel_rfl)) rfl ⟨_, rfl, hr, hb⟩

/-- four rows of four numbers, laid row by row, and the slice of them -/
def lay4 (w : World) (a b c d : List Int) : World := (((w.alloc (.cells (ints a).toArray 3)).alloc (.cells (ints b).toArray 3)).alloc (.cells (ints c).toArray 3)).alloc (.cells (ints d).toArray 3)
def lit4 (w : World) (a b c d : List Int) : World := (lay4 w a b c d).alloc (.cells #[.slice (some ⟨w.heap.size, 0, none⟩) 4 4, .slice (some ⟨w.heap.size + 1, 0, none⟩) 4 4, .slice (some ⟨w.heap.size + 1 + 1, 0, none⟩) 4 4, .slice (some ⟨w.heap.size + 1 + 1 + 1, 0, none⟩) 4 4] 22)
theorem lit_row (w : World) (l : List Int) (h : l.length = 4) (hl : ∀ v ∈ l, I64 v) : RdI (w.alloc (.cells (ints l).toArray 3)) (some ⟨w.heap.size, 0, none⟩) 4 l := (OwnI.lit w 3 l 4 (by omega) h w.heap.size (Nat.le_refl _) hl).rd
theorem alloc_size (w : World) (o : Obj) : (w.alloc o).heap.size = w.heap.size + 1 := by simp
theorem lit4_rd (w : World) (a b c d : List Int) (ha : a.length = 4) (hb : b.length = 4) (hc : c.length = 4) (hd : d.length = 4) (ia : ∀ v ∈ a, I64 v) (ib : ∀ v ∈ b, I64 v) (ic : ∀ v ∈ c, I64 v) (id : ∀ v ∈ d, I64 v) :
    RdL (lit4 w a b c d) (some ⟨w.heap.size + 1 + 1 + 1 + 1, 0, none⟩) 4 [a, b, c, d] := by
  have ra := (((lit_row w a ha ia).alloc (.cells (ints b).toArray 3)).alloc (.cells (ints c).toArray 3)).alloc (.cells (ints d).toArray 3)
  have rb := ((lit_row (w.alloc (.cells (ints a).toArray 3)) b hb ib).alloc (.cells (ints c).toArray 3)).alloc (.cells (ints d).toArray 3)
  have rc := (lit_row ((w.alloc (.cells (ints a).toArray 3)).alloc (.cells (ints b).toArray 3)) c hc ic).alloc (.cells (ints d).toArray 3)
  have rd := lit_row (((w.alloc (.cells (ints a).toArray 3)).alloc (.cells (ints b).toArray 3)).alloc (.cells (ints c).toArray 3)) d hd id
  rw [alloc_size] at rb
  rw [alloc_size, alloc_size] at rc
  rw [alloc_size, alloc_size, alloc_size] at rd
  have ho := (Own.lit (lay4 w a b c d) 22 #[.slice (some ⟨w.heap.size, 0, none⟩) 4 4, .slice (some ⟨w.heap.size + 1, 0, none⟩) 4 4, .slice (some ⟨w.heap.size + 1 + 1, 0, none⟩) 4 4, .slice (some ⟨w.heap.size + 1 + 1 + 1, 0, none⟩) 4 4] 4 (by omega) rfl _ (Nat.le_refl _)).rd
  have hs : (lay4 w a b c d).heap.size = w.heap.size + 1 + 1 + 1 + 1 := by unfold lay4; rw [alloc_size, alloc_size, alloc_size, alloc_size]
  rw [hs] at ho
  refine ⟨_, ho, rfl, fun j v hv => ?_⟩
  match j, hv with
  | 0, hv => injection hv with hv; exact ⟨_, 4, 4, a, hv.symm, rfl, ra.alloc _⟩
  | 1, hv => injection hv with hv; exact ⟨_, 4, 4, b, hv.symm, rfl, rb.alloc _⟩
  | 2, hv => injection hv with hv; exact ⟨_, 4, 4, c, hv.symm, rfl, rc.alloc _⟩
  | 3, hv => injection hv with hv; exact ⟨_, 4, 4, d, hv.symm, rfl, rd.alloc _⟩
  | j + 4, hv => simp at hv
theorem lit4_below (w : World) (a b c d : List Int) : Below w.heap.size w (lit4 w a b c d) := by
  have h : ∀ (w1 : World) (o : Obj), Below w.heap.size w w1 → Below w.heap.size w (w1.alloc o) := fun w1 o hb => hb.alloc hb.size o
  exact h _ _ (h _ _ (h _ _ (h _ _ (h _ _ (Below.refl _ w)))))

theorem ways_two : waysE [2, 2] 3 = (24, 0) := by decide +kernel
theorem shapes_two : shapesE [2, 2] 3 = ([0, 8, 8, 8, 0], 0) := by decide +kernel
theorem rounds_four : roundsE 4 = ([[0, 1, 3, 2], [1, 2, 0, 3], [2, 3, 1, 0], [3, 0, 2, 1]], 0) := by decide +kernel

set_option maxHeartbeats 4000000 in
set_option maxRecDepth 100000 in
theorem awake5_any (w : World) : Calls Try.prog 19 #[] w fun e w' => e = .returned (.bool true) ∧ Below w.heap.size w w' := by
  go_enter Try.func19, Try.ntmps19
  go_wp2_with fail
  refine (two_any w).mono ?_; rintro e w1 ⟨g1, rfl, h1, b1⟩
  have H1 := Lib.hid h1
  have B1 := Lib.hid b1
  clear h1 b1
  go_wp2_with fail
  refine (ways_any _ _ _ [2, 2] 3 w1 H1.out (by simp [I64])).mono ?_; rintro e w2 ⟨rfl, b2⟩
  have B2 := Lib.hid (B1.out.trans (b2.mono B1.out.size))
  rw [ways_two]
  clear b2
  go_wp2_with fail
  refine (two_any w2).mono ?_; rintro e w3 ⟨g3, rfl, h3, b3⟩
  have H3 := Lib.hid h3
  have B3 := Lib.hid (B2.out.trans (b3.mono B2.out.size))
  clear h3 b3
  go_wp2_with fail
  refine (shapesP_any _ _ _ [2, 2] 3 w3 H3.out (by simp [I64])).mono ?_; rintro e w4 ⟨A4, c4, rfl, h4, b4⟩
  rw [shapes_two] at h4 ⊢
  simp only [List.length_cons, List.length_nil, Nat.reduceAdd] at h4 ⊢
  have H4 := Lib.hid h4.rd
  have B4 := Lib.hid (B3.out.trans (b4.mono B3.out.size))
  clear h4 b4
  go_wp2_with fail
  refine (rounds_any 4 w4 (by simp [I64])).mono ?_; rintro e w5 ⟨A5, c5, rfl, h5, b5⟩
  rw [rounds_four] at h5 ⊢
  simp only [List.length_cons, List.length_nil, Nat.reduceAdd] at h5 ⊢
  have H5 := Lib.hid h5.rd
  have H45 := Lib.hid (H4.out.below b5)
  have B5 := Lib.hid (B4.out.trans (b5.mono B4.out.size))
  clear h5 b5
  go_wp2_with fail
  have HL := Lib.hid (OwnI.lit w5 3 [0, 8, 8, 8, 0] 5 (by omega) rfl w5.heap.size (Nat.le_refl _) (by simp [I64])).rd
  have H46 := Lib.hid (H45.out.alloc (.cells (ints [0, 8, 8, 8, 0]).toArray 3))
  have H56 := Lib.hid (H5.out.alloc (.cells (ints [0, 8, 8, 8, 0]).toArray 3))
  have B6 := Lib.hid (B5.out.alloc B5.out.size (.cells (ints [0, 8, 8, 8, 0]).toArray 3))
  refine (eq_any A4 (some ⟨w5.heap.size, 0, none⟩) 5 5 c4 5 [0, 8, 8, 8, 0] [0, 8, 8, 8, 0] (w5.alloc (.cells (ints [0, 8, 8, 8, 0]).toArray 3)) H46.out HL.out).mono ?_; rintro e w' ⟨rfl, d1, rfl⟩
  rw [beq_self_eq_true]
  generalize hw6 : (w5.alloc (.cells (ints [0, 8, 8, 8, 0]).toArray 3)).drewN d1 = w6
  have H66 : Hid (RdL w6 A5 4 [[0, 1, 3, 2], [1, 2, 0, 3], [2, 3, 1, 0], [3, 0, 2, 1]]) := Lib.hid (by rw [← hw6]; exact H56.out.drewN d1)
  have B66 : Hid (Below w.heap.size w w6) := Lib.hid (by rw [← hw6]; exact below_drewN B6.out d1)
  clear hw6 HL H46 H56 B6 H45 H5 B5 H4 B4 H3 B3 B2 H1 B1
  go_wp2_with fail
  have HL4 := Lib.hid (lit4_rd w6 [0, 1, 3, 2] [1, 2, 0, 3] [2, 3, 1, 0] [3, 0, 2, 1] rfl rfl rfl rfl (by simp [I64]) (by simp [I64]) (by simp [I64]) (by simp [I64]))
  have HLB := Lib.hid (lit4_below w6 [0, 1, 3, 2] [1, 2, 0, 3] [2, 3, 1, 0] [3, 0, 2, 1])
  have HA := Lib.hid (H66.out.below HLB.out)
  refine (eqLists_any A5 _ 4 4 c5 4 _ _ (lit4 w6 [0, 1, 3, 2] [1, 2, 0, 3] [2, 3, 1, 0] [3, 0, 2, 1]) HA.out HL4.out (by omega) (by omega)).mono ?_; rintro e w' ⟨rfl, d2, rfl⟩
  rw [beq_self_eq_true]
  go_wp2
  go_ret
  exact ⟨rfl, below_drewN (B66.out.trans (HLB.out.mono B66.out.size)) _⟩
end Go.Proofs.Ytgnfkgmppeohoaa
