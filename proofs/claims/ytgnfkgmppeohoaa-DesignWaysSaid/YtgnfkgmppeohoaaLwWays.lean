/- Walk: the statement DesignWays. -/
import Derived.Test.YtgnfkgmppeohoaaMgT
import Derived.Test.YtgnfkgmppeohoaaMgR
namespace Go.Proofs.Ytgnfkgmppeohoaa
open Go.RowKit

/-- one of some numbers, the box g turned -/
def Picked (l : List Int) (g : Nat) (w : World) (e : Ending) (w' : World) : Prop := ∃ v : Int, e = .returned (.int .i64 v) ∧ v ∈ l ∧ Step g w w'
set_option maxHeartbeats 400000 in
theorem pick_any (g : Nat) (A : Option Addr) (n c : Nat) (l : List Int) (w : World) (hb : IsBox w g) (h : RdI w A n l) (hA : ∀ b, A.map (·.block) = some b → b ≠ g) (hn : 0 < n) (hn2 : n ≤ 1000) :
    Calls Try.prog 22 #[.pointer (some ⟨g, 0, none⟩), .slice A n c] w (Picked l g w) := by
  have g0 : ((n : Int) == 0) = false := by simp; omega
  go_enter Try.func22, Try.ntmps22
  go_wp2_with fail
  refine (up_any g n w hb (by omega) (by omega)).mono ?_; rintro e w2 ⟨v, rfl, hv0, hv1, hst⟩
  obtain ⟨v, rfl⟩ : ∃ v' : Nat, v = v' := ⟨v.toNat, by omega⟩
  have hvn : v < n := by omega
  have hr2 : RdI w2 A n l := h.grown hst.grown (fun b e1 e2 => by injection e1 with e1; exact hA b e2 e1.symm)
  obtain ⟨ad, x, rfl, _, hx, _, hc⟩ := hr2.at_ hvn
  have HST := Lib.hid hst
  have HX := Lib.hid (List.mem_of_getElem? hx.out)
  have hvI : (v : Int) < n := by omega
  clear hst hr2 hv1 hx h
  go_wp2
  go_ret
  exact ⟨x, rfl, HX.out, HST.out⟩

theorem RdI.spun0 {w w' : World} {g n : Nat} {A : Option Addr} {l : List Int} (h : RdI w A n l) (hs : Spun g w w') (hA : 0 < n → ∀ b, A.map (·.block) = some b → b ≠ g) : RdI w' A n l := by
  rcases Nat.eq_zero_or_pos n with h0 | h0
  · subst h0
    have hl : l = [] := List.eq_nil_of_length_eq_zero (by have := h.len; omega)
    subst hl
    exact RdI.nil_
  · exact h.spun hs (hA h0)
/-- a stock's two cells, and what lies behind them -/
structure StkAt (W : World) (q : Nat) (A : Option Addr) (n c : Nat) (l : List Int) (d : Int) : Prop where
  x : Blk W q 24 #[.slice A n c, .int .i64 d]
  rd : RdI W A n l
/-- the box, two stocks and a list, while the box is turned -/
structure WaysL (w : World) (g q0 q1 : Nat) (A0 A1 A : Option Addr) (n0 c0 n1 n c : Nat) (l0 l1 l : List Int) (d0 d : Int) (W : World) : Prop where
  s0 : StkAt W q0 A0 n0 c0 l0 d0
  s1 : StkAt W q1 A n c l d
  r : RdI W A1 n1 l1
  box : IsBox W g
  bel : Below w.heap.size w W
  ne : (0 < n0 → ∀ b, A0.map (·.block) = some b → b ≠ g) ∧ (0 < n → ∀ b, A.map (·.block) = some b → b ≠ g) ∧ (0 < n1 → ∀ b, A1.map (·.block) = some b → b ≠ g) ∧ q0 ≠ g ∧ q1 ≠ g ∧ w.heap.size ≤ g
section
variable {w W W' : World} {g q0 q1 : Nat} {A0 A1 A : Option Addr} {n0 c0 n1 n c : Nat} {l0 l1 l : List Int} {d0 d : Int}
theorem StkAt.below {q : Nat} (h : StkAt W q A n c l d) (hb : Below W.heap.size W W') : StkAt W' q A n c l d := ⟨h.x.below hb, h.rd.below hb⟩
theorem WaysL.below (h : WaysL w g q0 q1 A0 A1 A n0 c0 n1 n c l0 l1 l d0 d W) (hb : Below W.heap.size W W') : WaysL w g q0 q1 A0 A1 A n0 c0 n1 n c l0 l1 l d0 d W' :=
  ⟨h.s0.below hb, h.s1.below hb, h.r.below hb, h.box.below hb, h.bel.trans (hb.mono h.bel.size), h.ne⟩
theorem WaysL.keep (h : WaysL w g q0 q1 A0 A1 A n0 c0 n1 n c l0 l1 l d0 d W) : (W.cell? ⟨q0, 0, none⟩ = some (.slice A0 n0 c0) ∧ W.cell? ⟨q0, 1, none⟩ = some (.int .i64 d0)) ∧ (W.cell? ⟨q1, 0, none⟩ = some (.slice A n c) ∧ W.cell? ⟨q1, 1, none⟩ = some (.int .i64 d)) :=
  ⟨⟨by rw [h.s0.x.cell]; rfl, by rw [h.s0.x.cell]; rfl⟩, by rw [h.s1.x.cell]; rfl, by rw [h.s1.x.cell]; rfl⟩
theorem blk_new2 (w : World) (o : Obj) (t : TypeId) (cs : Array Value) : Blk ((w.alloc o).alloc (.cells cs t)) (w.heap.size + 1) t cs := by
  have h := Blk.new (w.alloc o) t cs
  rwa [show (w.alloc o).heap.size = w.heap.size + 1 by simp] at h
theorem WaysL.alloc (h : WaysL w g q0 q1 A0 A1 A n0 c0 n1 n c l0 l1 l d0 d W) (o : Obj) : WaysL w g q0 q1 A0 A1 A n0 c0 n1 n c l0 l1 l d0 d (W.alloc o) := h.below ((Below.refl _ W).alloc (Nat.le_refl _) o)
theorem WaysL.drew (h : WaysL w g q0 q1 A0 A1 A n0 c0 n1 n c l0 l1 l d0 d W) : WaysL w g q0 q1 A0 A1 A n0 c0 n1 n c l0 l1 l d0 d W.drew := h.below ((Below.refl _ W).drew)
theorem WaysL.spun (h : WaysL w g q0 q1 A0 A1 A n0 c0 n1 n c l0 l1 l d0 d W) (hs : Spun g W W') : WaysL w g q0 q1 A0 A1 A n0 c0 n1 n c l0 l1 l d0 d W' := by
  obtain ⟨n1', n2', n3', n4', n5', n6'⟩ := h.ne
  exact ⟨⟨h.s0.x.grown hs.grown (fun e => by injection e with e; exact n4' e), h.s0.rd.spun0 hs n1'⟩, ⟨h.s1.x.grown hs.grown (fun e => by injection e with e; exact n5' e), h.s1.rd.spun0 hs n2'⟩, h.r.spun0 hs n3', hs.box, h.bel.trans (hs.below n6' h.bel.size), h.ne⟩
end

/-- what a round reads -/
structure WaysR (v1 : World) (qs qp t s14 : Nat) (A P M Q : Option Addr) (n c m e cm cq : Nat) (l p : List Int) (d : Int) (W : World) : Prop where
  a0 : W.cell? ⟨qs, t * 2, none⟩ = some (.slice A n c)
  a1 : W.cell? ⟨qs, t * 2 + 1, none⟩ = some (.int .i64 d)
  a2 : W.cell? ⟨qp, t, none⟩ = some (.slice P m e)
  mine : Blk W s14 24 #[.slice M n cm, .int .i64 d]
  ra : RdI W A n l
  rp : RdI W P m p
  rm : RdI W M n l
  rq : RdI W Q m p
  lt : qs < W.heap.size ∧ qp < W.heap.size
  bel : Below v1.heap.size v1 W
theorem WaysR.below {v1 W W' : World} {qs qp t s14 : Nat} {A P M Q : Option Addr} {n c m e cm cq : Nat} {l p : List Int} {d : Int} (h : WaysR v1 qs qp t s14 A P M Q n c m e cm cq l p d W) (hb : Below W.heap.size W W') : WaysR v1 qs qp t s14 A P M Q n c m e cm cq l p d W' :=
  ⟨(hb.cell (p := ⟨qs, t * 2, none⟩) h.lt.1).trans h.a0, (hb.cell (p := ⟨qs, t * 2 + 1, none⟩) h.lt.1).trans h.a1, (hb.cell (p := ⟨qp, t, none⟩) h.lt.2).trans h.a2, h.mine.below hb, h.ra.below hb, h.rp.below hb, h.rm.below hb, h.rq.below hb, ⟨Nat.lt_of_lt_of_le h.lt.1 hb.size, Nat.lt_of_lt_of_le h.lt.2 hb.size⟩, h.bel.trans (hb.mono h.bel.size)⟩
theorem WaysR.drewN {v1 W : World} {qs qp t s14 : Nat} {A P M Q : Option Addr} {n c m e cm cq : Nat} {l p : List Int} {d : Int} (h : WaysR v1 qs qp t s14 A P M Q n c m e cm cq l p d W) (k : Nat) : WaysR v1 qs qp t s14 A P M Q n c m e cm cq l p d (W.drewN k) := h.below (below_drewN (Below.refl _ _) k)

set_option maxHeartbeats 4000000 in
set_option maxRecDepth 100000 in
theorem designWays_any (A0 : Option Addr) (n0 c0 : Nat) (A1 : Option Addr) (n1 c1 : Nat) (A2 : Option Addr) (n2 c2 : Nat) (l0 : List Int) (d0 : Int) (l1 nums : List Int) (w : World) (h0 : RdI w A0 n0 l0) (hd0 : I64 d0) (h1 : RdI w A1 n1 l1) (h2 : RdI w A2 n2 nums) :
    Calls Try.prog 3 #[.agg #[.slice A0 n0 c0, .int .i64 d0], .slice A1 n1 c1, .slice A2 n2 c2] w fun e w' => e = .returned (.bool true) ∧ Below w.heap.size w w' := by
  have hbd := h0.bd
  have hbd1 := h1.bd
  go_enter Try.func3, Try.ntmps3
  go_upto_region 1 with fail
  have HA := Lib.hid (h0.alloc (.cells #[.slice A0 n0 c0, .int .i64 d0] 24))
  have HP := Lib.hid (h1.alloc (.cells #[.slice A0 n0 c0, .int .i64 d0] 24))
  have HN := Lib.hid (h2.alloc (.cells #[.slice A0 n0 c0, .int .i64 d0] 24))
  have HB := Lib.hid ((Below.refl _ w).alloc (Nat.le_refl _) (.cells #[.slice A0 n0 c0, .int .i64 d0] 24))
  have HX := Lib.hid (Blk.new w 24 #[.slice A0 n0 c0, .int .i64 d0])
  clear h0 h1 h2
  generalize w.alloc (.cells #[.slice A0 n0 c0, .int .i64 d0] 24) = W at HA HB HX HN HP ⊢
  have k0 : W.cell? ⟨w.heap.size, 0, none⟩ = some (.slice A0 n0 c0) := by rw [HX.out.cell]; rfl
  have k1 : W.cell? ⟨w.heap.size, 1, none⟩ = some (.int .i64 d0) := by rw [HX.out.cell]; rfl
  by_cases hlong : 40 < n0
  · have gl : decide (40 < n0) = true := decide_eq_true hlong
    go_wp2_with fail
    refine (long5_any A0 n0 c0 W hbd).mono ?_; rintro e w' ⟨rfl, rfl⟩
    rw [gl]
    go_wp2_with fail
    refine (awake5_any W).mono ?_; rintro e w8 ⟨rfl, hb8⟩
    have HBF := Lib.hid (HB.out.trans (hb8.mono HB.out.size))
    clear hb8
    go_wp2
    go_ret
    exact ⟨rfl, HBF.out⟩
  have gl : decide (40 < n0) = false := decide_eq_false hlong
  by_cases hlong1 : 40 < n1
  · have gl1 : decide (40 < n1) = true := decide_eq_true hlong1
    go_wp2_with fail
    refine (long5_any A0 n0 c0 W hbd).mono ?_; rintro e w' ⟨rfl, rfl⟩
    rw [gl]
    go_wp2_with fail
    refine (long5_any A1 n1 c1 W hbd1).mono ?_; rintro e w' ⟨rfl, rfl⟩
    rw [gl1]
    go_wp2_with fail
    refine (awake5_any W).mono ?_; rintro e w8 ⟨rfl, hb8⟩
    have HBF := Lib.hid (HB.out.trans (hb8.mono HB.out.size))
    clear hb8
    go_wp2
    go_ret
    exact ⟨rfl, HBF.out⟩
  have gl1 : decide (40 < n1) = false := decide_eq_false hlong1
  go_wp2_with fail
  refine (long5_any A0 n0 c0 W hbd).mono ?_; rintro e w' ⟨rfl, rfl⟩
  rw [gl]
  go_wp2_with fail
  refine (long5_any A1 n1 c1 W hbd1).mono ?_; rintro e w' ⟨rfl, rfl⟩
  rw [gl1]
  go_wp2_with fail
  refine (boxOf_any A2 n2 c2 nums W HN.out).mono ?_; rintro e w1 ⟨g, rfl, hg, hbox, hb1⟩
  have HA1 := Lib.hid (HA.out.below hb1)
  have HP1 := Lib.hid (HP.out.below hb1)
  have HX1 := Lib.hid (HX.out.below hb1)
  have HBX := Lib.hid hbox
  have HB1 := Lib.hid (HB.out.trans (hb1.mono HB.out.size))
  have hxl := HX.out.lt
  have hgw : w.heap.size < g := by omega
  have HAb : Hid (0 < n0 → ∀ b, A0.map (·.block) = some b → b ≠ g) := Lib.hid (fun hn b e => by have := HA.out.block hn e; have h9 : W.heap.size ≤ g := hg; omega)
  have HPb : Hid (0 < n1 → ∀ b, A1.map (·.block) = some b → b ≠ g) := Lib.hid (fun hn b e => by have := HP.out.block hn e; have h9 : W.heap.size ≤ g := hg; omega)
  have hgl := hbox.lt
  clear hbox hb1 HA HP HX HN HB k0 k1 hg
  have HLT := Lib.hid (OwnI.lit w1 3 [3, 9] 2 (by omega) rfl w1.heap.size (Nat.le_refl _) (by simp [I64])).rd
  go_wp2_with fail
  refine (pick_any g (some ⟨w1.heap.size, 0, none⟩) 2 2 [3, 9] (w1.alloc (.cells #[.int .i64 3, .int .i64 9] 3)) (HBX.out.alloc _) HLT.out (fun b e => by have h9 : w1.heap.size = b := (by injection e); omega) (by omega) (by omega)).mono ?_; rintro e w2 ⟨v, rfl, hv, hst⟩
  obtain ⟨cnt, rfl, hc1, hc9⟩ : ∃ cnt : Nat, v = cnt ∧ 1 ≤ cnt ∧ cnt ≤ 9 := by
    rcases List.mem_cons.1 hv with rfl | hv
    · exact ⟨3, rfl, by omega, by omega⟩
    · simp at hv; subst hv; exact ⟨9, rfl, by omega, by omega⟩
  have HA2 := Lib.hid ((HA1.out.alloc (.cells #[.int .i64 3, .int .i64 9] 3)).spun0 hst.spun HAb.out)
  have HP2 := Lib.hid ((HP1.out.alloc (.cells #[.int .i64 3, .int .i64 9] 3)).spun0 hst.spun HPb.out)
  have HX2 : Hid (Blk w2 w.heap.size 24 #[.slice A0 n0 c0, .int .i64 d0]) := Lib.hid ((HX1.out.alloc (.cells #[.int .i64 3, .int .i64 9] 3)).grown hst.grown (fun e => by injection e with e; omega))
  have HBX2 := Lib.hid hst.box
  have HB2 := Lib.hid ((HB1.out.alloc HB1.out.size (.cells #[.int .i64 3, .int .i64 9] 3)).trans (hst.below (Nat.le_of_lt hgw)))
  have hgl2 := hst.box.lt
  clear hv hst HA1 HP1 HX1 HBX HB1 HLT
  go_wp2_with fail
  refine (stockOf_any g 6 cnt 9 w2 HBX2.out (by omega) (by omega) hc1 hc9 (by omega) (by omega)).mono ?_; rintro e w3 ⟨A, n, c, l, d, rfl, hbd8, h4, hown, hsp⟩
  have hd1 : 1 ≤ d := hbd8.2.2.1
  have hd9 : d ≤ 9 := hbd8.2.2.2.1
  have hn6 : n ≤ 6 := hbd8.2.1
  have hn1 : 1 ≤ n := hbd8.1
  have HZ := Lib.hid (stock_chk (kinds := 6) hown.len hbd8.1 (by omega) h4 hc9 hd1 hd9 hbd8.2.2.2.2)
  have H9 : Hid (∀ x ∈ l, 1 ≤ x ∧ x ≤ 9) := Lib.hid (fun x hx => by have := h4 x hx; omega)
  have HDS := Lib.hid hbd8.2.2.2.2
  have HL0 : Hid (WaysL w g w.heap.size w3.heap.size A0 A1 A n0 c0 n1 n c l0 l1 l d0 d (w3.alloc (.cells #[.slice A n c, .int .i64 d] 24))) := Lib.hid (by
    have hg3 := hsp.grown.size
    refine ⟨⟨(HX2.out.grown hsp.grown (fun e => by injection e with e; omega)).alloc _, (HA2.out.spun0 hsp HAb.out).alloc _⟩, ⟨Blk.new w3 _ _, hown.rd.alloc _⟩, (HP2.out.spun0 hsp HPb.out).alloc _, hsp.box.alloc _, (HB2.out.trans (hsp.below (Nat.le_of_lt hgw) HB2.out.size)).alloc (Nat.le_trans HB2.out.size hg3) _, HAb.out, fun _ b e => ?_, HPb.out, by omega, by omega, by omega⟩
    have := (hown.1.block e).1
    omega)
  clear hbd8 h4 hown hsp HA2 HP2 HX2 HBX2 HB2
  go_upto_region 5 with fail
  generalize w3.alloc (.cells #[.slice A n c, .int .i64 d] 24) = W4 at HL0 ⊢
  obtain ⟨q1, hq1⟩ : ∃ q1, w3.heap.size = q1 := ⟨_, rfl⟩
  rw [hq1] at HL0 ⊢
  clear hq1
  have k0 : W4.cell? ⟨q1, 0, none⟩ = some (.slice A n c) := by rw [HL0.out.s1.x.cell]; rfl
  have k1 : W4.cell? ⟨q1, 1, none⟩ = some (.int .i64 d) := by rw [HL0.out.s1.x.cell]; rfl
  go_wp2_with fail
  refine (courseOf_any g A n c l d W4 HL0.out.box HL0.out.s1.rd (HL0.out.ne.2.1 hn1) hn6 H9.out HDS.out).mono ?_; rintro e w5 ⟨B, cb, L, rfl, hco, hown, hsp⟩
  have HL1 := Lib.hid (HL0.out.spun hsp)
  have hLd : L.length = d := hco.len
  have HLD := Lib.hid hLd
  have HOB := Lib.hid hown.rd
  clear hco hown hsp HL0 k0 k1 hLd
  go_wp2_with fail
  refine (refOf_any B d cb L w5 HOB.out).mono ?_; rintro e w6 ⟨A6, c6, rfl, ho6, hb6⟩
  rw [show ofE L = (ofL L, 0) by unfold ofE; rw [if_neg (by rw [HLD.out]; omega), if_neg (by rw [HLD.out]; omega)]] at ho6 ⊢
  simp only at ho6 ⊢
  rw [ofL_length, HLD.out] at ho6 ⊢
  have HL2 := Lib.hid (HL1.out.below hb6)
  have HO6 := Lib.hid ho6.rd
  have hA6 : ∀ b, A6.map (·.block) = some b → b ≠ g := fun b e => by
    have h1 := (ho6.1.block e).1
    have h2 := HL1.out.box.lt
    omega
  have HA6 := Lib.hid hA6
  clear ho6 hb6 HL1 HOB hA6
  generalize ofL L = p6 at HO6 ⊢
  obtain ⟨v0, rfl⟩ : ∃ v0 : World, v0 = w6 := ⟨_, rfl⟩
  go_upto_region 6 with fail
  have k0 : v0.cell? ⟨w.heap.size, 0, none⟩ = some (.slice A0 n0 c0) := by rw [HL2.out.s0.x.cell]; rfl
  have k1 : v0.cell? ⟨w.heap.size, 1, none⟩ = some (.int .i64 d0) := by rw [HL2.out.s0.x.cell]; rfl
  have k2 : v0.cell? ⟨q1, 0, none⟩ = some (.slice A n c) := by rw [HL2.out.s1.x.cell]; rfl
  have k3 : v0.cell? ⟨q1, 1, none⟩ = some (.int .i64 d) := by rw [HL2.out.s1.x.cell]; rfl
  go_cut [11, 12] (fun ss ps W => ∃ (qs qp : Nat) (B : Option Addr) (kp cp : Nat) (pp : List Int), ss = .slice (some ⟨qs, 0, none⟩) 4 4 ∧ ps = .slice (some ⟨qp, 0, none⟩) 4 4 ∧ Blk W qs 24 #[.slice A0 n0 c0, .int .i64 d0, .slice A n c, .int .i64 d, .slice A n c, .int .i64 d, .slice A0 n0 c0, .int .i64 d0] ∧
    Blk W qp 22 #[.slice A1 n1 c1, .slice A6 d c6, .slice A1 n1 c1, .slice B kp cp] ∧ RdI W B kp pp ∧ kp ≤ 9 ∧ RdI W A6 d p6 ∧ WaysL w g w.heap.size q1 A0 A1 A n0 c0 n1 n c l0 l1 l d0 d W)
  case first =>
    have HLX := Lib.hid (HL2.out.alloc (.cells #[.slice A0 n0 c0, .int .i64 d0, .slice A n c, .int .i64 d, .slice A n c, .int .i64 d, .slice A0 n0 c0, .int .i64 d0] 24))
    have HOX := Lib.hid (HO6.out.alloc (.cells #[.slice A0 n0 c0, .int .i64 d0, .slice A n c, .int .i64 d, .slice A n c, .int .i64 d, .slice A0 n0 c0, .int .i64 d0] 24))
    have HQX : Hid (Blk (v0.alloc (.cells #[.slice A0 n0 c0, .int .i64 d0, .slice A n c, .int .i64 d, .slice A n c, .int .i64 d, .slice A0 n0 c0, .int .i64 d0] 24)) v0.heap.size 24 #[.slice A0 n0 c0, .int .i64 d0, .slice A n c, .int .i64 d, .slice A n c, .int .i64 d, .slice A0 n0 c0, .int .i64 d0]) := Lib.hid (Blk.new _ _ _)
    have hgv : g < v0.heap.size := HL2.out.box.lt
    go_region_held3 (fun w' => (w'.cell? ⟨w.heap.size, 0, none⟩ = some (.slice A0 n0 c0) ∧ w'.cell? ⟨w.heap.size, 1, none⟩ = some (.int .i64 d0)) ∧ (w'.cell? ⟨q1, 0, none⟩ = some (.slice A n c) ∧ w'.cell? ⟨q1, 1, none⟩ = some (.int .i64 d))) (first | exact ⟨⟨k0, k1⟩, k2, k3⟩ | exact HLX.out.keep | exact HL7.out.keep | exact (HL7.out.alloc _).keep | exact HL8.out.keep | exact (HL8.out.alloc _).keep | exact ((HL8.out.alloc _).alloc _).keep) (first
      | (go_at_call 26; ((with_reducible refine (any_any g 1 9 (v0.alloc (.cells #[.slice A0 n0 c0, .int .i64 d0, .slice A n c, .int .i64 d, .slice A n c, .int .i64 d, .slice A0 n0 c0, .int .i64 d0] 24)).drew HLX.out.drew.box (by omega) (by omega) (by omega) (by omega)).mono ?_); rintro e w7 ⟨kp, rfl, hkp0, hkp9, hst⟩; have HL7 := Lib.hid (HLX.out.drew.spun hst.spun); have HO7 := Lib.hid (HOX.out.drew.spun hst.spun HA6.out); have HQ7 : Hid (Blk w7 v0.heap.size 24 #[.slice A0 n0 c0, .int .i64 d0, .slice A n c, .int .i64 d, .slice A n c, .int .i64 d, .slice A0 n0 c0, .int .i64 d0]) := Lib.hid (HQX.out.drew.grown hst.grown (fun e => by injection e with e; omega)); clear hst; obtain ⟨kp, rfl⟩ : ∃ kp' : Nat, kp = kp' := ⟨kp.toNat, by omega⟩))
      | (go_at_call 26; ((with_reducible refine (any_any g 1 9 v0.drew HL2.out.drew.box (by omega) (by omega) (by omega) (by omega)).mono ?_); rintro e w7 ⟨kp, rfl, hkp0, hkp9, hst⟩; have HL7 := Lib.hid (HL2.out.drew.spun hst.spun); have HO7 := Lib.hid (HO6.out.drew.spun hst.spun HA6.out); clear hst; obtain ⟨kp, rfl⟩ : ∃ kp' : Nat, kp = kp' := ⟨kp.toNat, by omega⟩))
      | (go_at_call 25; ((with_reducible refine (partitionOf_any g kp w7 HL7.out.box (by omega) (by omega)).mono ?_); rintro e w8 ⟨B, cp, pp, rfl, hckp, hop, hsp⟩; have HL8 := Lib.hid (HL7.out.spun hsp); have HO8 := Lib.hid (HO7.out.spun hsp HA6.out); have HQ8 : Hid (Blk w8 v0.heap.size 24 #[.slice A0 n0 c0, .int .i64 d0, .slice A n c, .int .i64 d, .slice A n c, .int .i64 d, .slice A0 n0 c0, .int .i64 d0]) := Lib.hid (HQ7.out.grown hsp.grown (fun e => by injection e with e; omega))))
      | (go_at_call 25; ((with_reducible refine (partitionOf_any g kp (w7.alloc (.cells #[.slice A0 n0 c0, .int .i64 d0, .slice A n c, .int .i64 d, .slice A n c, .int .i64 d, .slice A0 n0 c0, .int .i64 d0] 24)) (HL7.out.alloc _).box (by omega) (by omega)).mono ?_); rintro e w8 ⟨B, cp, pp, rfl, hckp, hop, hsp⟩; have HL8 := Lib.hid ((HL7.out.alloc (.cells #[.slice A0 n0 c0, .int .i64 d0, .slice A n c, .int .i64 d, .slice A n c, .int .i64 d, .slice A0 n0 c0, .int .i64 d0] 24)).spun hsp); have HO8 := Lib.hid ((HO7.out.alloc (.cells #[.slice A0 n0 c0, .int .i64 d0, .slice A n c, .int .i64 d, .slice A n c, .int .i64 d, .slice A0 n0 c0, .int .i64 d0] 24)).spun hsp HA6.out); have HQ8 : Hid (Blk w8 w7.heap.size 24 #[.slice A0 n0 c0, .int .i64 d0, .slice A n c, .int .i64 d, .slice A n c, .int .i64 d, .slice A0 n0 c0, .int .i64 d0]) := Lib.hid ((Blk.new w7 _ _).grown hsp.grown (fun e => by injection e with e; have := HL7.out.box.lt; omega))))
      | (go_at_call 25; ((with_reducible refine (partitionOf_any g kp w7 HL7.out.box (by omega) (by omega)).mono ?_); rintro e w8 ⟨B, cp, pp, rfl, hckp, hop, hsp⟩; have HL8 := Lib.hid (HL7.out.spun hsp); have HO8 := Lib.hid (HO7.out.spun hsp HA6.out))))
    all_goals
      have hkp : kp ≤ 9 := by omega
      go_wp2
      go_meet
      first
        | exact ⟨_, _, _, _, _, _, rfl, rfl, HQ8.out.alloc _, Blk.new w8 _ _, hop.rd.alloc _, hkp, HO8.out.alloc _, HL8.out.alloc _⟩
        | exact ⟨_, _, _, _, _, _, rfl, rfl, (Blk.new w8 _ _).alloc _, blk_new2 w8 _ _ _, (hop.rd.alloc _).alloc _, hkp, (HO8.out.alloc _).alloc _, (HL8.out.alloc _).alloc _⟩
        | exact ⟨_, _, _, _, _, _, rfl, rfl, blk_new2 w8 _ _ _, (Blk.new w8 _ _).alloc _, (hop.rd.alloc _).alloc _, hkp, (HO8.out.alloc _).alloc _, (HL8.out.alloc _).alloc _⟩
  case rest =>
    obtain ⟨qs, qp, B, kp, cp, pp, rfl, rfl, hbs, hbp, hrb, hkp, hr6, hl⟩ := hcut
    have HBW := Lib.hid hl.bel
    have HFT : Hid (∀ t : Nat, t < 4 → ∀ Wx, Below wc.heap.size wc Wx → ∃ (A' : Option Addr) (n' c' : Nat) (l' : List Int) (d' : Int) (P' : Option Addr) (m' e' : Nat) (p' : List Int), Wx.cell? ⟨qs, t * 2, none⟩ = some (.slice A' n' c') ∧ Wx.cell? ⟨qs, t * 2 + 1, none⟩ = some (.int .i64 d') ∧ Wx.cell? ⟨qp, t, none⟩ = some (.slice P' m' e') ∧
        RdI Wx A' n' l' ∧ I64 d' ∧ RdI Wx P' m' p' ∧ n' ≤ 40 ∧ m' ≤ 40) := Lib.hid (by
      intro t ht Wx hW
      have e1 := hbs.below hW
      have e2 := hbp.below hW
      have r0 := hl.s0.rd.below hW
      have r1 := hl.s1.rd.below hW
      have r2 := hl.r.below hW
      have r3 := hrb.below hW
      have r4 := hr6.below hW
      have i1 : I64 (d : Int) := I64.small (by omega)
      match t, ht with
      | 0, _ => exact ⟨A0, n0, c0, l0, d0, A1, n1, c1, l1, by rw [e1.cell]; rfl, by rw [e1.cell]; rfl, by rw [e2.cell]; rfl, r0, hd0, r2, by omega, by omega⟩
      | 1, _ => exact ⟨A, n, c, l, d, A6, d, c6, p6, by rw [e1.cell]; rfl, by rw [e1.cell]; rfl, by rw [e2.cell]; rfl, r1, i1, r4, by omega, by omega⟩
      | 2, _ => exact ⟨A, n, c, l, d, A1, n1, c1, l1, by rw [e1.cell]; rfl, by rw [e1.cell]; rfl, by rw [e2.cell]; rfl, r1, i1, r2, by omega, by omega⟩
      | 3, _ => exact ⟨A0, n0, c0, l0, d0, B, kp, cp, pp, by rw [e1.cell]; rfl, by rw [e1.cell]; rfl, by rw [e2.cell]; rfl, r0, hd0, r3, by omega, by omega⟩)
    have hqs := hbs.lt
    have hqp := hbp.lt
    clear hbs hbp hrb hr6 hl hkp HL2 HO6 k0 k1 k2 k3
    go_wp2_with fail
    go_loopw [13] (fun i wr => ∃ t : Nat, t ≤ 4 ∧ i = .int .i64 t ∧ Below wc.heap.size wc wr) (fun i _ => 4 - (intOf i).toNat)
    case atStart => exact ⟨0, by omega, rfl, Below.refl _ _⟩
    case round =>
      obtain ⟨t, ht, rfl, hbel⟩ := hrel
      have HBE := Lib.hid hbel
      have hszr := hbel.size
      clear hbel
      by_cases hlt : t < 4
      · obtain ⟨A', n', c', l', d', P', m', e', p', a0, a1, a2, ra, hd', rp, hn40, hm40⟩ := HFT.out t hlt wr HBE.out
        have HRA := Lib.hid ra
        have HRP := Lib.hid rp
        have HD := Lib.hid hd'
        have HL1 := Lib.hid ra.len
        have HL2 := Lib.hid rp.len
        have hqs2 : qs < wr.heap.size := by omega
        have hqp2 : qp < wr.heap.size := by omega
        clear ra rp hd'
        obtain ⟨v1, rfl⟩ : ∃ v1 : World, v1 = wr := ⟨_, rfl⟩
        go_upto_region 10 with fail
        go_cut [14, 15] (fun x y W => ∃ (s14 : Nat) (M : Option Addr) (cm : Nat) (Q : Option Addr) (cq : Nat), x = .pointer (some ⟨s14, 0, none⟩) ∧ y = .slice Q m' cq ∧ Blk W s14 24 #[.slice M n' cm, .int .i64 d'] ∧ RdI W M n' l' ∧ RdI W Q m' p' ∧ Below v1.heap.size v1 W)
        case first =>
          have HKK : Hid (∀ Wx, Below v1.heap.size v1 Wx → (Wx.cell? ⟨qs, t * 2, none⟩ = some (.slice A' n' c') ∧ Wx.cell? ⟨qs, t * 2 + 1, none⟩ = some (.int .i64 d')) ∧ Wx.cell? ⟨qp, t, none⟩ = some (.slice P' m' e')) := Lib.hid (fun Wx hb => ⟨⟨(hb.cell (p := ⟨qs, t * 2, none⟩) hqs2).trans a0, (hb.cell (p := ⟨qs, t * 2 + 1, none⟩) hqs2).trans a1⟩, (hb.cell (p := ⟨qp, t, none⟩) hqp2).trans a2⟩)
          have HBD := Lib.hid ((Below.refl v1.heap.size v1).drew)
          have HBA := Lib.hid ((Below.refl v1.heap.size v1).alloc (Nat.le_refl _) (.cells #[.slice none 0 0, .int .i64 0] 24))
          go_region_held3 (fun w' => (w'.cell? ⟨qs, t * 2, none⟩ = some (.slice A' n' c') ∧ w'.cell? ⟨qs, t * 2 + 1, none⟩ = some (.int .i64 d')) ∧ w'.cell? ⟨qp, t, none⟩ = some (.slice P' m' e')) (first | exact ⟨⟨a0, a1⟩, a2⟩ | exact HKK.out _ HBA.out | exact HKK.out _ HB6.out | exact HKK.out _ (HB6.out.alloc HB6.out.size _) | exact HKK.out _ HB7.out | exact HKK.out _ (HB7.out.alloc HB7.out.size _) | exact HKK.out _ HBS.out | exact HKK.out _ (HBA.out.drew)) (first
            | (go_at_call 27; ((with_reducible refine (ints_any A' n' c' l' v1.drew HRA.out.drew (by omega)).mono ?_); rintro e w6 ⟨M, cm, rfl, ho6, hb6⟩; have HB6 := Lib.hid (HBD.out.trans hb6); rw [HL1.out] at ho6 ⊢))
            | (go_at_call 27; ((with_reducible refine (ints_any A' n' c' l' (v1.alloc (.cells #[.slice none 0 0, .int .i64 0] 24)).drew (HRA.out.alloc _).drew (by omega)).mono ?_); rintro e w6 ⟨M, cm, rfl, ho6, hb6⟩; have HB6 := Lib.hid (HBA.out.trans ((Below.refl _ _).drew.trans hb6 |>.mono (Nat.le_of_lt (by simp)))); have HZ6 := Lib.hid (((Blk.new v1 24 #[.slice none 0 0, .int .i64 0]).drew).below hb6); rw [HL1.out] at ho6 ⊢))
            | (go_at_call 27; ((with_reducible refine (ints_any P' m' e' p' w6 (HRP.out.below HB6.out) (by omega)).mono ?_); rintro e w7 ⟨Q, cq, rfl, ho7, hb7⟩; have HZ7 := Lib.hid (HZ6.out.below hb7); have HB7 := Lib.hid (HB6.out.trans (hb7.mono HB6.out.size)); have HO67 := Lib.hid (ho6.rd.below hb7); have HBS := Lib.hid ((HB7.out.setCell (p := ⟨v1.heap.size, 0, none⟩) (Nat.le_refl _) (.slice M n' cm)).setCell (p := ⟨v1.heap.size, 1, none⟩) (Nat.le_refl _) (.int .i64 d')); have HMN : Hid (∀ b, M.map (·.block) = some b → b ≠ v1.heap.size) := Lib.hid (fun b e => by have h9 := (ho6.1.block e).1; simp at h9; omega); have HQN : Hid (∀ b, Q.map (·.block) = some b → b ≠ v1.heap.size) := Lib.hid (fun b e => by have h9 := (ho7.1.block e).1; have h8 := HZ6.out.lt; omega); have z0 : w7.cell? ⟨v1.heap.size, 0, none⟩ = some (.slice none 0 0) := (HZ7.out.cell 0).trans rfl; have z1 : w7.cell? ⟨v1.heap.size, 1, none⟩ = some (.int .i64 0) := (HZ7.out.cell 1).trans rfl; have f0 := HZ7.out.frozen 0; have f1 := HZ7.out.frozen 1; rw [HL2.out] at ho7 ⊢))
            | (go_at_call 27; ((with_reducible refine (ints_any P' m' e' p' w6 (HRP.out.below HB6.out) (by omega)).mono ?_); rintro e w7 ⟨Q, cq, rfl, ho7, hb7⟩; have HB7 := Lib.hid (HB6.out.trans (hb7.mono HB6.out.size)); have HO67 := Lib.hid (ho6.rd.below hb7); rw [HL2.out] at ho7 ⊢))
            | (go_at_call 27; ((with_reducible refine (ints_any P' m' e' p' (w6.alloc (.cells #[.slice none 0 0, .int .i64 0] 24)) ((HRP.out.below HB6.out).alloc _) (by omega)).mono ?_); rintro e w7 ⟨Q, cq, rfl, ho7, hb7⟩; have HB7 := Lib.hid ((HB6.out.alloc HB6.out.size (.cells #[.slice none 0 0, .int .i64 0] 24)).trans (hb7.mono (HB6.out.alloc HB6.out.size (.cells #[.slice none 0 0, .int .i64 0] 24)).size)); have HO67 := Lib.hid ((ho6.rd.alloc (.cells #[.slice none 0 0, .int .i64 0] 24)).below hb7); have HZ7 := Lib.hid ((Blk.new w6 24 #[.slice none 0 0, .int .i64 0]).below hb7); have HBS := Lib.hid ((HB7.out.setCell (p := ⟨w6.heap.size, 0, none⟩) HB6.out.size (.slice M n' cm)).setCell (p := ⟨w6.heap.size, 1, none⟩) HB6.out.size (.int .i64 d')); have HMN : Hid (∀ b, M.map (·.block) = some b → b ≠ w6.heap.size) := Lib.hid (fun b e => by have h9 := (ho6.1.block e).2; omega); have HQN : Hid (∀ b, Q.map (·.block) = some b → b ≠ w6.heap.size) := Lib.hid (fun b e => by have h9 := (ho7.1.block e).1; simp at h9; omega); have z0 : w7.cell? ⟨w6.heap.size, 0, none⟩ = some (.slice none 0 0) := (HZ7.out.cell 0).trans rfl; have z1 : w7.cell? ⟨w6.heap.size, 1, none⟩ = some (.int .i64 0) := (HZ7.out.cell 1).trans rfl; have f0 := HZ7.out.frozen 0; have f1 := HZ7.out.frozen 1; rw [HL2.out] at ho7 ⊢)))
          all_goals
            have HO7 := Lib.hid ho7.rd
            go_wp2
            go_meet
            first
              | exact ⟨_, _, _, _, _, rfl, rfl, Blk.new w7 _ _, HO67.out.alloc _, HO7.out.alloc _, HB7.out.alloc HB7.out.size _⟩
              | exact ⟨_, _, _, _, _, rfl, rfl, (HZ7.out.set_ 0 _).set_ 1 _, (HO67.out.setCell (p := ⟨_, 0, none⟩) (fun e => HMN.out _ e rfl) _).setCell (p := ⟨_, 1, none⟩) (fun e => HMN.out _ e rfl) _, (HO7.out.setCell (p := ⟨_, 0, none⟩) (fun e => HQN.out _ e rfl) _).setCell (p := ⟨_, 1, none⟩) (fun e => HQN.out _ e rfl) _, HBS.out⟩
        case rest =>
          obtain ⟨s14, M, cm, Q, cq, rfl, rfl, hbm, hrm, hrq, hb6⟩ := hcut
          have HW0 := Lib.hid (show WaysR v1 qs qp t s14 A' P' M Q n' c' m' e' cm cq l' p' d' wc from ⟨(hb6.cell (p := ⟨qs, t * 2, none⟩) hqs2).trans a0, (hb6.cell (p := ⟨qs, t * 2 + 1, none⟩) hqs2).trans a1, (hb6.cell (p := ⟨qp, t, none⟩) hqp2).trans a2, hbm, HRA.out.below hb6, HRP.out.below hb6, hrm, hrq, ⟨by have := hb6.size; omega, by have := hb6.size; omega⟩, hb6⟩)
          clear hbm hrm hrq hb6 a0 a1 a2 HRA HRP
          have m0 : wc.cell? ⟨s14, 0, none⟩ = some (.slice M n' cm) := (HW0.out.mine.cell 0).trans rfl
          have m1 : wc.cell? ⟨s14, 1, none⟩ = some (.int .i64 d') := (HW0.out.mine.cell 1).trans rfl
          go_wp2_with fail
          refine (ways_any M n' cm l' d' wc HW0.out.rm HD.out).mono ?_; rintro e w7 ⟨rfl, b7⟩
          obtain ⟨x, hx⟩ : ∃ x, waysE l' d' = x := ⟨_, rfl⟩
          rw [hx]
          have HXE := Lib.hid hx
          have HW1 := Lib.hid (HW0.out.below b7)
          clear b7 HW0 m0 m1 hx
          have a0 := HW1.out.a0
          have a1 := HW1.out.a1
          go_wp2_with fail
          refine (rways_any A' n' c' l' d' w7 HW1.out.ra HD.out).mono ?_; rintro e w8 ⟨rfl, b8⟩
          rw [HXE.out]
          have HW2 := Lib.hid (HW1.out.below b8)
          clear b8 HW1 a0 a1 HXE
          have m0 : w8.cell? ⟨s14, 0, none⟩ = some (.slice M n' cm) := (HW2.out.mine.cell 0).trans rfl
          have m1 : w8.cell? ⟨s14, 1, none⟩ = some (.int .i64 d') := (HW2.out.mine.cell 1).trans rfl
          go_wp2_with fail
          refine (chancePE_any M Q n' cm m' cq l' p' d' w8 HW2.out.rm HW2.out.rq HD.out).mono ?_; rintro e w9 ⟨rfl, b9⟩
          obtain ⟨y, hy⟩ : ∃ y, chanceE l' d' p' = y := ⟨_, rfl⟩
          rw [hy]
          have HYE := Lib.hid hy
          have HW3 := Lib.hid (HW2.out.below b9)
          clear b9 HW2 m0 m1 hy
          have a0 := HW3.out.a0
          have a1 := HW3.out.a1
          have a2 := HW3.out.a2
          go_upto_region 14 with fail
          go_region_held3 (fun w' => (w'.cell? ⟨qs, t * 2, none⟩ = some (.slice A' n' c') ∧ w'.cell? ⟨qs, t * 2 + 1, none⟩ = some (.int .i64 d')) ∧ w'.cell? ⟨qp, t, none⟩ = some (.slice P' m' e')) (first | exact ⟨⟨a0, a1⟩, a2⟩ | exact ⟨⟨HW4.out.a0, HW4.out.a1⟩, HW4.out.a2⟩ | exact ⟨⟨a0, a1⟩, a2⟩) (first
            | (go_at_call 31; refine (rchanceE_any A' P' n' c' m' e' l' p' d' w9.drew HW3.out.ra.drew HW3.out.rp.drew HD.out).mono ?_; rintro e w10 ⟨rfl, b10⟩; rw [HYE.out]; have HW4 := Lib.hid (HW3.out.below ((Below.refl _ w9).drew.trans b10))))
          clear HW3 a0 a1 a2 b10 HYE
          have m0 : w10.cell? ⟨s14, 0, none⟩ = some (.slice M n' cm) := (HW4.out.mine.cell 0).trans rfl
          have m1 : w10.cell? ⟨s14, 1, none⟩ = some (.int .i64 d') := (HW4.out.mine.cell 1).trans rfl
          have a0 := HW4.out.a0
          have a1 := HW4.out.a1
          have a2 := HW4.out.a2
          have HKR : Hid (∀ Wx, WaysR v1 qs qp t s14 A' P' M Q n' c' m' e' cm cq l' p' d' Wx → (Wx.cell? ⟨s14, 0, none⟩ = some (.slice M n' cm) ∧ Wx.cell? ⟨s14, 1, none⟩ = some (.int .i64 d')) ∧ (Wx.cell? ⟨qs, t * 2, none⟩ = some (.slice A' n' c') ∧ Wx.cell? ⟨qs, t * 2 + 1, none⟩ = some (.int .i64 d')) ∧ Wx.cell? ⟨qp, t, none⟩ = some (.slice P' m' e')) := Lib.hid (fun Wx h => ⟨⟨(h.mine.cell 0).trans rfl, (h.mine.cell 1).trans rfl⟩, ⟨h.a0, h.a1⟩, h.a2⟩)
          go_upto_region 15 with fail
          go_region_held3 (fun w' => (w'.cell? ⟨s14, 0, none⟩ = some (.slice M n' cm) ∧ w'.cell? ⟨s14, 1, none⟩ = some (.int .i64 d')) ∧ (w'.cell? ⟨qs, t * 2, none⟩ = some (.slice A' n' c') ∧ w'.cell? ⟨qs, t * 2 + 1, none⟩ = some (.int .i64 d')) ∧ w'.cell? ⟨qp, t, none⟩ = some (.slice P' m' e')) (first | exact ⟨⟨m0, m1⟩, ⟨a0, a1⟩, a2⟩ | exact HKR.out _ HW5.out | exact HKR.out _ HW6.out | exact HKR.out _ HW7.out | exact HKR.out _ HW8.out | exact ⟨⟨m0, m1⟩, ⟨a0, a1⟩, a2⟩) (first
            | (go_at_call 32; refine (checkS_any M n' cm l' d' w10.drew HW4.out.rm.drew HD.out).mono ?_; rintro e w11 ⟨rfl, b11⟩; have HW5 := Lib.hid (HW4.out.below ((Below.refl _ w10).drew.trans b11)))
            | (go_at_call 33; refine (rcheckS_any A' n' c' l' d' w11 HW5.out.ra HD.out).mono ?_; rintro e w12 ⟨rfl, b12⟩; have HW6 := Lib.hid (HW5.out.below b12))
            | (go_at_call 34; ((with_reducible refine (eq_any M A' n' n' cm c' l' l' w12 HW6.out.rm HW6.out.ra).mono ?_); rintro e w13 ⟨rfl, d1, rfl⟩; rw [beq_self_eq_true]; have HW7 := Lib.hid (HW6.out.drewN d1)))
            | (go_at_call 34; ((with_reducible refine (eq_any Q P' m' m' cq e' p' p' (w12.drewN d1) HW7.out.rq HW7.out.rp).mono ?_); rintro e w14 ⟨rfl, d2, rfl⟩; rw [beq_self_eq_true]; have HW8 := Lib.hid (HW6.out.drewN (d1 + d2)))))
          have HBN := Lib.hid (HBE.out.trans (HW8.out.bel.mono hszr))
          generalize w12.drewN (d1 + d2) = w15 at HBN ⊢
          go_wp2
          go_roundw
          case rel => exact ⟨t + 1, by omega, by go_num, HBN.out⟩
          case measure => simp [intOf]; omega
      · have HBX := Lib.hid (HBW.out.trans (HBE.out.mono HBW.out.size))
        have ht4 : (4 : Int) ≤ t := by omega
        go_wp2_with fail
        refine (awake5_any wr).mono ?_; rintro e w8 ⟨rfl, hb8⟩
        have HBF := Lib.hid (HBX.out.trans (hb8.mono HBX.out.size))
        clear hb8
        go_wp2
        go_ret
        exact ⟨rfl, HBF.out⟩
end Go.Proofs.Ytgnfkgmppeohoaa
