/- Walk: the statement DesignRests. -/
import Derived.Test.YtgnfkgmppeohoaaMgT
import Derived.Test.YtgnfkgmppeohoaaMgP
import Derived.Test.YtgnfkgmppeohoaaMgQ
namespace Go.Proofs.Ytgnfkgmppeohoaa
open Go.RowKit

theorem OwnI.capR {w : World} {base n c : Nat} {e : TypeId} {A : Option Addr} {l : List Int} (h : OwnI w base e A n c l) : n ≤ c := by
  rcases h.1.1.2 with ⟨h1, h2⟩ | ⟨g, cap, cur, h1, _, _, hnc, _⟩
  · injection h1 with h1 h3 h4; omega
  · injection h1 with h1 h3 h4; omega
/-- what a round reads -/
structure RestR (v1 : World) (qs qp t : Nat) (A P M : Option Addr) (n c m e cm : Nat) (l p : List Int) (d : Int) (W : World) : Prop where
  a0 : W.cell? ⟨qs, t * 2, none⟩ = some (.slice A n c)
  a1 : W.cell? ⟨qs, t * 2 + 1, none⟩ = some (.int .i64 d)
  a2 : W.cell? ⟨qp, t, none⟩ = some (.slice P m e)
  ra : RdI W A n l
  rp : RdI W P m p
  rm : RdI W M m p
  lt : qs < W.heap.size ∧ qp < W.heap.size
  bel : Below v1.heap.size v1 W
theorem RestR.below {v1 W W' : World} {qs qp t : Nat} {A P M : Option Addr} {n c m e cm : Nat} {l p : List Int} {d : Int} (h : RestR v1 qs qp t A P M n c m e cm l p d W) (hb : Below W.heap.size W W') : RestR v1 qs qp t A P M n c m e cm l p d W' :=
  ⟨(hb.cell (p := ⟨qs, t * 2, none⟩) h.lt.1).trans h.a0, (hb.cell (p := ⟨qs, t * 2 + 1, none⟩) h.lt.1).trans h.a1, (hb.cell (p := ⟨qp, t, none⟩) h.lt.2).trans h.a2, h.ra.below hb, h.rp.below hb, h.rm.below hb, ⟨Nat.lt_of_lt_of_le h.lt.1 hb.size, Nat.lt_of_lt_of_le h.lt.2 hb.size⟩, h.bel.trans (hb.mono h.bel.size)⟩
theorem RestR.drewN {v1 W : World} {qs qp t : Nat} {A P M : Option Addr} {n c m e cm : Nat} {l p : List Int} {d : Int} (h : RestR v1 qs qp t A P M n c m e cm l p d W) (k : Nat) : RestR v1 qs qp t A P M n c m e cm l p d (W.drewN k) := h.below (below_drewN (Below.refl _ _) k)

theorem RdI.setC0 {w : World} {A : Option Addr} {n : Nat} {l : List Int} (h : RdI w A n l) {gb j : Nat} {u : Value} (hA : 0 < n → A.map (·.block) ≠ some gb) : RdI (w.setCell ⟨gb, j, none⟩ u) A n l := by
  rcases Nat.eq_zero_or_pos n with h0 | h0
  · subst h0
    have hl : l = [] := List.eq_nil_of_length_eq_zero (by have := h.len; omega)
    subst hl
    exact RdI.nil_
  · exact h.setCell (p := ⟨gb, j, none⟩) (hA h0) u
theorem WaysL.set_ {w W : World} {g q0 q1 : Nat} {A0 A1 A : Option Addr} {n0 c0 n1 n c : Nat} {l0 l1 l : List Int} {d0 d : Int} {gb : Nat} (h : WaysL w g q0 q1 A0 A1 A n0 c0 n1 n c l0 l1 l d0 d W)
    (h0 : q0 ≠ gb) (h1 : q1 ≠ gb) (h2 : 0 < n0 → A0.map (·.block) ≠ some gb) (h3 : 0 < n → A.map (·.block) ≠ some gb) (h4 : 0 < n1 → A1.map (·.block) ≠ some gb) (h5 : g ≠ gb) (h6 : w.heap.size ≤ gb) (j : Nat) (u : Value) :
    WaysL w g q0 q1 A0 A1 A n0 c0 n1 n c l0 l1 l d0 d (W.setCell ⟨gb, j, none⟩ u) :=
  ⟨⟨h.s0.x.far (p := ⟨gb, j, none⟩) h0 u, h.s0.rd.setC0 h2⟩, ⟨h.s1.x.far (p := ⟨gb, j, none⟩) h1 u, h.s1.rd.setC0 h3⟩, h.r.setC0 h4, h.box.grown (grown_set W gb j u) (fun e => by injection e with e; exact h5 e), h.bel.setCell (p := ⟨gb, j, none⟩) h6 u, h.ne⟩

set_option maxHeartbeats 4000000 in
set_option maxRecDepth 100000 in
theorem designRests_any (A0 : Option Addr) (n0 c0 : Nat) (A1 : Option Addr) (n1 c1 : Nat) (A2 : Option Addr) (n2 c2 : Nat) (l0 : List Int) (d0 : Int) (l1 nums : List Int) (w : World) (h0 : RdI w A0 n0 l0) (hd0 : I64 d0) (h1 : RdI w A1 n1 l1) (h2 : RdI w A2 n2 nums) :
    Calls Try.prog 12 #[.agg #[.slice A0 n0 c0, .int .i64 d0], .slice A1 n1 c1, .slice A2 n2 c2] w fun e w' => e = .returned (.bool true) ∧ Below w.heap.size w w' := by
  have hbd := h0.bd
  have hbd1 := h1.bd
  go_enter Try.func12, Try.ntmps12
  go_upto_region 1 with fail
  have HA := Lib.hid (h0.alloc (.cells #[.slice A0 n0 c0, .int .i64 d0] 24))
  have HP := Lib.hid (h1.alloc (.cells #[.slice A0 n0 c0, .int .i64 d0] 24))
  have HN := Lib.hid (h2.alloc (.cells #[.slice A0 n0 c0, .int .i64 d0] 24))
  have HB := Lib.hid ((Below.refl _ w).alloc (Nat.le_refl _) (.cells #[.slice A0 n0 c0, .int .i64 d0] 24))
  have HX := Lib.hid (Blk.new w 24 #[.slice A0 n0 c0, .int .i64 d0])
  clear h0 h1 h2
  generalize w.alloc (.cells #[.slice A0 n0 c0, .int .i64 d0] 24) = W at HA HB HX HN HP ⊢
  have k0 : W.cell? ⟨w.heap.size, 0, none⟩ = some (.slice A0 n0 c0) := by rw [HX.out.cell]; rfl
  have k1 : W.cell? ⟨w.heap.size, 1, none⟩ = some (.int .i64 d0) := by rw [HX.out.cell]; rfl
  by_cases hlong : 40 < n0
  · have gl : decide (40 < n0) = true := decide_eq_true hlong
    go_wp2_with fail
    refine (long5_any A0 n0 c0 W hbd).mono ?_; rintro e w' ⟨rfl, rfl⟩
    rw [gl]
    go_wp2_with fail
    refine (awake5_any W).mono ?_; rintro e w8 ⟨rfl, hb8⟩
    have HBF := Lib.hid (HB.out.trans (hb8.mono HB.out.size))
    clear hb8
    go_wp2
    go_ret
    exact ⟨rfl, HBF.out⟩
  have gl : decide (40 < n0) = false := decide_eq_false hlong
  by_cases hlong1 : 40 < n1
  · have gl1 : decide (40 < n1) = true := decide_eq_true hlong1
    go_wp2_with fail
    refine (long5_any A0 n0 c0 W hbd).mono ?_; rintro e w' ⟨rfl, rfl⟩
    rw [gl]
    go_wp2_with fail
    refine (long5_any A1 n1 c1 W hbd1).mono ?_; rintro e w' ⟨rfl, rfl⟩
    rw [gl1]
    go_wp2_with fail
    refine (awake5_any W).mono ?_; rintro e w8 ⟨rfl, hb8⟩
    have HBF := Lib.hid (HB.out.trans (hb8.mono HB.out.size))
    clear hb8
    go_wp2
    go_ret
    exact ⟨rfl, HBF.out⟩
  have gl1 : decide (40 < n1) = false := decide_eq_false hlong1
  go_wp2_with fail
  refine (long5_any A0 n0 c0 W hbd).mono ?_; rintro e w' ⟨rfl, rfl⟩
  rw [gl]
  go_wp2_with fail
  refine (long5_any A1 n1 c1 W hbd1).mono ?_; rintro e w' ⟨rfl, rfl⟩
  rw [gl1]
  go_wp2_with fail
  refine (boxOf_any A2 n2 c2 nums W HN.out).mono ?_; rintro e w1 ⟨g, rfl, hg, hbox, hb1⟩
  have HA1 := Lib.hid (HA.out.below hb1)
  have HP1 := Lib.hid (HP.out.below hb1)
  have HX1 := Lib.hid (HX.out.below hb1)
  have HBX := Lib.hid hbox
  have HB1 := Lib.hid (HB.out.trans (hb1.mono HB.out.size))
  have hxl := HX.out.lt
  have hgw : w.heap.size < g := by omega
  have HAb : Hid (0 < n0 → ∀ b, A0.map (·.block) = some b → b ≠ g) := Lib.hid (fun hn b e => by have := HA.out.block hn e; have h9 : W.heap.size ≤ g := hg; omega)
  have HPb : Hid (0 < n1 → ∀ b, A1.map (·.block) = some b → b ≠ g) := Lib.hid (fun hn b e => by have := HP.out.block hn e; have h9 : W.heap.size ≤ g := hg; omega)
  have hgl := hbox.lt
  clear hbox hb1 HA HP HX HN HB k0 k1 hg
  go_wp2_with fail
  refine (stockOf_any g 4 4 9 w1 HBX.out (by omega) (by omega) (by omega) (by omega) (by omega) (by omega)).mono ?_; rintro e w3 ⟨A, n, c, l, d, rfl, hbd8, h4, hown, hsp⟩
  have hd1 : 1 ≤ d := hbd8.2.2.1
  have hd9 : d ≤ 9 := hbd8.2.2.2.1
  have hn6 : n ≤ 6 := by have := hbd8.2.1; omega
  have hn1 : 1 ≤ n := hbd8.1
  have HZ := Lib.hid (stock_chk hown.len hbd8.1 (by omega) h4 (by omega) hd1 hd9 hbd8.2.2.2.2)
  have H9 : Hid (∀ x ∈ l, 1 ≤ x ∧ x ≤ 9) := Lib.hid (fun x hx => by have := h4 x hx; omega)
  have HDS := Lib.hid hbd8.2.2.2.2
  have HL0 : Hid (WaysL w g w.heap.size w3.heap.size A0 A1 A n0 c0 n1 n c l0 l1 l d0 d (w3.alloc (.cells #[.slice A n c, .int .i64 d] 24))) := Lib.hid (by
    have hg3 := hsp.grown.size
    refine ⟨⟨(HX1.out.grown hsp.grown (fun e => by injection e with e; omega)).alloc _, (HA1.out.spun0 hsp HAb.out).alloc _⟩, ⟨Blk.new w3 _ _, hown.rd.alloc _⟩, (HP1.out.spun0 hsp HPb.out).alloc _, hsp.box.alloc _, (HB1.out.trans (hsp.below (Nat.le_of_lt hgw) HB1.out.size)).alloc (Nat.le_trans HB1.out.size hg3) _, HAb.out, fun _ b e => ?_, HPb.out, by omega, by omega, by omega⟩
    have := (hown.1.block e).1
    omega)
  clear hbd8 h4 hown hsp HA1 HP1 HX1 HBX HB1
  go_upto_region 5 with fail
  generalize w3.alloc (.cells #[.slice A n c, .int .i64 d] 24) = W4 at HL0 ⊢
  obtain ⟨q1, hq1⟩ : ∃ q1, w3.heap.size = q1 := ⟨_, rfl⟩
  rw [hq1] at HL0 ⊢
  clear hq1
  have k0 : W4.cell? ⟨q1, 0, none⟩ = some (.slice A n c) := by rw [HL0.out.s1.x.cell]; rfl
  have k1 : W4.cell? ⟨q1, 1, none⟩ = some (.int .i64 d) := by rw [HL0.out.s1.x.cell]; rfl
  go_wp2_with fail
  refine (courseOf_any g A n c l d W4 HL0.out.box HL0.out.s1.rd (HL0.out.ne.2.1 hn1) hn6 H9.out HDS.out).mono ?_; rintro e w5 ⟨B, cb, L, rfl, hco, hown, hsp⟩
  have HL1 := Lib.hid (HL0.out.spun hsp)
  have HOB := Lib.hid hown
  have hcap := hown.capR
  have hg4 := HL0.out.box.lt
  obtain ⟨gb, rfl, hgb, _⟩ := hown.form (by omega)
  have hgb2 : g < gb := by omega
  have hwgb : w.heap.size ≤ gb := by have := HL0.out.bel.size; omega
  have HSB : Hid (w.heap.size ≠ gb ∧ q1 ≠ gb ∧ (0 < n0 → A0.map (·.block) ≠ some gb) ∧ (0 < n → A.map (·.block) ≠ some gb) ∧ (0 < n1 → A1.map (·.block) ≠ some gb)) := Lib.hid (by
    have x0 := HL0.out.s0.x.lt
    have x1 := HL0.out.s1.x.lt
    refine ⟨by omega, by omega, fun hp e => ?_, fun hp e => ?_, fun hp e => ?_⟩
    · have := HL0.out.s0.rd.blockD hp e; omega
    · have := HL0.out.s1.rd.blockD hp e; omega
    · have := HL0.out.r.blockD hp e; omega)
  clear hco hown hsp HL0 k0 k1
  go_wp2_with fail
  refine (up_any g ((d : Int) + 1) w5 HL1.out.box (by omega) (by omega)).mono ?_; rintro e w6 ⟨r, rfl, hr0, hr1, hst⟩
  obtain ⟨r, rfl⟩ : ∃ r' : Nat, r = r' := ⟨r.toNat, by omega⟩
  have hrd : r ≤ d := by omega
  have HL2 := Lib.hid (HL1.out.spun hst.spun)
  have HOB2 := Lib.hid (HOB.out.spun_ hst.spun hg4)
  have hrcb : (r : Int) ≤ cb := by omega
  clear hst hr1 hr0 HL1 HOB
  obtain ⟨v0, rfl⟩ : ∃ v0 : World, v0 = w6 := ⟨_, rfl⟩
  go_upto_region 7 with fail
  go_cut [54] (fun b W => ∃ y : Bool, b = .bool y ∧ (y = true → 0 < r) ∧ OwnI W W4.heap.size 3 (some ⟨gb, 0, none⟩) d cb L ∧ WaysL w g w.heap.size q1 A0 A1 A n0 c0 n1 n c l0 l1 l d0 d W)
  case first =>
    by_cases hr00 : r = 0
    · subst hr00
      go_wp2
      go_meet
      exact ⟨false, rfl, (fun h => by cases h), HOB2.out, HL2.out⟩
    · have hrI : (0 : Int) < r := by omega
      go_wp2_with fail
      refine (one_any g 4 v0 HL2.out.box (by omega) (by omega)).mono ?_; rintro e w7 ⟨yes, rfl, hst⟩
      have HL3 := Lib.hid (HL2.out.spun hst.spun)
      have HO3 := Lib.hid (HOB2.out.spun_ hst.spun hg4)
      clear hst
      go_wp2
      go_meet
      exact ⟨yes, rfl, (fun _ => by omega), HO3.out, HL3.out⟩
  case rest =>
    obtain ⟨y, rfl, hy, hown, hl⟩ := hcut
    have HY := Lib.hid hy
    have HO := Lib.hid hown
    have HL := Lib.hid hl
    clear hy hown hl HL2 HOB2
    obtain ⟨v1, rfl⟩ : ∃ v1 : World, v1 = wc := ⟨_, rfl⟩
    go_upto_if 54 with fail
    go_cut [] (fun W => ∃ p6, RdI W (some ⟨gb, 0, none⟩) r p6 ∧ WaysL w g w.heap.size q1 A0 A1 A n0 c0 n1 n c l0 l1 l d0 d W)
    case first =>
      cases y
      · go_wp2
        go_meet
        exact ⟨_, HO.out.rd.take_ hrd, HL.out⟩
      · have hr1 : 0 < r := HY.out rfl
        go_wp2_with fail
        refine (up_any g r v1 HL.out.box (by omega) (by omega)).mono ?_; rintro e w7 ⟨j, rfl, hj0, hj1, hst⟩
        obtain ⟨j, rfl⟩ : ∃ j' : Nat, j = j' := ⟨j.toNat, by omega⟩
        have hjr : j < r := by omega
        have HL3 := Lib.hid (HL.out.spun hst.spun)
        have HO3 := Lib.hid (HO.out.spun_ hst.spun hg4)
        clear hst hj1 hj0
        go_wp2_with fail
        refine (any_any g (-1) 4 w7 HL3.out.box (by omega) (by omega) (by omega) (by omega)).mono ?_; rintro e w8 ⟨u, rfl, hu0, hu1, hst⟩
        have HL4 := Lib.hid (HL3.out.spun hst.spun)
        have HO4 := Lib.hid (HO3.out.spun_ hst.spun hg4)
        have HU := Lib.hid (I64.small (v := u) (by omega))
        have hjI : (j : Int) < r := by omega
        clear hst hu1 hu0
        obtain ⟨pv, hpv⟩ : ∃ pv, L[j]? = some pv := ⟨L[j]'(by rw [HO4.out.len]; omega), List.getElem?_eq_getElem _⟩
        have hcell := HO4.out.cellAt hpv
        have hfz := HO4.out.frozenAt j
        clear hpv
        have HF : Hid (WaysL w g w.heap.size q1 A0 A1 A n0 c0 n1 n c l0 l1 l d0 d (w8.setCell ⟨gb, j, none⟩ (.int .i64 u))) := Lib.hid (HL4.out.set_ HSB.out.1 HSB.out.2.1 HSB.out.2.2.1 HSB.out.2.2.2.1 HSB.out.2.2.2.2 (by omega) hwgb j _)
        go_wp2
        go_meet
        exact ⟨_, (HO4.out.stored j HU.out).rd.take_ hrd, HF.out⟩
    case rest =>
      obtain ⟨p6, hr6, hl⟩ := hcut
      have HL5 := Lib.hid hl
      have HR6 := Lib.hid hr6
      obtain ⟨v2, rfl⟩ : ∃ v2 : World, v2 = wc := ⟨_, rfl⟩
      have k0 : v2.cell? ⟨w.heap.size, 0, none⟩ = some (.slice A0 n0 c0) := by rw [HL5.out.s0.x.cell]; rfl
      have k1 : v2.cell? ⟨w.heap.size, 1, none⟩ = some (.int .i64 d0) := by rw [HL5.out.s0.x.cell]; rfl
      have k2 : v2.cell? ⟨q1, 0, none⟩ = some (.slice A n c) := by rw [HL5.out.s1.x.cell]; rfl
      have k3 : v2.cell? ⟨q1, 1, none⟩ = some (.int .i64 d) := by rw [HL5.out.s1.x.cell]; rfl
      clear hl hr6 HL HO HY
      go_upto_region 10 with fail
      have hbs := (Blk.new v2 24 #[.slice A0 n0 c0, .int .i64 d0, .slice A n c, .int .i64 d, .slice A n c, .int .i64 d]).alloc (.cells #[.slice A1 n1 c1, .slice (some ⟨gb, 0, none⟩) r cb, .slice A1 n1 c1] 22)
      have hbp := blk_new2 v2 (.cells #[.slice A0 n0 c0, .int .i64 d0, .slice A n c, .int .i64 d, .slice A n c, .int .i64 d] 24) 22 #[.slice A1 n1 c1, .slice (some ⟨gb, 0, none⟩) r cb, .slice A1 n1 c1]
      have hl := (HL5.out.alloc (.cells #[.slice A0 n0 c0, .int .i64 d0, .slice A n c, .int .i64 d, .slice A n c, .int .i64 d] 24)).alloc (.cells #[.slice A1 n1 c1, .slice (some ⟨gb, 0, none⟩) r cb, .slice A1 n1 c1] 22)
      have hr6 := (HR6.out.alloc (.cells #[.slice A0 n0 c0, .int .i64 d0, .slice A n c, .int .i64 d, .slice A n c, .int .i64 d] 24)).alloc (.cells #[.slice A1 n1 c1, .slice (some ⟨gb, 0, none⟩) r cb, .slice A1 n1 c1] 22)
      have hsz5 : ((v2.alloc (.cells #[.slice A0 n0 c0, .int .i64 d0, .slice A n c, .int .i64 d, .slice A n c, .int .i64 d] 24)).alloc (.cells #[.slice A1 n1 c1, .slice (some ⟨gb, 0, none⟩) r cb, .slice A1 n1 c1] 22)).heap.size = v2.heap.size + 2 := by simp
      generalize (v2.alloc (.cells #[.slice A0 n0 c0, .int .i64 d0, .slice A n c, .int .i64 d, .slice A n c, .int .i64 d] 24)).alloc (.cells #[.slice A1 n1 c1, .slice (some ⟨gb, 0, none⟩) r cb, .slice A1 n1 c1] 22) = W5 at hbs hbp hl hr6 hsz5 ⊢
      obtain ⟨qs, hqs⟩ : ∃ qs, v2.heap.size = qs := ⟨_, rfl⟩
      obtain ⟨qp, hqp⟩ : ∃ qp, qs + 1 = qp := ⟨_, rfl⟩
      rw [hqs] at hbs hbp hsz5 ⊢
      rw [hqp] at hbp ⊢
      have HBW := Lib.hid hl.bel
      have HFT : Hid (∀ t : Nat, t < 3 → ∀ Wx, Below W5.heap.size W5 Wx → ∃ (A' : Option Addr) (n' c' : Nat) (l' : List Int) (d' : Int) (P' : Option Addr) (m' e' : Nat) (p' : List Int), Wx.cell? ⟨qs, t * 2, none⟩ = some (.slice A' n' c') ∧ Wx.cell? ⟨qs, t * 2 + 1, none⟩ = some (.int .i64 d') ∧ Wx.cell? ⟨qp, t, none⟩ = some (.slice P' m' e') ∧
          RdI Wx A' n' l' ∧ I64 d' ∧ RdI Wx P' m' p' ∧ m' ≤ 40) := Lib.hid (by
        intro t ht Wx hW
        have e1 := hbs.below hW
        have e2 := hbp.below hW
        have r0 := hl.s0.rd.below hW
        have r1 := hl.s1.rd.below hW
        have r2 := hl.r.below hW
        have r4 := hr6.below hW
        have i1 : I64 (d : Int) := I64.small (by omega)
        match t, ht with
        | 0, _ => exact ⟨A0, n0, c0, l0, d0, A1, n1, c1, l1, by rw [e1.cell]; rfl, by rw [e1.cell]; rfl, by rw [e2.cell]; rfl, r0, hd0, r2, by omega⟩
        | 1, _ => exact ⟨A, n, c, l, d, some ⟨gb, 0, none⟩, r, cb, p6, by rw [e1.cell]; rfl, by rw [e1.cell]; rfl, by rw [e2.cell]; rfl, r1, i1, r4, by omega⟩
        | 2, _ => exact ⟨A, n, c, l, d, A1, n1, c1, l1, by rw [e1.cell]; rfl, by rw [e1.cell]; rfl, by rw [e2.cell]; rfl, r1, i1, r2, by omega⟩)
      have hqs2 := hbs.lt
      have hqp2 := hbp.lt
      clear hbs hbp hl hr6 HL5 HR6 k0 k1 k2 k3 hqs hqp hsz5
      go_wp2_with fail
      go_loopw [12] (fun i wr => ∃ t : Nat, t ≤ 3 ∧ i = .int .i64 t ∧ Below W5.heap.size W5 wr) (fun i _ => 3 - (intOf i).toNat)
      case atStart => exact ⟨0, by omega, rfl, Below.refl _ _⟩
      case round =>
        obtain ⟨t, ht, rfl, hbel⟩ := hrel
        have HBE := Lib.hid hbel
        have hszr := hbel.size
        clear hbel
        by_cases hlt : t < 3
        · obtain ⟨A', n', c', l', d', P', m', e', p', a0, a1, a2, ra, hd', rp, hm40⟩ := HFT.out t hlt wr HBE.out
          have HRA := Lib.hid ra
          have HRP := Lib.hid rp
          have HD := Lib.hid hd'
          have HLP := Lib.hid rp.len
          have hqs3 : qs < wr.heap.size := by omega
          have hqp3 : qp < wr.heap.size := by omega
          clear ra rp hd'
          go_wp2_with fail
          refine (ints_any P' m' e' p' wr HRP.out (by omega)).mono ?_; rintro e w6 ⟨M, cm, rfl, ho6, hb6⟩
          rw [HLP.out] at ho6 ⊢
          have HW0 := Lib.hid (show RestR wr qs qp t A' P' M n' c' m' e' cm l' p' d' w6 from ⟨(hb6.cell (p := ⟨qs, t * 2, none⟩) hqs3).trans a0, (hb6.cell (p := ⟨qs, t * 2 + 1, none⟩) hqs3).trans a1, (hb6.cell (p := ⟨qp, t, none⟩) hqp3).trans a2, HRA.out.below hb6, HRP.out.below hb6, ho6.rd, ⟨by have := hb6.size; omega, by have := hb6.size; omega⟩, hb6⟩)
          clear ho6 hb6 HRA HRP a0 a1 a2
          have a0 := HW0.out.a0
          have a1 := HW0.out.a1
          go_wp2_with fail
          refine (rest_any A' M n' c' m' cm l' p' d' w6 HW0.out.ra HW0.out.rm HD.out).mono ?_; rintro e w7 ⟨A7, c7, rfl, h7, b7⟩
          obtain ⟨x, hx⟩ : ∃ x, restE l' d' p' = x := ⟨_, rfl⟩
          rw [hx] at h7 ⊢
          have HXE := Lib.hid hx
          have HW1 := Lib.hid (HW0.out.below b7)
          have H7 := Lib.hid h7.rd
          clear b7 h7 HW0 a0 a1 hx
          have a0 := HW1.out.a0
          have a1 := HW1.out.a1
          have a2 := HW1.out.a2
          go_upto_region 15 with fail
          go_region_held3 (fun w' => (w'.cell? ⟨qs, t * 2, none⟩ = some (.slice A' n' c') ∧ w'.cell? ⟨qs, t * 2 + 1, none⟩ = some (.int .i64 d')) ∧ w'.cell? ⟨qp, t, none⟩ = some (.slice P' m' e')) (first | exact ⟨⟨a0, a1⟩, a2⟩ | exact ⟨⟨HW2.out.a0, HW2.out.a1⟩, HW2.out.a2⟩ | exact ⟨⟨a0, a1⟩, a2⟩) (first
            | (go_at_call 56; refine (rrest_any A' P' n' c' m' e' l' p' d' w7.drew HW1.out.ra.drew HW1.out.rp.drew HD.out).mono ?_; rintro e w8 ⟨A8, c8, rfl, h8, b8⟩; rw [HXE.out] at h8 ⊢; have HW2 := Lib.hid (HW1.out.below ((Below.refl _ w7).drew.trans b8))))
          have H8 := Lib.hid h8.rd
          have H78 := Lib.hid (H7.out.below ((Below.refl _ w7).drew.trans b8))
          clear HW1 a0 a1 a2 b8 h8 HXE H7
          have a0 := HW2.out.a0
          have a1 := HW2.out.a1
          go_wp2_with fail
          refine (counted_any A' n' c' l' d' w8 HW2.out.ra HD.out).mono ?_; rintro e w9 ⟨rfl, b9⟩
          obtain ⟨y, hy⟩ : ∃ y, countedE l' d' = y := ⟨_, rfl⟩
          rw [hy]
          have HYE := Lib.hid hy
          have HW3 := Lib.hid (HW2.out.below b9)
          have H89 := Lib.hid (H8.out.below b9)
          have H79 := Lib.hid (H78.out.below b9)
          clear b9 HW2 a0 a1 hy H8 H78
          have a0 := HW3.out.a0
          have a1 := HW3.out.a1
          go_wp2_with fail
          refine (rcounted_any A' n' c' l' d' w9 HW3.out.ra HD.out).mono ?_; rintro e w10 ⟨rfl, b10⟩
          rw [HYE.out]
          have HW4 := Lib.hid (HW3.out.below b10)
          have H8a := Lib.hid (H89.out.below b10)
          have H7a := Lib.hid (H79.out.below b10)
          clear b10 HW3 a0 a1 HYE H89 H79
          go_wp2_with fail
          refine (eq_any A7 A8 x.1.length x.1.length c7 c8 x.1 x.1 w10 H7a.out H8a.out).mono ?_; rintro e w' ⟨rfl, d1, rfl⟩
          rw [beq_self_eq_true]
          have HW5 := Lib.hid (HW4.out.drewN d1)
          clear HW4 H7a H8a
          have a2 := HW5.out.a2
          generalize w10.drewN d1 = w11 at HW5 a2 ⊢
          go_wp2_with fail
          refine (eq_any M P' m' m' cm e' p' p' w11 HW5.out.rm HW5.out.rp).mono ?_; rintro e w' ⟨rfl, d2, rfl⟩
          rw [beq_self_eq_true]
          have HBN := Lib.hid (HBE.out.trans ((HW5.out.drewN d2).bel.mono hszr))
          clear HW5 a2
          generalize w11.drewN d2 = w12 at HBN ⊢
          go_wp2
          go_roundw
          case rel => exact ⟨t + 1, by omega, by go_num, HBN.out⟩
          case measure => simp [intOf]; omega
        · have HBX := Lib.hid (HBW.out.trans (HBE.out.mono HBW.out.size))
          have ht4 : (3 : Int) ≤ t := by omega
          go_wp2_with fail
          refine (awake5_any wr).mono ?_; rintro e w8 ⟨rfl, hb8⟩
          have HBF := Lib.hid (HBX.out.trans (hb8.mono HBX.out.size))
          clear hb8
          go_wp2
          go_ret
          exact ⟨rfl, HBF.out⟩
end Go.Proofs.Ytgnfkgmppeohoaa
