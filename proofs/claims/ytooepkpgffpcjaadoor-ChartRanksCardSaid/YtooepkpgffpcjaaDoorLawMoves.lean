/- Walks: the statement ChartMoves itself. -/
import Derived.Test.YtooepkpgffpcjaaDoorAwake
import Derived.Test.YtooepkpgffpcjaaDoorMovesLaw
namespace Go.Proofs.YtooepkpgffpcjaaDoor
open Go.RowKit

theorem long_yes (A : Option Addr) (n c : Nat) (w : World) (h : 40 < n) (hb : n ≤ 17592186044416) : Calls Tryd.prog 18 #[.slice A n c] w fun e w' => e = .returned (.bool true) ∧ w = w' := by
  go_enter Tryd.func18, Tryd.ntmps18
  go_wp2
  go_ret
  exact ⟨ret_bool (by simp; omega), rfl⟩
theorem long_no (A : Option Addr) (n c : Nat) (w : World) (h : n ≤ 40) : Calls Tryd.prog 18 #[.slice A n c] w fun e w' => e = .returned (.bool false) ∧ w = w' := by
  go_enter Tryd.func18, Tryd.ntmps18
  go_wp2
  go_ret
  exact ⟨ret_bool (by simp; omega), rfl⟩

/-- what a statement leaves -/
def Holds (w : World) (e : Ending) (w' : World) : Prop := e = .returned (.bool true) ∧ Below w.heap.size w w'

set_option maxHeartbeats 2000000 in
set_option maxRecDepth 100000 in
theorem chartMoves_any (A B C : Option Addr) (n m q c d f : Nat) (l r nums : List Int) (w : World) (h1 : RdI w A n l) (h2 : RdI w B m r) (h3 : RdI w C q nums) (hs : Signs w) :
    Calls Tryd.prog 3 #[.slice A n c, .slice B m d, .slice C q f] w (Holds w) := by
  have hbd1 := h1.bd
  have hbd2 := h2.bd
  by_cases hl1 : 40 < n
  · go_enter Tryd.func3, Tryd.ntmps3
    go_wp2_with fail
    refine (long_yes A n c w hl1 hbd1).mono ?_; rintro e w' ⟨rfl, rfl⟩
    go_wp2_with fail
    refine (awake_any w hs).mono ?_; rintro e w' ⟨rfl, hb⟩
    have HB := Lib.hid hb
    clear hb
    go_wp2
    go_ret
    exact ⟨rfl, HB.out⟩
  by_cases hl2 : 40 < m
  · go_enter Tryd.func3, Tryd.ntmps3
    go_wp2_with fail
    refine (long_no A n c w (by omega)).mono ?_; rintro e w' ⟨rfl, rfl⟩
    go_wp2_with fail
    refine (long_yes B m d w hl2 hbd2).mono ?_; rintro e w' ⟨rfl, rfl⟩
    go_wp2_with fail
    refine (awake_any w hs).mono ?_; rintro e w' ⟨rfl, hb⟩
    have HB := Lib.hid hb
    clear hb
    go_wp2
    go_ret
    exact ⟨rfl, HB.out⟩
  have HSG := Lib.hid hs
  clear hs
  go_enter Tryd.func3, Tryd.ntmps3
  go_wp2_with fail
  refine (long_no A n c w (by omega)).mono ?_; rintro e w' ⟨rfl, rfl⟩
  go_wp2_with fail
  refine (long_no B m d w (by omega)).mono ?_; rintro e w' ⟨rfl, rfl⟩
  go_wp2_with fail
  refine (boxOf_any C q f nums w h3).mono ?_; rintro e w1 ⟨g, rfl, hg, hbox, hb1⟩
  have HB1 := Lib.hid hb1
  have HBX := Lib.hid hbox
  clear hb1 hbox h3
  go_wp2_with fail
  refine (any_any g 1 9 w1 HBX.out (by omega) (by omega) (by omega) (by omega)).mono ?_; rintro e w2 ⟨k, rfl, hk0, hk1, hst⟩
  have hk9 : k ≤ 9 := by omega
  obtain ⟨k, rfl⟩ : ∃ k' : Nat, k = k' := ⟨k.toNat, by omega⟩
  have HB2 := Lib.hid (HB1.out.trans (hst.below hg))
  have HBXL := Lib.hid hst.box.lt
  have HBX2 := Lib.hid hst.box
  clear hk1 hst HB1 HBX
  go_wp2_with fail
  refine (partitionOf_any g k w2 HBX2.out (by omega) (by omega)).mono ?_; rintro e w3 ⟨A3, c3, p3, rfl, hck3, ho3, hsp3⟩
  have HB3 := Lib.hid (HB2.out.trans (hsp3.below hg HB2.out.size))
  have HBX3 := Lib.hid hsp3.box
  have HO3 := Lib.hid ho3
  clear ho3 hsp3 hck3 HBX2
  go_wp2_with fail
  refine (partitionOf_any g k _ (HBX3.out.alloc _) (by omega) (by omega)).mono ?_; rintro e w4 ⟨A4, c4, p4, rfl, hck4, ho4, hsp4⟩
  have hgl : g < w3.heap.size := HBX3.out.lt
  have HGL := Lib.hid hgl
  have HB4 := Lib.hid ((HB3.out.trans ((Below.refl _ _).alloc HB3.out.size _)).trans (hsp4.below hg (by have := HB3.out.size; simp; omega)))
  have HO4 := Lib.hid ho4
  have hA3 : ∀ j, A3.map (·.block) = some j → w2.heap.size ≤ j := fun j hj => (HO3.out.1.block hj).1
  have HP3 : Hid (RdI w4 A3 k p3) := ((HO3.out.rd.alloc _).grown hsp4.grown (fun j hj => by injection hj with hj; subst hj; intro e; have := hA3 _ e; have := HBXL.out; omega))
  have HAS : Hid (Blk w4 w3.heap.size 22 #[.slice A n c, .slice A3 k c3]) := (Blk.new w3 _ _).grown hsp4.grown (fun e => by injection e with e; omega)
  clear hck4 ho4 hsp4 hgl hA3 HBX3
  go_wp2_with fail
  have hH1 := h1.below HB4.out
  have hH2 := h2.below HB4.out
  have HAB : ∀ t : Nat, t < 2 → ∀ W, Below (w4.alloc (.cells #[.slice B m d, .slice A4 k c4] 22)).heap.size (w4.alloc (.cells #[.slice B m d, .slice A4 k c4] 22)) W →
      ∃ (A' B' : Option Addr) (n' m' c' d' : Nat) (l' r' : List Int), W.cell? ⟨w3.heap.size, t, none⟩ = some (.slice A' n' c') ∧ W.cell? ⟨w4.heap.size, t, none⟩ = some (.slice B' m' d') ∧ RdI W A' n' l' ∧ RdI W B' m' r' := by
    intro t ht W hW
    have e1 := (HAS.out.alloc (.cells #[.slice B m d, .slice A4 k c4] 22)).below hW
    have e2 := (Blk.new w4 22 #[.slice B m d, .slice A4 k c4]).below hW
    match t, ht with
    | 0, _ => exact ⟨A, B, n, m, c, d, l, r, by rw [e1.cell]; rfl, by rw [e2.cell]; rfl, (hH1.alloc _).below hW, (hH2.alloc _).below hW⟩
    | 1, _ => exact ⟨A3, A4, k, k, c3, c4, p3, p4, by rw [e1.cell]; rfl, by rw [e2.cell]; rfl, (HP3.out.alloc _).below hW, (HO4.out.rd.alloc _).below hW⟩
  have HABH := Lib.hid HAB
  have HBS := Lib.hid (HSG.out.below (HB4.out.trans ((Below.refl _ _).alloc HB4.out.size (.cells #[.slice B m d, .slice A4 k c4] 22))))
  have HBW := Lib.hid (HB4.out.trans ((Below.refl _ _).alloc HB4.out.size (.cells #[.slice B m d, .slice A4 k c4] 22)))
  clear HAB hH1 hH2 HO4 HP3 HAS HO3 HB3 HB2 HB4 HSG h1 h2 HBXL HGL
  generalize w4.alloc (.cells #[.slice B m d, .slice A4 k c4] 22) = W5 at HABH HBS HBW ⊢
  go_loopw [11] (fun i wr => ∃ t : Nat, t ≤ 2 ∧ i = .int .i64 t ∧ Below W5.heap.size W5 wr) (fun i _ => 2 - (intOf i).toNat)
  case atStart => exact ⟨0, by omega, rfl, Below.refl _ _⟩
  case round =>
    obtain ⟨t, ht, rfl, hbel⟩ := hrel
    have HBE := Lib.hid hbel
    clear hbel
    by_cases hlt : t < 2
    · obtain ⟨A', B', n', m', c', d', l', r', ca, cb, ra, rb⟩ := HABH.out t hlt wr HBE.out
      have HRA := Lib.hid ra
      have HRB := Lib.hid rb
      clear ra rb
      have HMV := Lib.hid (moves_eq l' r')
      have HMB := Lib.hid (HBE.out)
      go_upto_region 9 with fail
      go_cut [12, 13] (fun x y W => x = .int .i64 (movesR l' r').1 ∧ y = .int .i64 (movesR l' r').2 ∧ Below wr.heap.size wr W)
      case first =>
        go_region_with (go_at_call 23; refine (moves_any A' B' n' m' c' d' l' r' _ HRA.out.drew HRB.out.drew).mono ?_; rintro e w6 ⟨rfl, hb6⟩; rw [HMV.out])
        all_goals
          go_wp2
          go_meet
          exact ⟨rfl, rfl, (Below.refl _ _).drew.trans hb6⟩
      case rest =>
        obtain ⟨rfl, rfl, hb6⟩ := hcut
        have ca2 := (hb6.cell (World.block_lt_of_cell? _ _ ca)).trans ca
        have cb2 := (hb6.cell (World.block_lt_of_cell? _ _ cb)).trans cb
        have HRA2 := Lib.hid (HRA.out.below hb6)
        have HRB2 := Lib.hid (HRB.out.below hb6)
        have HB6 := Lib.hid (HBE.out.trans (hb6.mono HBE.out.size))
        clear hb6 ca cb HRA HRB
        obtain ⟨v6, rfl⟩ : ∃ v6 : World, v6 = wc := ⟨_, rfl⟩
        go_upto_region 10 with fail
        go_cut [14, 15] (fun x y W => x = .int .i64 (movesR l' r').1 ∧ y = .int .i64 (movesR l' r').2 ∧ Below v6.heap.size v6 W)
        case first =>
          go_region_with (go_at_call 24; refine (refMoves_any A' B' n' m' c' d' l' r' _ HRA2.out.drew HRB2.out.drew).mono ?_; rintro e w6 ⟨rfl, hb6⟩)
          all_goals
            go_wp2
            go_meet
            exact ⟨rfl, rfl, (Below.refl _ _).drew.trans hb6⟩
        case rest =>
          obtain ⟨rfl, rfl, hb7⟩ := hcut
          have HB7 := Lib.hid (HB6.out.trans (hb7.mono HB6.out.size))
          clear hb7
          go_wp2
          go_roundw
          case rel => exact ⟨t + 1, by omega, by go_num, HB7.out⟩
          case measure => simp [intOf]; omega
    · have htt : t = 2 := by omega
      subst htt
      go_wp2_with fail
      refine (awake_any wr (HBS.out.below HBE.out)).mono ?_; rintro e w' ⟨rfl, hb⟩
      have HB := Lib.hid ((HBW.out.trans (HBE.out.mono HBW.out.size)).trans (hb.mono (HBW.out.trans (HBE.out.mono HBW.out.size)).size))
      clear hb
      go_wp2
      go_ret
      exact ⟨rfl, HB.out⟩
end Go.Proofs.YtooepkpgffpcjaaDoor
