/- Walks: the reference's Moves: common, stay (which calls itself), Moves. -/
import Derived.Test.YtooepkpgffpcjaaDoorChkL
namespace Go.Proofs.YtooepkpgffpcjaaDoor
open Go.RowKit

/-- how many packets are in block x of a, and in block y of b -/
def cmn : List Int → List Int → Int → Int → Int
  | a :: l, b :: r, x, y => (if a = x ∧ b = y then 1 else 0) + cmn l r x y
  | _, _, _, _ => 0
theorem cmn_bd (l r : List Int) (x y : Int) : 0 ≤ cmn l r x y ∧ cmn l r x y ≤ l.length := by
  induction l generalizing r with
  | nil => simp [cmn]
  | cons a l ih =>
    cases r with
    | nil => simp [cmn]; omega
    | cons b r =>
      have := ih r
      simp only [cmn, List.length_cons]
      split <;> omega
theorem cmn_snoc (l r : List Int) (a b x y : Int) (h : l.length = r.length) : cmn (l ++ [a]) (r ++ [b]) x y = cmn l r x y + if a = x ∧ b = y then 1 else 0 := by
  induction l generalizing r with
  | nil => cases r with
    | nil => simp [cmn]
    | cons => simp at h
  | cons c l ih =>
    cases r with
    | nil => simp at h
    | cons d r =>
      have := ih r (by simpa using h)
      simp only [List.cons_append, cmn, this]
      omega

set_option maxHeartbeats 400000 in
theorem common_any (A B : Option Addr) (n c d : Nat) (l r : List Int) (x y : Int) (w : World) (h1 : RdI w A n l) (h2 : RdI w B n r) (hn9 : n ≤ 1000) :
    Calls Tryd.prog 114 #[.slice A n c, .slice B n d, .int .i64 x, .int .i64 y] w fun e w' => e = .returned (.int .i64 (cmn l r x y)) ∧ w = w' := by
  have HL1 := Lib.hid h1.len
  have HL2 := Lib.hid h2.len
  go_enter Tryd.func114, Tryd.ntmps114
  go_wp2
  go_loop [9, 10] (fun s i => ∃ k : Nat, k ≤ n ∧ i = .int .i64 k ∧ s = .int .i64 (cmn (l.take k) (r.take k) x y)) (fun _ i => n - (intOf i).toNat)
  case atStart => exact ⟨0, by omega, rfl, rfl⟩
  case round =>
    obtain ⟨k, hk, rfl, rfl⟩ := hrel
    by_cases hlt : k < n
    · obtain ⟨ad, v, rfl, _, hv, _, hcell⟩ := h1.at_ hlt
      obtain ⟨bd, u, rfl, _, hu, _, hcell2⟩ := h2.at_ hlt
      have HS : Hid (cmn (l.take (k + 1)) (r.take (k + 1)) x y = cmn (l.take k) (r.take k) x y + if v = x ∧ u = y then 1 else 0) := by
        rw [take_of_get hv.out, take_of_get hu.out]
        exact cmn_snoc _ _ _ _ _ _ (by have := HL1.out; have := HL2.out; simp; omega)
      have hb := cmn_bd (l.take k) (r.take k) x y
      have hb2 : (l.take k).length ≤ k := List.length_take_le _ _
      generalize cmn (l.take k) (r.take k) x y = s at HS hb ⊢
      have hs0 := hb.1
      have hs1 : s ≤ 1000 := by omega
      clear hb hb2
      by_cases e1 : v = x
      · subst e1
        by_cases e2 : u = y
        · subst e2
          go_wp2
          go_round
          case rel => exact ⟨k + 1, by omega, by go_num, by rw [HS.out]; simp⟩
          case measure => simp [intOf]; omega
        · have g : (u == y) = false := by simpa using e2
          have HN := Lib.hid e2
          clear e2
          go_wp2
          go_round
          case rel => exact ⟨k + 1, by omega, by go_num, by rw [HS.out, if_neg (fun h => HN.out h.2)]; simp⟩
          case measure => simp [intOf]; omega
      · have g : (v == x) = false := by simpa using e1
        have HN := Lib.hid e1
        clear e1
        go_wp2
        go_round
        case rel => exact ⟨k + 1, by omega, by go_num, by rw [HS.out, if_neg (fun h => HN.out h.1)]; simp⟩
        case measure => simp [intOf]; omega
    · have HR : Hid (cmn (l.take k) (r.take k) x y = cmn l r x y) := by rw [List.take_of_length_le (by have := HL1.out; omega), List.take_of_length_le (by have := HL2.out; omega)]; rfl
      go_wp2
      go_ret
      exact ⟨ret_int HR.out, rfl⟩

/-- One round of the reference's stay, for block y of b. -/
def stayRound (a b : List Int) (x : Int) (t : List Bool) (next : List Bool → Int) (best : Int) (y : Nat) : Int :=
  if 0 < cmn a b x y ∧ t.getD y true = false then max best (cmn a b x y + next (t.set y true)) else best
/-- The reference's stay, f blocks of a before its end (of nb). -/
def stay (a b : List Int) (nb : Int) : Nat → List Bool → Int
  | 0, _ => 0
  | f + 1, t => (List.range t.length).foldl (stayRound a b (nb - (f + 1 : Nat)) t (stay a b nb f)) (stay a b nb f t)

theorem stayRounds_bd (a b : List Int) (x : Int) (t : List Bool) (next : List Bool → Int) (M : Int) (hn : ∀ t, 0 ≤ next t ∧ next t ≤ M) (ha : (a.length : Int) ≤ 1000) (l : List Nat) (z : Int) (hz : 0 ≤ z ∧ z ≤ M + 1000) :
    0 ≤ l.foldl (stayRound a b x t next) z ∧ l.foldl (stayRound a b x t next) z ≤ M + 1000 := by
  induction l generalizing z with
  | nil => exact hz
  | cons y l ih =>
    apply ih
    unfold stayRound
    have h1 := cmn_bd a b x y
    have h2 := hn (t.set y true)
    split
    · omega
    · exact hz
theorem stay_bd (a b : List Int) (nb : Int) (ha : (a.length : Int) ≤ 1000) (f : Nat) (t : List Bool) : 0 ≤ stay a b nb f t ∧ stay a b nb f t ≤ f * 1000 := by
  induction f generalizing t with
  | zero => simp [stay]
  | succ f ih =>
    have := stayRounds_bd a b (nb - (f + 1 : Nat)) t (stay a b nb f) (f * 1000) ih ha (List.range t.length) (stay a b nb f t) (by have := ih t; omega)
    simp only [stay]
    omega

set_option maxHeartbeats 1000000 in
theorem stay_any (A B T : Option Addr) (n c d m cap base : Nat) (l r : List Int) (nb : Nat) (hnb : blk l = nb) (hnb9 : nb ≤ 1000) (hs : Small l) (hn9 : n ≤ 1000)
    (hA : ∀ k, A.map (·.block) = some k → k < base) (hB : ∀ k, B.map (·.block) = some k → k < base) (hm : m ≤ 1000) (f : Nat) : ∀ (t : List Bool) (w : World) (x : Int), x = nb - f → f ≤ nb →
      RdI w A n l → RdI w B n r → Own w base 4 1 T m cap (bools t) →
    Calls Tryd.prog 85 #[.slice A n c, .slice B n d, .int .i64 x, .slice T m cap] w fun e w' => e = .returned (.int .i64 (stay l r nb f t)) ∧ w = w' := by
  induction f with
  | zero =>
    intro t w x hx hf h1 h2 ht
    have hxn : x = nb := by omega
    subst hxn
    clear hx
    have HB := Lib.hid hnb
    clear hnb
    go_enter Tryd.func85, Tryd.ntmps85
    go_wp2_with fail
    refine (refBlocks_any A n c l w h1 hs).mono ?_; rintro e w' ⟨rfl, rfl⟩
    rw [HB.out]
    go_wp2
    go_ret
    exact ⟨rfl, rfl⟩
  | succ f ih =>
    intro t w x hx hf h1 h2 ht
    have HX := Lib.hid hx
    have hx0 : 0 ≤ x := by omega
    have hx1 : x ≤ nb - 1 := by omega
    have hx2 : (x == (nb : Int)) = false := by simp; omega
    have hlt : t.length = m := by simpa using ht.len
    have hla : (l.length : Int) ≤ 1000 := by rw [h1.len]; omega
    have hst : stay l r nb (f + 1) t = (List.range m).foldl (stayRound l r x t (stay l r nb f)) (stay l r nb f t) := by rw [← hlt, hx]; rfl
    have HST := Lib.hid hst
    have HB := Lib.hid hnb
    have IH := Lib.hid ih
    have HLT := Lib.hid hlt
    clear hx hnb hst ih hlt
    go_enter Tryd.func85, Tryd.ntmps85
    go_wp2_with fail
    refine (refBlocks_any A n c l w h1 hs).mono ?_; rintro e w' ⟨rfl, rfl⟩
    rw [HB.out]
    go_wp2_with fail
    refine (IH.out t w (x + 1) (by have := HX.out; omega) (by omega) h1 h2 ht).mono ?_; rintro e w' ⟨rfl, rfl⟩
    have hb0 := stay_bd l r nb hla f t
    go_wp2_with fail
    go_loopw [9, 10, 11] (fun best i _ wr => ∃ k : Nat, k ≤ m ∧ i = .int .i64 k ∧ best = .int .i64 ((List.range k).foldl (stayRound l r x t (stay l r nb f)) (stay l r nb f t)) ∧ w = wr) (fun _ i _ _ => m - (intOf i).toNat)
    case atStart => exact ⟨0, by omega, rfl, rfl, rfl⟩
    case round =>
      obtain ⟨k, hk, rfl, rfl, rfl⟩ := hrel
      have hbk := stayRounds_bd l r x t (stay l r nb f) (f * 1000) (stay_bd l r nb hla f) hla (List.range k) (stay l r nb f t) (by omega)
      by_cases hlt : k < m
      · obtain ⟨g, rfl, hbg, _⟩ := ht.form (by omega)
        obtain ⟨tv, htv⟩ : ∃ tv, t[k]? = some tv := ⟨t[k]'(by rw [HLT.out]; exact hlt), List.getElem?_eq_getElem _⟩
        have hcell : w.cell? ⟨g, k, none⟩ = some (.bool tv) := by rw [ht.cellAt k (by omega), bools_get, htv]; rfl
        have hfz := ht.frozenAt k
        have hsr : (List.range (k + 1)).foldl (stayRound l r x t (stay l r nb f)) (stay l r nb f t) = if 0 < cmn l r x k ∧ tv = false then max ((List.range k).foldl (stayRound l r x t (stay l r nb f)) (stay l r nb f t)) (cmn l r x k + stay l r nb f (t.set k true)) else (List.range k).foldl (stayRound l r x t (stay l r nb f)) (stay l r nb f t) := by
          rw [foldl_range_succ]
          generalize (List.range k).foldl (stayRound l r x t (stay l r nb f)) (stay l r nb f t) = z
          unfold stayRound
          rw [getD_of_get htv]
        have HSR := Lib.hid hsr
        clear hsr
        generalize (List.range k).foldl (stayRound l r x t (stay l r nb f)) (stay l r nb f t) = z at hbk HSR ⊢
        have hz0 := hbk.1
        have hz1 : z ≤ 2000000 := by omega
        have hcm := cmn_bd l r x k
        have hst2 := stay_bd l r nb hla f (t.set k true)
        have HTV := Lib.hid htv
        clear hbk htv
        by_cases hpos : 0 < cmn l r x k
        · by_cases htf : tv = false
          · subst htf
            have hAg : A.map (·.block) ≠ some g := fun e => by have := hA g e; omega
            have hBg : B.map (·.block) ≠ some g := fun e => by have := hB g e; omega
            have HAB := Lib.hid (And.intro hAg hBg)
            have HCM := Lib.hid hcm
            have ht' : Own (w.setCell ⟨g, k, none⟩ (.bool true)) base 4 1 (some ⟨g, 0, none⟩) m cap (bools (t.set k true)) := by rw [← bools_set]; exact ht.stored k _
            have HBK := Lib.hid (setCell_back w g k (.bool true) (.bool false) hcell)
            have hc9 : cmn l r x k ≤ 1000 := by have := hcm.2; omega
            generalize hsv : stay l r nb f (t.set k true) = sv at HSR hst2
            have HSV := Lib.hid hsv
            have hsv1 : sv ≤ 1000000 := by omega
            have hsv0 := hst2.1
            clear hAg hBg hcm hsv hst2
            go_wp2_with fail
            refine (common_any A B n c d l r x k w h1 h2 hn9).mono ?_; rintro e w' ⟨rfl, rfl⟩
            go_wp2_with fail
            refine (IH.out (t.set k true) _ (x + 1) (by have := HX.out; omega) (by omega) (h1.setCell (p := ⟨g, k, none⟩) HAB.out.1 _) (h2.setCell (p := ⟨g, k, none⟩) HAB.out.2 _) ht').mono ?_; rintro e w' ⟨rfl, rfl⟩
            rw [HSV.out]
            go_wp2
            go_roundw
            case rel => exact ⟨k + 1, by omega, by go_num, by rw [HSR.out, if_pos (show 0 < cmn l r x k ∧ True from ⟨hpos, trivial⟩), int_max], HBK.out.symm⟩
            case measure => simp [intOf]; omega
          · obtain rfl : tv = true := by simpa using htf
            have HCM := Lib.hid hcm
            go_wp2_with fail
            refine (common_any A B n c d l r x k w h1 h2 hn9).mono ?_; rintro e w' ⟨rfl, rfl⟩
            go_wp2
            go_roundw
            case rel => exact ⟨k + 1, by omega, by go_num, by rw [HSR.out, if_neg (by simp)], trivial⟩
            case measure => simp [intOf]; omega
        · have HCM := Lib.hid hcm
          have hcz : cmn l r x k = 0 := by omega
          go_wp2_with fail
          refine (common_any A B n c d l r x k w h1 h2 hn9).mono ?_; rintro e w' ⟨rfl, rfl⟩
          go_wp2
          go_roundw
          case rel => exact ⟨k + 1, by omega, by go_num, by rw [HSR.out, if_neg (fun h => by omega)], trivial⟩
          case measure => simp [intOf]; omega
      · have hkm : k = m := by omega
        subst hkm
        go_wp2
        go_ret
        exact ⟨ret_int HST.out.symm, rfl⟩

/-- The reference's Moves: the number, and the error. -/
def movesR (l r : List Int) : Int × Int := if chk2 l r ≠ 0 then (0, chk2 l r) else (l.length - stay l r (blk l) (blk l).toNat (List.replicate (blk r).toNat false), 0)
/-- The answers of a function that gives a number and an error, and what it leaves. -/
def IntErr (x : Int × Int) (w : World) (e : Ending) (w' : World) : Prop := e = .returned (.tuple #[.int .i64 x.1, .int .i64 x.2]) ∧ Below w.heap.size w w'

theorem RdI.block {w : World} {A : Option Addr} {n : Nat} {l : List Int} (h : RdI w A n l) (hn : 0 < n) {k : Nat} (hk : A.map (·.block) = some k) : k < w.heap.size := by
  obtain ⟨ad, e, hb, _⟩ := h.1.2.2 hn
  rw [e] at hk; injection hk with hk; simp at hk; omega

theorem boolInfo : (Tryd.prog.info? 4).map (fun i => (i.zero, i.size, i.bytes)) = some (some (.bool false), 1, 1) := by kernel_rfl

set_option maxHeartbeats 400000 in
theorem refMoves_any (A B : Option Addr) (n m c d : Nat) (l r : List Int) (w : World) (h1 : RdI w A n l) (h2 : RdI w B m r) :
    Calls Tryd.prog 24 #[.slice A n c, .slice B m d] w (IntErr (movesR l r) w) := by
  have c1 := refBoth_any A B n m c d l r w h1 h2
  by_cases h0 : chk2 l r = 0
  · have HV : Hid (movesR l r = (l.length - stay l r (blk l) (blk l).toNat (List.replicate (blk r).toNat false), 0)) := by show movesR l r = _; unfold movesR; rw [if_neg (by omega)]
    obtain ⟨k1, k2, k3⟩ := chk2_ok h0
    have s1 := chk_small k1
    have s2 := chk_small k2
    have b1 := blk_le9 k1
    have b2 := blk_le9 k2
    rw [h0] at c1
    have hln := h1.len
    have hrm := h2.len
    obtain rfl : n = m := by omega
    have hn9 : n ≤ 9 := by have := (chk_ok k1).2.1; omega
    clear h0
    obtain ⟨p, hp⟩ : ∃ p : Nat, blk l = p := ⟨(blk l).toNat, by omega⟩
    obtain ⟨q, hq⟩ : ∃ q : Nat, blk r = q := ⟨(blk r).toNat, by omega⟩
    have HC := Lib.hid c1
    have HL := Lib.hid hln
    have hqb : (q : Int) ≤ 9 := by omega
    have hpb : (p : Int) ≤ 9 := by omega
    rw [hp, hq] at HV
    simp only [Int.toNat_natCast] at HV
    have HP := Lib.hid hp
    have HQ := Lib.hid hq
    have hsb := stay_bd l r p (by omega) p (List.replicate q false)
    have hst1 := hsb.1
    have hst2 : stay l r p p (List.replicate q false) ≤ 9000 := by omega
    have hn1 : 1 ≤ n := by have := (chk_ok k1).1; omega
    have hA : ∀ k, A.map (·.block) = some k → k < w.heap.size := fun k hk => h1.block (by omega) hk
    have hB : ∀ k, B.map (·.block) = some k → k < w.heap.size := fun k hk => h2.block (by omega) hk
    clear k1 k2 k3
    clear c1 hln hrm hp hq b1 b2 hsb
    obtain ⟨i0, hi0, hz0, hz1, hz2⟩ := info_parts boolInfo
    go_enter Tryd.func24, Tryd.ntmps24
    go_wp2_with fail
    refine HC.out.mono ?_; rintro e w' ⟨rfl, rfl⟩
    go_wp2_with fail
    refine (refBlocks_any B n d r w h2 s2).mono ?_; rintro e w' ⟨rfl, rfl⟩
    rw [HQ.out]
    go_wp2_with (at_make; go_must (refine wpList_make_full w rfl (.tmp 18) (.tmp 18) 80 rfl w.heap.size 4 i0 (.bool false) 1 Tryd.underlying80 hi0 hz0 hz1 .i64 .i64 q q q rfl rfl rfl rfl (by rw [hz2]; omega) (by unfold maxLen; omega) (Nat.le_refl _) ?_); intro w1 hown hg1)
    have hb1 : Below w.heap.size w w1 := (Below.refl _ _).grown hg1 (Nat.le_refl _) (by simp)
    have ht : Own w1 w.heap.size 4 1 (some ⟨w.heap.size, 0, none⟩) q q (bools (List.replicate q false)) := by
      refine ⟨?_, by omega⟩
      rw [show (madeCells (Value.bool false).cells (q * 1)).toList = bools (List.replicate q false) from by rw [Nat.mul_one]; show (madeCells #[Value.bool false] q).toList = _; rw [toList_madeCells_one]; simp [bools]] at hown
      exact hown
    refine (stay_any A B _ n c d q q w.heap.size l r p HP.out (by omega) s1 (by omega) hA hB (by omega) p (List.replicate q false) w1 0 (by omega) (Nat.le_refl _) (h1.below hb1) (h2.below hb1) ht).mono ?_
    rintro e w' ⟨rfl, rfl⟩
    clear hown ht hg1
    have hb3 := Lib.hid hb1
    clear hb1
    go_wp2
    go_ret2
    refine ⟨?_, hb3.out⟩
    rw [HV.out, HL.out]
    rfl
  · have HV : Hid (movesR l r = (0, chk2 l r)) := by show movesR l r = _; unfold movesR; rw [if_pos h0]
    generalize chk2 l r = z at c1 h0 HV
    have HC := Lib.hid c1
    have g1 : (z == 0) = false := by simpa using h0
    have g2 : (z != 0) = true := by simpa using h0
    clear c1 h0
    go_enter Tryd.func24, Tryd.ntmps24
    go_wp2_with fail
    refine HC.out.mono ?_; rintro e w' ⟨rfl, rfl⟩
    go_wp2
    go_ret2
    refine ⟨?_, Below.refl _ _⟩
    rw [HV.out]
    rfl
end Go.Proofs.YtooepkpgffpcjaaDoor
