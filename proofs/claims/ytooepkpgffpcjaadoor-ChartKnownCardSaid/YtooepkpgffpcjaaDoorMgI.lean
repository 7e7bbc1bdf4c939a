/- Walks: draw and Draw. -/
import Derived.Test.YtooepkpgffpcjaaDoorMgB
import Derived.Test.YtooepkpgffpcjaaDoorMgG
import Derived.Deep.DeepCutAuto
namespace Go.Proofs.YtooepkpgffpcjaaDoor
open Go.RowKit

def sgn (place : Nat) (is : Bool) : UInt8 := (signOf place is).toNat.toUInt8
theorem sgn_eq (place : Nat) (is : Bool) (h : place < 3) : signOf place is = ((sgn place is).toNat : Int) := by
  match place, h with
  | 0, _ => cases is <;> decide
  | 1, _ => cases is <;> decide
  | 2, _ => cases is <;> decide
def mostOf (L : List Bar) : Int := L.foldl (fun m b => max m b.2.2) 0
/-- whether a bar passes a packet, and goes on behind it -/
def pgBar (b : Bar) (k n row i : Int) (pg : Bool × Bool) : Bool × Bool :=
  if b.2.2 = row then (pg.1 || (decide (k ≠ n) && decide (b.1 < i) && decide (i < b.2.1)), pg.2 || (decide (b.1 ≤ i) && decide (i < b.2.1))) else pg
def pgTo (L : List Bar) (n row i : Int) (m : Nat) : Bool × Bool := (List.range m).foldl (fun pg k => pgBar (L.getD k (0, 0, 0)) k n row i pg) (false, false)
theorem pgTo_succ {L : List Bar} {n row i : Int} {m : Nat} {b : Bar} (hb : L[m]? = some b) : pgTo L n row i (m + 1) = pgBar b m n row i (pgTo L n row i m) := by
  unfold pgTo; rw [foldl_range_succ, getD_of_get hb]
/-- the sign of packet i in a row -/
def signT (l : List Int) (L : List Bar) (row : Int) (i : Nat) : UInt8 :=
  let n := l.getD i 0
  let own := L.getD n.toNat (0, 0, 0)
  if row < own.2.2 then sgn 0 (pgTo L n row i L.length).1
  else if row = own.2.2 then sgn 1 (decide (own.1 < own.2.1))
  else sgn 2 (pgTo L n row i L.length).1
/-- .. and what stands between it and the next one -/
def cellT (l : List Int) (L : List Bar) (row : Int) (i : Nat) : List UInt8 :=
  if i + 1 < l.length then [signT l L row i, sgn 0 (pgTo L (l.getD i 0) row i L.length).2] else [signT l L row i]
def rowTo (l : List Int) (L : List Bar) (row : Int) (k : Nat) : List UInt8 := (List.range k).foldl (fun acc i => acc ++ cellT l L row i) []
def textTo (l : List Int) (L : List Bar) (r : Nat) : List UInt8 := (List.range r).foldl (fun acc (r : Nat) => acc ++ (rowTo l L ((r : Int) + 1) l.length ++ [10])) []
/-- the chart -/
def drawT (l : List Int) : List UInt8 := textTo l (barsTo l l.length) ((mostOf (barsTo l l.length)).toNat + 1)

theorem mostOf_take {L : List Bar} {k : Nat} {b : Bar} (h : L[k]? = some b) : mostOf (L.take (k + 1)) = max (mostOf (L.take k)) b.2.2 := by
  unfold mostOf; rw [take_of_get h, List.foldl_append]; rfl

theorem cellT_len (l : List Int) (L : List Bar) (row : Int) (i : Nat) : (cellT l L row i).length ≤ 2 := by unfold cellT; split <;> simp
theorem rowTo_succ (l : List Int) (L : List Bar) (row : Int) (k : Nat) : rowTo l L row (k + 1) = rowTo l L row k ++ cellT l L row k := foldl_range_succ _ _ _
theorem rowTo_len (l : List Int) (L : List Bar) (row : Int) (k : Nat) : (rowTo l L row k).length ≤ 2 * k := by
  induction k with
  | zero => simp [rowTo]
  | succ k ih => rw [rowTo_succ, List.length_append]; have := cellT_len l L row k; omega
theorem textTo_succ (l : List Int) (L : List Bar) (k : Nat) : textTo l L (k + 1) = textTo l L k ++ (rowTo l L ((k : Int) + 1) l.length ++ [10]) := foldl_range_succ _ _ _
theorem textTo_len (l : List Int) (L : List Bar) (k : Nat) : (textTo l L k).length ≤ k * (2 * l.length + 1) := by
  induction k with
  | zero => simp [textTo]
  | succ k ih =>
    rw [textTo_succ, List.length_append, List.length_append]
    have := rowTo_len l L ((k : Int) + 1) l.length
    rw [Nat.succ_mul]
    simp; omega
theorem Bld.below {B b : Nat} {bs : List Value} {w w' : World} (h : Bld B b bs w) (hb : Below w.heap.size w w') : Bld B b bs w' := by
  have key : ∀ p, Lib.BuilderAt 110 5 B b p bs w → Lib.BuilderAt 110 5 B b p bs w' := by
    intro p hp
    have hlt := hp.lt
    obtain ⟨hB, v, hv, hown, hne⟩ := hp
    exact ⟨hB, v, by rw [hb.block b hlt]; exact hv, own_below hown hb, hne⟩
  exact h.imp (key _) (key _)
theorem byteCells_snoc (l : List UInt8) (x : UInt8) : Lib.byteCells l ++ [.int .u8 (x.toNat : Int)] = Lib.byteCells (l ++ [x]) := by simp [Lib.byteCells]
theorem mem_lt_foldl (l : List Int) : ∀ (a v : Int), v ∈ l → v < l.foldl (fun n v => max n (v + 1)) a := by
  induction l with
  | nil => intro a v h; cases h
  | cons x l ih =>
    intro a v h
    rcases List.mem_cons.1 h with rfl | h
    · exact Int.lt_of_lt_of_le (show v < max a (v + 1) by omega) (le_foldl_max l _)
    · exact ih _ v h
theorem mem_lt_blk {l : List Int} {v : Int} (h : v ∈ l) : v < blk l := mem_lt_foldl l 0 v h
section
variable {pb gb e : Bool} {b1 b2 t : Int}
theorem p1_a (h : pb = true) : true = (pb || (e && decide (b1 < t) && decide (t < b2))) := by rw [h]; rfl
theorem p1_b (h : ¬ pb = true) (h2 : ¬ e = true) : false = (pb || (e && decide (b1 < t) && decide (t < b2))) := by cases pb <;> cases e <;> simp_all
theorem p1_c (h : ¬ pb = true) (h2 : e = true) (h3 : b1 < t) : decide (t < b2) = (pb || (e && decide (b1 < t) && decide (t < b2))) := by cases pb <;> cases e <;> simp_all
theorem p1_d (h : ¬ pb = true) (h3 : t ≤ b1) : false = (pb || (e && decide (b1 < t) && decide (t < b2))) := by
  rw [decide_eq_false (show ¬ b1 < t by omega)]
  cases pb <;> cases e <;> simp_all
theorem p2_a (h : gb = true) : true = (gb || (decide (b1 ≤ t) && decide (t < b2))) := by rw [h]; rfl
theorem p2_b (h : ¬ gb = true) (h3 : b1 ≤ t) : decide (t < b2) = (gb || (decide (b1 ≤ t) && decide (t < b2))) := by cases gb <;> simp_all
theorem p2_c' (h : ¬ gb = true) (h3 : ¬ b1 ≤ t) : false = (gb || (decide (b1 ≤ t) && decide (t < b2))) := by
  rw [decide_eq_false h3]
  cases gb <;> simp_all
theorem p2_c (h : ¬ gb = true) (h3 : t < b1) : false = (gb || (decide (b1 ≤ t) && decide (t < b2))) := by
  rw [decide_eq_false (show ¬ b1 ≤ t by omega)]
  cases gb <;> simp_all
end
/-- the local copy of a bar -/
theorem blk3 {w : World} {g : Nat} {t : TypeId} {x y z : Int} (h : Blk w g t #[.int .i64 x, .int .i64 y, .int .i64 z]) : w.cell? ⟨g, 0, none⟩ = some (.int .i64 x) ∧ w.cell? ⟨g, 1, none⟩ = some (.int .i64 y) ∧ w.cell? ⟨g, 2, none⟩ = some (.int .i64 z) := by
  refine ⟨?_, ?_, ?_⟩ <;> rw [h.cell] <;> rfl

set_option maxHeartbeats 2000000 in
set_option maxRecDepth 100000 in
theorem draw_any (A : Option Addr) (n c : Nat) (l : List Int) (w : World) (h : RdI w A n l) (hc : n ≤ c) (hk : chk l = 0) (hs : Signs w) :
    Calls Tryd.prog 87 #[.slice A n c] w fun e w' => e = .returned (.string ⟨(drawT l).toArray⟩) ∧ Below w.heap.size w w' := by
  have hlen := h.len
  have hn9 : n ≤ 9 := by have := (chk_ok hk).2.1; omega
  have hn1 : 1 ≤ n := by have := (chk_ok hk).1; omega
  have HL := Lib.hid hlen
  have HCK := Lib.hid hk
  obtain ⟨hinv, hbl⟩ := barsTo_inv hk n (by omega)
  have hm9 : (barsTo l n).length ≤ 9 := by have := blk_le9 hk; rw [List.take_of_length_le (by omega)] at hbl; omega
  have HDT : Hid (drawT l = textTo l (barsTo l n) ((mostOf (barsTo l n)).toNat + 1)) := by show drawT l = _; unfold drawT; rw [hlen]
  have HBW := bars_any A n c l w h hc hk
  generalize barsTo l n = L at hinv hbl hm9 HDT HBW
  have HBC := Lib.hid HBW
  have HI := Lib.hid hinv
  have HBL := Lib.hid hbl
  have HSG := Lib.hid hs
  clear hlen hk hinv hbl HBW hs
  obtain ⟨m, hm⟩ : ∃ m, L.length = m := ⟨_, rfl⟩
  have HM := Lib.hid hm
  rw [hm] at hm9
  clear hm
  go_enter Tryd.func87, Tryd.ntmps87
  go_wp2_with fail
  refine HBC.out.mono ?_; rintro e w1 ⟨AL, cL, rfl, hown, hbel⟩
  rw [HM.out] at hown ⊢
  have HO := Lib.hid hown
  have HB := Lib.hid hbel
  clear hown hbel
  go_wp2_with fail
  go_loopw [4, 20] (fun mo i wq => ∃ j : Nat, j ≤ m ∧ i = .int .i64 j ∧ mo = .int .i64 (mostOf (L.take j)) ∧ Below w1.heap.size w1 wq ∧ 0 ≤ mostOf (L.take j) ∧ mostOf (L.take j) ≤ 1000) (fun _ i _ => m - (intOf i).toNat)
  case atStart => exact ⟨0, by omega, rfl, rfl, Below.refl _ _, by simp [mostOf], by simp [mostOf]⟩
  case round =>
    obtain ⟨j, hj, rfl, rfl, hbel, hmo0, hmo1⟩ := hrel
    have HBE := Lib.hid hbel
    clear hbel
    by_cases hlt : j < m
    · obtain ⟨g, rfl, hbg, hgl⟩ := HO.out.form (by omega)
      obtain ⟨⟨b1, b2, b3⟩, hb⟩ := getB HM.out hlt
      have hb3 := barCells_get L j _ hb
      have HO2 := Lib.hid (HO.out.below HBE.out)
      have c0 := HO2.out.cellAt (j * 3) (by omega)
      have c1 := HO2.out.cellAt (j * 3 + 1) (by omega)
      have c2 := HO2.out.cellAt (j * 3 + 2) (by omega)
      rw [hb3.1] at c0
      rw [hb3.2.1] at c1
      rw [hb3.2.2] at c2
      have hbb := HI.out.bd j _ hb
      simp only at c0 c1 c2 hbb
      have HMT := Lib.hid (mostOf_take hb)
      have hb3a := hbb.2.2.2.2.1
      have hb3b : b3 ≤ 100 := by omega
      generalize mostOf (L.take j) = mo at hmo0 hmo1 HMT
      clear hb hb3 hbb
      go_wp2
      go_roundw
      case rel => exact ⟨j + 1, by omega, by go_num, by rw [HMT.out], HBE.out.trans ((Below.refl _ _).alloc HBE.out.size _), by rw [HMT.out]; simp only; omega, by rw [HMT.out]; simp only; omega⟩
      case measure => simp [intOf]; omega
    · obtain rfl : m = j := by omega
      have HMM : Hid (mostOf (L.take m) = mostOf L) := by rw [List.take_of_length_le (by have := HM.out; omega)]; rfl
      rw [HMM.out] at hmo0 hmo1 ⊢
      obtain ⟨mo, hmo⟩ : ∃ mo : Nat, mostOf L = mo := ⟨(mostOf L).toNat, by omega⟩
      rw [hmo] at hmo0 hmo1 HDT ⊢
      clear hmo HMM
      rw [Int.toNat_natCast] at HDT
      have hbWr : Below w.heap.size w wr := HB.out.trans (HBE.out.mono HB.out.size)
      have hRI : ∀ W, Below wr.heap.size wr W → RdI W A n l := fun W hW => h.below (hbWr.trans (hW.mono hbWr.size))
      have hOL : Own wr w.heap.size 85 3 AL m cL (barCells L) := HO.out.below HBE.out
      have hRL : ∀ W, Below wr.heap.size wr W → Own W w.heap.size 85 3 AL m cL (barCells L) := fun W hW => hOL.below hW
      have hSG : ∀ W, Below wr.heap.size wr W → Signs W := fun W hW => HSG.out.below (hbWr.trans (hW.mono hbWr.size))
      have HRI := Lib.hid hRI
      have HRL := Lib.hid hRL
      have HSS := Lib.hid hSG
      have HBR := Lib.hid hbWr
      clear hbWr hRI hOL hRL hSG HO HB HBE HSG hlt hj
      obtain ⟨wo, rfl⟩ : ∃ wo : World, wo = wr := ⟨_, rfl⟩
      go_wp2_with fail
      go_loopw [8] (fun r wq => ∃ k : Nat, k ≤ mo + 1 ∧ r = .int .i64 ((k : Int) + 1) ∧ Bld wo.heap.size wo.heap.size (Lib.byteCells (textTo l L k)) wq ∧ Below wo.heap.size wo wq) (fun r _ => mo + 2 - (intOf r).toNat)
      case atStart => exact ⟨0, by omega, rfl, Lib.fresh_isBuilder _ _ _, (Below.refl _ _).alloc (Nat.le_refl _) _⟩
      case round =>
        obtain ⟨k, hk, rfl, hbld, hbel⟩ := hrel
        have HBD := Lib.hid hbld
        have HBW := Lib.hid hbel
        clear hbld hbel
        by_cases hkm : k < mo + 1
        · have hkm2 : k ≤ mo := by omega
          go_wp2_with fail
          go_loopw [37] (fun i wq => ∃ t : Nat, t ≤ n ∧ i = .int .i64 t ∧ Bld wo.heap.size wo.heap.size (Lib.byteCells (textTo l L k ++ rowTo l L ((k : Int) + 1) t)) wq ∧ Below wo.heap.size wo wq) (fun i _ => n - (intOf i).toNat)
          case atStart => exact ⟨0, by omega, rfl, by simpa [rowTo] using HBD.out, HBW.out⟩
          case round =>
            obtain ⟨t, ht, rfl, hbld, hbel⟩ := hrel
            have HBD2 := Lib.hid hbld
            have HBW2 := Lib.hid hbel
            clear hbld hbel HBD HBW
            by_cases htn : t < n
            · obtain ⟨ad, v, rfl, _, hv, _, hcell⟩ := (HRI.out _ HBW2.out).at_ htn
              have hv9 := (chk_ok HCK.out).2.2.1 v (List.mem_of_getElem? hv.out)
              have hvb : v < m := by
                have h1 := mem_lt_blk (List.mem_of_getElem? hv.out)
                have h2 := HBL.out
                rw [List.take_of_length_le (by have := HL.out; omega), HM.out] at h2
                omega
              obtain ⟨v, rfl⟩ : ∃ v' : Nat, v = v' := ⟨v.toNat, by omega⟩
              have hvm : v < m := by omega
              obtain ⟨g, rfl, hbg, hgl⟩ := (HRL.out _ (Below.refl _ _)).form (by omega)
              obtain ⟨⟨o1, o2, o3⟩, ho⟩ := getB HM.out hvm
              have ho3 := barCells_get L v _ ho
              have HO2 := Lib.hid (HRL.out _ HBW2.out)
              have c0 := HO2.out.cellAt (v * 3) (by omega)
              have c1 := HO2.out.cellAt (v * 3 + 1) (by omega)
              have c2 := HO2.out.cellAt (v * 3 + 2) (by omega)
              rw [ho3.1] at c0
              rw [ho3.2.1] at c1
              rw [ho3.2.2] at c2
              simp only at c0 c1 c2
              have hob := HI.out.bd v _ ho
              simp only at hob
              have HOB := Lib.hid hob
              have HOV := Lib.hid ho
              clear ho3 hob ho hvb
              obtain ⟨w3, rfl⟩ : ∃ w3 : World, w3 = wr := ⟨_, rfl⟩
              go_wp2_with fail
              go_loopw [12, 13, 48] (fun p q i wq => ∃ j : Nat, j ≤ m ∧ i = .int .i64 j ∧ p = .bool (pgTo L v ((k : Int) + 1) t j).1 ∧ q = .bool (pgTo L v ((k : Int) + 1) t j).2 ∧ Below (w3.heap.size + 1) (w3.alloc (.cells #[.int .i64 o1, .int .i64 o2, .int .i64 o3] 85)) wq) (fun _ _ i _ => m - (intOf i).toNat)
              case atStart => exact ⟨0, by omega, rfl, rfl, rfl, Below.refl _ _⟩
              case round =>
                obtain ⟨j, hj, rfl, rfl, rfl, hbel⟩ := hrel
                have HBJ := Lib.hid hbel
                have hW : Below w3.heap.size w3 wr := ((Below.refl _ _).alloc (Nat.le_refl _) _).trans (hbel.mono (by omega))
                have HW := Lib.hid hW
                have HWO := Lib.hid (HBW2.out.trans (hW.mono HBW2.out.size))
                clear hbel hW
                by_cases hjm : j < m
                · obtain ⟨⟨b1, b2, b3⟩, hb⟩ := getB HM.out hjm
                  have hb3 := barCells_get L j _ hb
                  have HO3 := Lib.hid (HRL.out _ HWO.out)
                  have d0 := HO3.out.cellAt (j * 3) (by omega)
                  have d1 := HO3.out.cellAt (j * 3 + 1) (by omega)
                  have d2 := HO3.out.cellAt (j * 3 + 2) (by omega)
                  rw [hb3.1] at d0
                  rw [hb3.2.1] at d1
                  rw [hb3.2.2] at d2
                  simp only at d0 d1 d2
                  have HPG := Lib.hid (pgTo_succ (n := v) (row := (k : Int) + 1) (i := t) hb)
                  generalize pgTo L v ((k : Int) + 1) t j = pg at HPG ⊢
                  obtain ⟨pb, gb⟩ := pg
                  simp only
                  clear hb3 hb
                  by_cases hrow : b3 = (k : Int) + 1
                  · have g1 : (b3 == (k : Int) + 1) = true := by simpa using hrow
                    have HRW := Lib.hid hrow
                    clear hrow
                    obtain ⟨e, he⟩ : ∃ e : Bool, ((j : Int) != (v : Int)) = e := ⟨_, rfl⟩
                    obtain ⟨P1, hP1⟩ : ∃ P1, P1 = (pb || (e && decide (b1 < (t : Int)) && decide ((t : Int) < b2))) := ⟨_, rfl⟩
                    obtain ⟨P2, hP2⟩ : ∃ P2, P2 = (gb || (decide (b1 ≤ (t : Int)) && decide ((t : Int) < b2))) := ⟨_, rfl⟩
                    have HP1 := Lib.hid hP1
                    have HP2 := Lib.hid hP2
                    have HPE : Hid (pgBar (b1, b2, b3) j v ((k : Int) + 1) t (pb, gb) = (P1, P2)) := by
                      show pgBar _ _ _ _ _ _ = _
                      unfold pgBar; rw [if_pos HRW.out, hP1, hP2, ← he]; congr 3
                      by_cases ee : (j : Int) = v <;> simp [ee]
                    clear hP1 hP2
                    go_upto_region 21 with fail
                    go_cut [12] (fun p W => p = .bool P1 ∧ W = wr.alloc (.cells #[.int .i64 b1, .int .i64 b2, .int .i64 b3] 85))
                    case first =>
                      go_wp2
                      all_goals go_meet
                      all_goals refine ⟨?_, rfl⟩
                      all_goals rw [HP1.out]
                      all_goals first | exact congrArg Value.bool (p1_a (by assumption)) | exact congrArg Value.bool (p1_b (by assumption) (by assumption)) | exact congrArg Value.bool (p1_c (by assumption) (by assumption) (by assumption)) | exact congrArg Value.bool (p1_d (by assumption) (by assumption))
                    case rest =>
                      obtain ⟨rfl, rfl⟩ := hcut
                      go_wp2
                      all_goals
                        go_roundw
                        case rel => exact ⟨j + 1, by omega, by go_num, by rw [HPG.out, HPE.out], by rw [HPG.out, HPE.out, HP2.out]; first | exact congrArg Value.bool (p2_a (by assumption)) | exact congrArg Value.bool (p2_b (by assumption) (by assumption)) | exact congrArg Value.bool (p2_c (by assumption) (by assumption)) | exact congrArg Value.bool (p2_c' (by assumption) (by assumption)), HBJ.out.trans ((Below.refl _ _).alloc (by have := HBJ.out.size; simp at this; omega) _)⟩
                        case measure => simp [intOf]; omega
                  · have g1 : (b3 == (k : Int) + 1) = false := by simpa using hrow
                    have HPE : Hid (pgBar (b1, b2, b3) j v ((k : Int) + 1) t (pb, gb) = (pb, gb)) := by
                      show pgBar _ _ _ _ _ _ = _
                      unfold pgBar; rw [if_neg hrow]
                    clear hrow
                    go_wp2
                    go_roundw
                    case rel => exact ⟨j + 1, by omega, by go_num, by rw [HPG.out, HPE.out], by rw [HPG.out, HPE.out], HBJ.out.trans ((Below.refl _ _).alloc (by have := HBJ.out.size; simp at this; omega) _)⟩
                    case measure => simp [intOf]; omega
                · obtain rfl : m = j := by omega
                  have HBX := Lib.hid ((Blk.new w3 85 #[.int .i64 o1, .int .i64 o2, .int .i64 o3]).below (w' := wr) (by simpa using HBJ.out))
                  obtain ⟨x0, x1, x2⟩ := blk3 HBX.out
                  have HBDJ := Lib.hid (Bld.below HBD2.out HW.out)
                  have HSGN := Lib.hid (HSS.out _ HWO.out)
                  have HLEN : Hid ((Lib.byteCells (textTo l L k ++ rowTo l L ((k : Int) + 1) t)).length + 3 ≤ 1000000) := by
                    show (Lib.byteCells (textTo l L k ++ rowTo l L ((k : Int) + 1) t)).length + 3 ≤ 1000000
                    rw [Lib.byteCells_length, List.length_append]
                    have h1 := textTo_len l L k
                    have h2 := rowTo_len l L ((k : Int) + 1) t
                    rw [HL.out] at h1
                    have h3 : k * (2 * n + 1) ≤ 1001 * 19 := Nat.mul_le_mul (by omega) (by omega)
                    omega
                  have HRS := Lib.hid (rowTo_succ l L ((k : Int) + 1) t)
                  have HCT : Hid (cellT l L ((k : Int) + 1) t = if t + 1 < n then [signT l L ((k : Int) + 1) t, sgn 0 (pgTo L v ((k : Int) + 1) t m).2] else [signT l L ((k : Int) + 1) t]) := by
                    show cellT _ _ _ _ = _
                    unfold cellT; rw [HL.out, getD_of_get hv.out, HM.out]
                  have HST : Hid (signT l L ((k : Int) + 1) t = if (k : Int) + 1 < o3 then sgn 0 (pgTo L v ((k : Int) + 1) t m).1 else if (k : Int) + 1 = o3 then sgn 1 (decide (o1 < o2)) else sgn 2 (pgTo L v ((k : Int) + 1) t m).1) := by
                    show signT _ _ _ _ = _
                    unfold signT; simp only; rw [getD_of_get hv.out, Int.toNat_natCast, getD_of_get HOV.out, HM.out]
                  generalize pgTo L v ((k : Int) + 1) t m = pg at HCT HST ⊢
                  obtain ⟨pb, gb⟩ := pg
                  simp only at HCT HST ⊢
                  obtain ⟨s0, hs0⟩ : ∃ s0, s0 = signT l L ((k : Int) + 1) t := ⟨_, rfl⟩
                  rw [← hs0] at HCT HST
                  clear hs0
                  by_cases hlt3 : (k : Int) + 1 < o3
                  · have HS0 : Hid (s0 = sgn 0 pb) := by rw [HST.out, if_pos hlt3]; rfl
                    go_wp2_with fail
                    refine (sign_0 pb _ HSGN.out).mono ?_; rintro e w' ⟨rfl, rfl⟩
                    rw [sgn_eq 0 _ (by decide)]
                    go_wp2_with fail
                    refine (writeByte_any _ _ _ _ _ HBDJ.out (by have := HLEN.out; omega) HWO.out.size).mono ?_
                    rintro e w5 ⟨rfl, hb5, hbe5⟩
                    rw [byteCells_snoc] at hb5
                    have HB5 := Lib.hid hb5
                    have HBE5 := Lib.hid (HWO.out.trans hbe5)
                    clear hb5 hbe5 x0 x1 x2
                    by_cases htl : t + 1 < n
                    · have htl2 : (t : Int) < (n : Int) - 1 := by omega
                      go_wp2_with fail
                      refine (sign_0 gb _ (HSS.out _ HBE5.out)).mono ?_; rintro e w' ⟨rfl, rfl⟩
                      rw [sgn_eq 0 _ (by decide)]
                      go_wp2_with fail
                      refine (writeByte_any _ _ _ _ _ HB5.out (by have := HLEN.out; rw [← byteCells_snoc, List.length_append]; simp; omega) HBE5.out.size).mono ?_
                      rintro e w6 ⟨rfl, hb6, hbe6⟩
                      rw [byteCells_snoc] at hb6
                      have HB6 := Lib.hid hb6
                      have HBE6 := Lib.hid (HBE5.out.trans hbe6)
                      clear hb6 hbe6
                      go_wp2
                      go_roundw
                      case rel => exact ⟨t + 1, by omega, by go_num, by rw [HRS.out, HCT.out, if_pos htl, HS0.out, ← List.append_assoc]; simpa using HB6.out, HBE6.out⟩
                      case measure => simp [intOf]; omega
                    · have htl2 : ¬ (t : Int) < (n : Int) - 1 := by omega
                      go_wp2
                      go_roundw
                      case rel => exact ⟨t + 1, by omega, by go_num, by rw [HRS.out, HCT.out, if_neg htl, HS0.out, ← List.append_assoc]; exact HB5.out, HBE5.out⟩
                      case measure => simp [intOf]; omega
                  have hge3 : o3 ≤ (k : Int) + 1 := by omega
                  by_cases heq3 : (k : Int) + 1 = o3
                  · have HS0 : Hid (s0 = sgn 1 (decide (o1 < o2))) := by rw [HST.out, if_neg hlt3, if_pos heq3]; rfl
                    have ge : ((k : Int) + 1 == o3) = true := by simpa using heq3
                    clear hlt3 heq3
                    go_wp2_with fail
                    refine (sign_1 (decide (o1 < o2)) _ HSGN.out).mono ?_; rintro e w' ⟨rfl, rfl⟩
                    rw [sgn_eq 1 _ (by decide)]
                    go_wp2_with fail
                    refine (writeByte_any _ _ _ _ _ HBDJ.out (by have := HLEN.out; omega) HWO.out.size).mono ?_
                    rintro e w5 ⟨rfl, hb5, hbe5⟩
                    rw [byteCells_snoc] at hb5
                    have HB5 := Lib.hid hb5
                    have HBE5 := Lib.hid (HWO.out.trans hbe5)
                    clear hb5 hbe5 x0 x1 x2
                    by_cases htl : t + 1 < n
                    · have htl2 : (t : Int) < (n : Int) - 1 := by omega
                      go_wp2_with fail
                      refine (sign_0 gb _ (HSS.out _ HBE5.out)).mono ?_; rintro e w' ⟨rfl, rfl⟩
                      rw [sgn_eq 0 _ (by decide)]
                      go_wp2_with fail
                      refine (writeByte_any _ _ _ _ _ HB5.out (by have := HLEN.out; rw [← byteCells_snoc, List.length_append]; simp; omega) HBE5.out.size).mono ?_
                      rintro e w6 ⟨rfl, hb6, hbe6⟩
                      rw [byteCells_snoc] at hb6
                      have HB6 := Lib.hid hb6
                      have HBE6 := Lib.hid (HBE5.out.trans hbe6)
                      clear hb6 hbe6
                      go_wp2
                      go_roundw
                      case rel => exact ⟨t + 1, by omega, by go_num, by rw [HRS.out, HCT.out, if_pos htl, HS0.out, ← List.append_assoc]; simpa using HB6.out, HBE6.out⟩
                      case measure => simp [intOf]; omega
                    · have htl2 : ¬ (t : Int) < (n : Int) - 1 := by omega
                      go_wp2
                      go_roundw
                      case rel => exact ⟨t + 1, by omega, by go_num, by rw [HRS.out, HCT.out, if_neg htl, HS0.out, ← List.append_assoc]; exact HB5.out, HBE5.out⟩
                      case measure => simp [intOf]; omega
                  · have HS0 : Hid (s0 = sgn 2 pb) := by rw [HST.out, if_neg hlt3, if_neg heq3]; rfl
                    have ge : ((k : Int) + 1 == o3) = false := by simpa using heq3
                    clear hlt3 heq3
                    go_wp2_with fail
                    refine (sign_2 pb _ HSGN.out).mono ?_; rintro e w' ⟨rfl, rfl⟩
                    rw [sgn_eq 2 _ (by decide)]
                    go_wp2_with fail
                    refine (writeByte_any _ _ _ _ _ HBDJ.out (by have := HLEN.out; omega) HWO.out.size).mono ?_
                    rintro e w5 ⟨rfl, hb5, hbe5⟩
                    rw [byteCells_snoc] at hb5
                    have HB5 := Lib.hid hb5
                    have HBE5 := Lib.hid (HWO.out.trans hbe5)
                    clear hb5 hbe5 x0 x1 x2
                    by_cases htl : t + 1 < n
                    · have htl2 : (t : Int) < (n : Int) - 1 := by omega
                      go_wp2_with fail
                      refine (sign_0 gb _ (HSS.out _ HBE5.out)).mono ?_; rintro e w' ⟨rfl, rfl⟩
                      rw [sgn_eq 0 _ (by decide)]
                      go_wp2_with fail
                      refine (writeByte_any _ _ _ _ _ HB5.out (by have := HLEN.out; rw [← byteCells_snoc, List.length_append]; simp; omega) HBE5.out.size).mono ?_
                      rintro e w6 ⟨rfl, hb6, hbe6⟩
                      rw [byteCells_snoc] at hb6
                      have HB6 := Lib.hid hb6
                      have HBE6 := Lib.hid (HBE5.out.trans hbe6)
                      clear hb6 hbe6
                      go_wp2
                      go_roundw
                      case rel => exact ⟨t + 1, by omega, by go_num, by rw [HRS.out, HCT.out, if_pos htl, HS0.out, ← List.append_assoc]; simpa using HB6.out, HBE6.out⟩
                      case measure => simp [intOf]; omega
                    · have htl2 : ¬ (t : Int) < (n : Int) - 1 := by omega
                      go_wp2
                      go_roundw
                      case rel => exact ⟨t + 1, by omega, by go_num, by rw [HRS.out, HCT.out, if_neg htl, HS0.out, ← List.append_assoc]; exact HB5.out, HBE5.out⟩
                      case measure => simp [intOf]; omega
            · obtain rfl : n = t := by omega
              have hlen2 : ((Lib.byteCells (textTo l L k ++ rowTo l L ((k : Int) + 1) n)).length) + 1 ≤ 1000000 := by
                rw [Lib.byteCells_length, List.length_append]
                have h1 := textTo_len l L k
                have h2 := rowTo_len l L ((k : Int) + 1) n
                rw [HL.out] at h1
                have h3 : k * (2 * n + 1) ≤ 1001 * 19 := Nat.mul_le_mul (by omega) (by omega)
                omega
              go_wp2_with fail
              refine (writeByte_any _ _ _ 10 wr HBD2.out hlen2 HBW2.out.size).mono ?_
              rintro e w5 ⟨rfl, hb5, hbe5⟩
              have HB5 := Lib.hid hb5
              have HBE5 := Lib.hid hbe5
              clear hb5 hbe5 HBD2 hlen2
              go_wp2
              go_roundw
              case rel => exact ⟨k + 1, by omega, by go_num, by rw [textTo_succ, HL.out, ← List.append_assoc, ← byteCells_snoc]; exact HB5.out, HBW2.out.trans HBE5.out⟩
              case measure => simp [intOf]; omega
        · obtain rfl : k = mo + 1 := by omega
          have hne : textTo l L (mo + 1) ≠ [] := by rw [textTo_succ]; simp
          have HT := Lib.hid HDT.out.symm
          go_wp2_with fail
          refine (builderString_any _ _ (textTo l L (mo + 1)) wr HBD.out hne).mono ?_
          rintro e w5 ⟨rfl, hbe5⟩
          have HBE5 := Lib.hid hbe5
          clear hbe5
          go_wp2
          go_ret
          refine ⟨?_, (HBR.out.trans ((HBW.out.trans HBE5.out).mono HBR.out.size))⟩
          rw [HDT.out]; rfl
end Go.Proofs.YtooepkpgffpcjaaDoor
