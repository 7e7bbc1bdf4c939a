/- Walks: draw and Draw. -/
import Derived.Test.YtcmacejpoihhlaaMgB
import Derived.Test.YtcmacejpoihhlaaMgH
import Derived.Deep.DeepCutAuto
namespace Go.Proofs.Ytcmacejpoihhlaa
open Go.RowKit

def sgn (place : Nat) (is : Bool) : UInt8 := (signOf place is).toNat.toUInt8
theorem sgn_eq (place : Nat) (is : Bool) (h : place < 3) : signOf place is = ((sgn place is).toNat : Int) := by
  match place, h with
  | 0, _ => cases is <;> decide
  | 1, _ => cases is <;> decide
  | 2, _ => cases is <;> decide
def mostOf (L : List Bar) : Int := L.foldl (fun m b => max m b.2.2) 0
/-- whether a bar passes a packet, and goes on behind it -/
def pgBar (b : Bar) (k n row i : Int) (pg : Bool × Bool) : Bool × Bool :=
  if b.2.2 = row then (pg.1 || (decide (k ≠ n) && decide (b.1 < i) && decide (i < b.2.1)), pg.2 || (decide (b.1 ≤ i) && decide (i < b.2.1))) else pg
def pgTo (L : List Bar) (n row i : Int) (m : Nat) : Bool × Bool := (List.range m).foldl (fun pg k => pgBar (L.getD k (0, 0, 0)) k n row i pg) (false, false)
theorem pgTo_succ {L : List Bar} {n row i : Int} {m : Nat} {b : Bar} (hb : L[m]? = some b) : pgTo L n row i (m + 1) = pgBar b m n row i (pgTo L n row i m) := by
  unfold pgTo; rw [foldl_range_succ, getD_of_get hb]
/-- the sign of packet i in a row -/
def signT (l : List Int) (L : List Bar) (row : Int) (i : Nat) : UInt8 :=
  let n := l.getD i 0
  let own := L.getD n.toNat (0, 0, 0)
  if row < own.2.2 then sgn 0 (pgTo L n row i L.length).1
  else if row = own.2.2 then sgn 1 (decide (own.1 < own.2.1))
  else sgn 2 (pgTo L n row i L.length).1
/-- .. and what stands between it and the next one -/
def cellT (l : List Int) (L : List Bar) (row : Int) (i : Nat) : List UInt8 :=
  if i + 1 < l.length then [signT l L row i, sgn 0 (pgTo L (l.getD i 0) row i L.length).2] else [signT l L row i]
def rowTo (l : List Int) (L : List Bar) (row : Int) (k : Nat) : List UInt8 := (List.range k).foldl (fun acc i => acc ++ cellT l L row i) []
def textTo (l : List Int) (L : List Bar) (r : Nat) : List UInt8 := (List.range r).foldl (fun acc (r : Nat) => acc ++ (rowTo l L ((r : Int) + 1) l.length ++ [10])) []
/-- the chart -/
def drawT (l : List Int) : List UInt8 := textTo l (barsTo l l.length) ((mostOf (barsTo l l.length)).toNat + 1)

theorem mostOf_take {L : List Bar} {k : Nat} {b : Bar} (h : L[k]? = some b) : mostOf (L.take (k + 1)) = max (mostOf (L.take k)) b.2.2 := by
  unfold mostOf; rw [take_of_get h, List.foldl_append]; rfl

theorem cellT_len (l : List Int) (L : List Bar) (row : Int) (i : Nat) : (cellT l L row i).length ≤ 2 := by unfold cellT; split <;> simp
theorem rowTo_succ (l : List Int) (L : List Bar) (row : Int) (k : Nat) : rowTo l L row (k + 1) = rowTo l L row k ++ cellT l L row k := foldl_range_succ _ _ _
theorem rowTo_len (l : List Int) (L : List Bar) (row : Int) (k : Nat) : (rowTo l L row k).length ≤ 2 * k := by
  induction k with
  | zero => simp [rowTo]
  | succ k ih => rw [rowTo_succ, List.length_append]; have := cellT_len l L row k; omega
theorem textTo_succ (l : List Int) (L : List Bar) (k : Nat) : textTo l L (k + 1) = textTo l L k ++ (rowTo l L ((k : Int) + 1) l.length ++ [10]) := foldl_range_succ _ _ _
theorem textTo_len (l : List Int) (L : List Bar) (k : Nat) : (textTo l L k).length ≤ k * (2 * l.length + 1) := by
  induction k with
  | zero => simp [textTo]
  | succ k ih =>
    rw [textTo_succ, List.length_append, List.length_append]
    have := rowTo_len l L ((k : Int) + 1) l.length
    rw [Nat.succ_mul]
    simp; omega
theorem byteCells_snoc (l : List UInt8) (x : UInt8) : Lib.byteCells l ++ [.int .u8 (x.toNat : Int)] = Lib.byteCells (l ++ [x]) := by simp [Lib.byteCells]
theorem mem_lt_foldl (l : List Int) : ∀ (a v : Int), v ∈ l → v < l.foldl (fun n v => max n (v + 1)) a := by
  induction l with
  | nil => intro a v h; cases h
  | cons x l ih =>
    intro a v h
    rcases List.mem_cons.1 h with rfl | h
    · exact Int.lt_of_lt_of_le (show v < max a (v + 1) by omega) (le_foldl_max l _)
    · exact ih _ v h
theorem mem_lt_blk {l : List Int} {v : Int} (h : v ∈ l) : v < blk l := mem_lt_foldl l 0 v h
section
variable {pb gb e : Bool} {b1 b2 t : Int}
theorem p1_a (h : pb = true) : true = (pb || (e && decide (b1 < t) && decide (t < b2))) := by rw [h]; rfl
theorem p1_b (h : ¬ pb = true) (h2 : ¬ e = true) : false = (pb || (e && decide (b1 < t) && decide (t < b2))) := by cases pb <;> cases e <;> simp_all
theorem p1_c (h : ¬ pb = true) (h2 : e = true) (h3 : b1 < t) : decide (t < b2) = (pb || (e && decide (b1 < t) && decide (t < b2))) := by cases pb <;> cases e <;> simp_all
theorem p1_d (h : ¬ pb = true) (h3 : t ≤ b1) : false = (pb || (e && decide (b1 < t) && decide (t < b2))) := by
  rw [decide_eq_false (show ¬ b1 < t by omega)]
  cases pb <;> cases e <;> simp_all
theorem p2_a (h : gb = true) : true = (gb || (decide (b1 ≤ t) && decide (t < b2))) := by rw [h]; rfl
theorem p2_b (h : ¬ gb = true) (h3 : b1 ≤ t) : decide (t < b2) = (gb || (decide (b1 ≤ t) && decide (t < b2))) := by cases gb <;> simp_all
theorem p2_c' (h : ¬ gb = true) (h3 : ¬ b1 ≤ t) : false = (gb || (decide (b1 ≤ t) && decide (t < b2))) := by
  rw [decide_eq_false h3]
  cases gb <;> simp_all
theorem p2_c (h : ¬ gb = true) (h3 : t < b1) : false = (gb || (decide (b1 ≤ t) && decide (t < b2))) := by
  rw [decide_eq_false (show ¬ b1 ≤ t by omega)]
  cases gb <;> simp_all
end
/-- the local copy of a bar -/
theorem blk3 {w : World} {g : Nat} {t : TypeId} {x y z : Int} (h : Blk w g t #[.int .i64 x, .int .i64 y, .int .i64 z]) : w.cell? ⟨g, 0, none⟩ = some (.int .i64 x) ∧ w.cell? ⟨g, 1, none⟩ = some (.int .i64 y) ∧ w.cell? ⟨g, 2, none⟩ = some (.int .i64 z) := by
  refine ⟨?_, ?_, ?_⟩ <;> rw [h.cell] <;> rfl

end Go.Proofs.Ytcmacejpoihhlaa
