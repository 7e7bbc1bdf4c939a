/- Plain laws of the partition of labels: labels renamed one to one make the same partition, a partition makes itself, equal labels have equal numbers. -/
import Derived.Test.YtooepkpgffpcjaaDoorNum
namespace Go.Proofs.YtooepkpgffpcjaaDoor
open Go.RowKit

theorem seenOf_map {f : Int → Int} (l : List Int) (hf : ∀ x ∈ l, ∀ y ∈ l, f x = f y → x = y) : seenOf (l.map f) = (seenOf l).map f := by
  induction l using snoc_ind with
  | h0 => rfl
  | hs l x ih =>
    have ih' := ih fun a ha b hb => hf a (by simp [ha]) b (by simp [hb])
    rw [List.map_append, List.map_cons, List.map_nil, seenOf_snoc, seenOf_snoc, ih']
    by_cases hx : x ∈ seenOf l
    · rw [if_pos hx, if_pos (List.mem_map.2 ⟨x, hx, rfl⟩)]
    · rw [if_neg hx, if_neg, List.map_append]
      · rfl
      · intro hm
        obtain ⟨y, hy, e⟩ := List.mem_map.1 hm
        have := hf y (by simp [seenOf_sub l y hy]) x (by simp) e
        subst this
        exact hx hy
theorem idxOf_map_on {f : Int → Int} {s : List Int} {x : Int} (hx : x ∈ s) (hf : ∀ y ∈ s, f y = f x → y = x) : (s.map f).idxOf (f x) = s.idxOf x := by
  induction s with
  | nil => cases hx
  | cons a s ih =>
    rw [List.map_cons, List.idxOf_cons, List.idxOf_cons]
    by_cases e : a = x
    · subst e; simp
    · have h1 : (a == x) = false := by simpa using e
      have h2 : (f a == f x) = false := by simpa using fun h => e (hf a (by simp) h)
      rw [h1, h2]
      simp only [cond_false, Nat.add_right_cancel_iff]
      exact ih (by simpa [Ne.symm e] using hx) fun y hy => hf y (by simp [hy])
theorem ofL_map {f : Int → Int} (l : List Int) (hf : ∀ x ∈ l, ∀ y ∈ l, f x = f y → x = y) : ofL (l.map f) = ofL l := by
  unfold ofL
  rw [List.map_map, seenOf_map l hf]
  apply List.map_congr_left
  intro x hx
  show (((seenOf l).map f).idxOf (f x) : Int) = _
  rw [idxOf_map_on (mem_seenOf hx) fun y hy => hf y (seenOf_sub l y hy) x hx]
theorem idx_inj {s : List Int} {x y : Int} (hx : x ∈ s) (hy : y ∈ s) (h : s.idxOf x = s.idxOf y) : x = y := by
  have h1 := List.idxOf_lt_length_of_mem hx
  have h2 := List.idxOf_lt_length_of_mem hy
  have e1 := List.getElem_idxOf h1
  have e2 := List.getElem_idxOf h2
  simp only [h] at e1
  exact e1.symm.trans e2
theorem ofL_ofL (l : List Int) : ofL (ofL l) = ofL l := by
  show ofL (l.map fun x => ((seenOf l).idxOf x : Int)) = ofL l
  exact ofL_map l fun x hx y hy e => idx_inj (mem_seenOf hx) (mem_seenOf hy) (Int.ofNat.inj e)
theorem ofL_same {l : List Int} {i k : Nat} {x y a b : Int} (hx : l[i]? = some x) (hy : l[k]? = some y) (ha : (ofL l)[i]? = some a) (hb : (ofL l)[k]? = some b) : (x == y) = (a == b) := by
  unfold ofL at ha hb
  rw [List.getElem?_map, hx] at ha
  rw [List.getElem?_map, hy] at hb
  injection ha with ha
  injection hb with hb
  subst ha hb
  by_cases e : x = y
  · subst e; simp
  · have h1 : (x == y) = false := by simpa using e
    rw [h1]
    symm
    rw [beq_eq_false_iff_ne]
    intro h
    exact e (idx_inj (mem_seenOf (List.mem_of_getElem? hx)) (mem_seenOf (List.mem_of_getElem? hy)) (Int.ofNat.inj h))

/-- a label and another number, bit by bit -/
def xr (b x : Int) : Int := bits BinOp.xor IntKind.i64 x b
theorem wrap_toInt (a : BitVec 64) : IntKind.i64.wrap (a.toNat : Int) = a.toInt := by
  have h := a.isLt
  rw [BitVec.toInt_eq_toNat_cond]
  have e1 : ((a.toNat : Int) % 2 ^ 64) = a.toNat := by omega
  simp only [IntKind.wrap, IntKind.bits, IntKind.signed, Bool.true_and, decide_eq_true_eq, e1]
  split <;> split <;> omega
theorem xr_eq (b x : Int) : xr b x = (BitVec.ofInt 64 x ^^^ BitVec.ofInt 64 b).toInt := wrap_toInt _
theorem toInt_I64 (a : BitVec 64) : I64 a.toInt := by
  have h1 := a.le_toInt
  have h2 := a.toInt_lt
  unfold I64
  simp at h1 h2
  omega
theorem xr_I64 (b x : Int) : I64 (xr b x) := by rw [xr_eq]; exact toInt_I64 _
theorem ofInt_back {x : Int} (h : I64 x) : (BitVec.ofInt 64 x).toInt = x := by
  unfold I64 at h
  rw [BitVec.toInt_ofInt]
  simp only [Int.bmod]
  split <;> omega
theorem xr_inj {b x y : Int} (hx : I64 x) (hy : I64 y) (h : xr b x = xr b y) : x = y := by
  rw [xr_eq, xr_eq] at h
  have h1 := BitVec.eq_of_toInt_eq h
  have h2 : BitVec.ofInt 64 x = BitVec.ofInt 64 y := by
    have := congrArg (· ^^^ BitVec.ofInt 64 b) h1
    simpa [BitVec.xor_assoc] using this
  rw [← ofInt_back hx, ← ofInt_back hy, h2]
end Go.Proofs.YtooepkpgffpcjaaDoor
