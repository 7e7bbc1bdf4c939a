/- Walks: the reference's Moves: common, stay (which calls itself), Moves. -/
import Derived.Test.YtgnfkgmppeohoaaChkL
namespace Go.Proofs.Ytgnfkgmppeohoaa
open Go.RowKit

/-- how many packets are in block x of a, and in block y of b -/
def cmn : List Int → List Int → Int → Int → Int
  | a :: l, b :: r, x, y => (if a = x ∧ b = y then 1 else 0) + cmn l r x y
  | _, _, _, _ => 0
theorem cmn_bd (l r : List Int) (x y : Int) : 0 ≤ cmn l r x y ∧ cmn l r x y ≤ l.length := by
  induction l generalizing r with
  | nil => simp [cmn]
  | cons a l ih =>
    cases r with
    | nil => simp [cmn]; omega
    | cons b r =>
      have := ih r
      simp only [cmn, List.length_cons]
      split <;> omega
theorem cmn_snoc (l r : List Int) (a b x y : Int) (h : l.length = r.length) : cmn (l ++ [a]) (r ++ [b]) x y = cmn l r x y + if a = x ∧ b = y then 1 else 0 := by
  induction l generalizing r with
  | nil => cases r with
    | nil => simp [cmn]
    | cons => simp at h
  | cons c l ih =>
    cases r with
    | nil => simp at h
    | cons d r =>
      have := ih r (by simpa using h)
      simp only [List.cons_append, cmn, this]
      omega

/-- One round of the reference's stay, for block y of b. -/
def stayRound (a b : List Int) (x : Int) (t : List Bool) (next : List Bool → Int) (best : Int) (y : Nat) : Int :=
  if 0 < cmn a b x y ∧ t.getD y true = false then max best (cmn a b x y + next (t.set y true)) else best
/-- The reference's stay, f blocks of a before its end (of nb). -/
def stay (a b : List Int) (nb : Int) : Nat → List Bool → Int
  | 0, _ => 0
  | f + 1, t => (List.range t.length).foldl (stayRound a b (nb - (f + 1 : Nat)) t (stay a b nb f)) (stay a b nb f t)

theorem stayRounds_bd (a b : List Int) (x : Int) (t : List Bool) (next : List Bool → Int) (M : Int) (hn : ∀ t, 0 ≤ next t ∧ next t ≤ M) (ha : (a.length : Int) ≤ 1000) (l : List Nat) (z : Int) (hz : 0 ≤ z ∧ z ≤ M + 1000) :
    0 ≤ l.foldl (stayRound a b x t next) z ∧ l.foldl (stayRound a b x t next) z ≤ M + 1000 := by
  induction l generalizing z with
  | nil => exact hz
  | cons y l ih =>
    apply ih
    unfold stayRound
    have h1 := cmn_bd a b x y
    have h2 := hn (t.set y true)
    split
    · omega
    · exact hz
theorem stay_bd (a b : List Int) (nb : Int) (ha : (a.length : Int) ≤ 1000) (f : Nat) (t : List Bool) : 0 ≤ stay a b nb f t ∧ stay a b nb f t ≤ f * 1000 := by
  induction f generalizing t with
  | zero => simp [stay]
  | succ f ih =>
    have := stayRounds_bd a b (nb - (f + 1 : Nat)) t (stay a b nb f) (f * 1000) ih ha (List.range t.length) (stay a b nb f t) (by have := ih t; omega)
    simp only [stay]
    omega

/-- The reference's Moves: the number, and the error. -/
def movesR (l r : List Int) : Int × Int := if chk2 l r ≠ 0 then (0, chk2 l r) else (l.length - stay l r (blk l) (blk l).toNat (List.replicate (blk r).toNat false), 0)
/-- The answers of a function that gives a number and an error, and what it leaves. -/
def IntErr (x : Int × Int) (w : World) (e : Ending) (w' : World) : Prop := e = .returned (.tuple #[.int .i64 x.1, .int .i64 x.2]) ∧ Below w.heap.size w w'

theorem RdI.block {w : World} {A : Option Addr} {n : Nat} {l : List Int} (h : RdI w A n l) (hn : 0 < n) {k : Nat} (hk : A.map (·.block) = some k) : k < w.heap.size := by
  obtain ⟨ad, e, hb, _⟩ := h.1.2.2 hn
  rw [e] at hk; injection hk with hk; simp at hk; omega

theorem boolInfo : (Try.prog.info? 4).map (fun i => (i.zero, i.size, i.bytes)) = some (some (.bool false), 1, 1) := by kernel_rfl

end Go.Proofs.Ytgnfkgmppeohoaa
