/- Walks: Draw, Rank, of, awake: the chapter's examples that every statement asks for. -/
import Derived.Test.YtcmacejpoihhlaaMgL
import Derived.Test.YtcmacejpoihhlaaMgC
import Derived.Test.YtcmacejpoihhlaaMgB
namespace Go.Proofs.Ytcmacejpoihhlaa
open Go.RowKit

/-- Rank: the number, and the error -/
def rankE (l : List Int) : Int × Int := if chk l ≠ 0 then (0, chk l) else (rnk l, 0)
set_option maxHeartbeats 400000 in
theorem Rank_any (A : Option Addr) (n c : Nat) (l : List Int) (w : World) (h : RdI w A n l) : Calls Try.prog 41 #[.slice A n c] w (IntErr (rankE l) w) := by
  have HC := Lib.hid (check_any A n c l w h)
  by_cases h0 : chk l = 0
  · have HV := Lib.hid (show rankE l = (rnk l, 0) by unfold rankE; rw [if_neg (by omega)])
    have HR := Lib.hid (rank_any A n c l w h h0)
    rw [h0] at HC
    clear h0
    go_enter Try.func41, Try.ntmps41
    go_wp2_with fail
    refine HC.out.mono ?_; rintro e w' ⟨rfl, rfl⟩
    go_wp2_with fail
    refine HR.out.mono ?_; rintro e w' ⟨rfl, hb⟩
    have HB := Lib.hid hb
    clear hb
    go_wp2
    go_ret2
    refine ⟨?_, HB.out⟩
    rw [HV.out]; rfl
  · have HV := Lib.hid (show rankE l = (0, chk l) by unfold rankE; rw [if_pos h0])
    generalize chk l = z at HC h0 HV
    have g1 : (z == 0) = false := by simpa using h0
    have g2 : (z != 0) = true := by simpa using h0
    clear h0
    go_enter Try.func41, Try.ntmps41
    go_wp2_with fail
    refine HC.out.mono ?_; rintro e w' ⟨rfl, rfl⟩
    go_wp2
    go_ret2
    refine ⟨?_, Below.refl _ _⟩
    rw [HV.out]; rfl

/-- The answer of a function that gives a text and an error. -/
def TextErr (x : List UInt8 × Int) (w : World) (e : Ending) (w' : World) : Prop := e = .returned (.tuple #[.string ⟨x.1.toArray⟩, .int .i64 x.2]) ∧ Below w.heap.size w w'
/-- Draw: the chart, and the error -/
def drawE (l : List Int) : List UInt8 × Int := if chk l ≠ 0 then ([], chk l) else (drawT l, 0)
/-- the partition of a word -/
def ofW (s : ByteArray) : List Int := s.data.toList.map fun c => ((c.toNat : Int) - 65) % 256
theorem ofW_take (s : ByteArray) (k : Nat) (h : k < s.size) : (ofW s).take (k + 1) = (ofW s).take k ++ [((s[k].toNat : Int) - 65) % 256] := by
  refine take_of_get ?_
  unfold ofW
  rw [List.getElem?_map, List.getElem?_eq_getElem (by simpa using h)]
  rfl
theorem mod_bd (z : Int) : I64 (z % 256) := I64.small (by omega)
theorem OwnI.cap {w : World} {base n c : Nat} {e : TypeId} {A : Option Addr} {l : List Int} (h : OwnI w base e A n c l) : n ≤ c := by
  rcases h.1.1.2 with ⟨h1, h2⟩ | ⟨g, cap, cur, hv, _, _, hn, _⟩
  · injection h1; omega
  · injection hv with _ _ h3; omega
def abab : List UInt8 := [111, 45, 45, 45, 111, 32, 32, 10, 124, 32, 111, 45, 120, 45, 111, 10, 124, 32, 124, 32, 124, 32, 124, 10]
theorem draw_ABAB : drawE [0, 1, 0, 1] = (abab, 0) := by decide +kernel
theorem rank_ABAC : rankE [0, 1, 0, 2] = (7, 0) := by decide +kernel
theorem moves_AABB : movesP [0, 0, 1, 1] [0, 1, 0, 1] = (2, 0) := by decide +kernel

end Go.Proofs.Ytcmacejpoihhlaa
