/- Walks: the box of numbers: turn, Up, Any, One, BoxOf. Which numbers come is not said, only between which bounds. -/
import Derived.Test.YtooepkpgffpcjaaDoorBase
namespace Go.Proofs.YtooepkpgffpcjaaDoor
open Go.RowKit

/-- Block g is a box. -/
def IsBox (w : World) (g : Nat) : Prop := ∃ x : Int, Blk w g 74 #[.int .u64 x]
/-- What a turn of the box g leaves: the box, and all else as it was. -/
structure Step (g : Nat) (w w' : World) : Prop where
  box : IsBox w' g
  grown : w.grownBy w' (some g)
  size : w'.heap.size = w.heap.size
theorem Step.refl {g : Nat} {w : World} (h : IsBox w g) : Step g w w := ⟨h, World.grownBy.refl _ _, rfl⟩
theorem Step.trans {g : Nat} {a b c : World} (h : Step g a b) (k : Step g b c) : Step g a c := ⟨k.box, grown_trans h.grown k.grown, k.size.trans h.size⟩
theorem IsBox.lt {w : World} {g : Nat} (h : IsBox w g) : g < w.heap.size := by obtain ⟨x, hx⟩ := h; exact hx.lt
theorem IsBox.below {w w' : World} {g : Nat} (h : IsBox w g) (hb : Below w.heap.size w w') : IsBox w' g := by obtain ⟨x, hx⟩ := h; exact ⟨x, hx.below hb⟩
theorem IsBox.grown {w w' : World} {g : Nat} {row : Option Nat} (h : IsBox w g) (hg : w.grownBy w' row) (hr : some g ≠ row) : IsBox w' g := by obtain ⟨x, hx⟩ := h; exact ⟨x, hx.grown hg hr⟩
theorem IsBox.alloc {w : World} {g : Nat} (h : IsBox w g) (o : Obj) : IsBox (w.alloc o) g := by obtain ⟨x, hx⟩ := h; exact ⟨x, hx.alloc o⟩
theorem IsBox.drew {w : World} {g : Nat} (h : IsBox w g) : IsBox w.drew g := h
theorem step_of_set {w : World} {g : Nat} {x : Int} (h : Blk w g 74 #[.int .u64 x]) (y : Int) : Step g w (w.setCell ⟨g, 0, none⟩ (.int .u64 y)) :=
  ⟨⟨y, h.set_ 0 (.int .u64 y)⟩, grown_set w g 0 _, by simp [World.setCell]⟩
theorem Step.below {g : Nat} {w w' : World} {B : Nat} (h : Step g w w') (hB : B ≤ g) : Below B w w' :=
  ⟨h.grown.os, h.grown.tape, h.grown.output, h.grown.size, fun k hk => by
    rcases Nat.lt_or_ge k w.heap.size with hlt | hge
    · exact h.grown.block k hlt (fun e => by injection e; omega)
    · rw [Array.getElem?_eq_none (by rw [h.size]; exact hge), Array.getElem?_eq_none hge]⟩

theorem bits_u64 (op : BinOp) (a b : Int) : 0 ≤ bits op .u64 a b ∧ bits op .u64 a b ≤ 18446744073709551615 := by
  unfold bits
  simp only [IntKind.wrap, IntKind.bits, IntKind.signed]
  simp
  omega

/-- a number of 64 bits, and a turn of the box g -/
def Turned (g : Nat) (w : World) (e : Ending) (w' : World) : Prop := ∃ y : Int, e = .returned (.int .u64 y) ∧ 0 ≤ y ∧ y ≤ 18446744073709551615 ∧ Step g w w'
set_option maxHeartbeats 400000 in
theorem turn_any (g : Nat) (w : World) (h : IsBox w g) : Calls Tryd.prog 79 #[.pointer (some ⟨g, 0, none⟩)] w (Turned g w) := by
  obtain ⟨x, hx⟩ := h
  have hc : w.cell? ⟨g, 0, none⟩ = some (.int .u64 x) := by rw [hx.cell]; rfl
  have hf : w.frozen? ⟨g, 0, none⟩ = false := hx.frozen 0
  go_enter Tryd.func79, Tryd.ntmps79
  go_wp2
  go_ret
  exact ⟨_, rfl, (bits_u64 _ _ _).1, (bits_u64 _ _ _).2, step_of_set hx _⟩

/-- a number from 0 up to n - 1 (0 if n is less than 2), and a turn of the box g -/
def Upped (n : Int) (g : Nat) (w : World) (e : Ending) (w' : World) : Prop := ∃ r : Int, e = .returned (.int .i64 r) ∧ 0 ≤ r ∧ (r < n ∨ r = 0) ∧ Step g w w'
set_option maxHeartbeats 400000 in
theorem up_any (g : Nat) (n : Int) (w : World) (h : IsBox w g) (hn : -1000000 ≤ n) (hn' : n ≤ 1000000) : Calls Tryd.prog 35 #[.pointer (some ⟨g, 0, none⟩), .int .i64 n] w (Upped n g w) := by
  have H := Lib.hid h
  clear h
  by_cases hlt : n < 2
  · go_enter Tryd.func35, Tryd.ntmps35
    go_wp2
    go_ret
    exact ⟨_, rfl, by omega, .inr rfl, Step.refl H.out⟩
  · go_enter Tryd.func35, Tryd.ntmps35
    go_wp2_with fail
    refine (turn_any g w H.out).mono ?_; rintro e w' ⟨y, rfl, hy0, hy1, hst⟩
    have HS := Lib.hid hst
    clear hst
    go_wp2
    go_ret
    have h1 : 0 ≤ y / 2 % n := Int.emod_nonneg _ (by omega)
    have h2 : y / 2 % n < n := Int.emod_lt_of_pos _ (by omega)
    have e : wrap64 (y / 2 % n) = y / 2 % n := by
      generalize y / 2 % n = z at h1 h2
      unfold wrap64; omega
    exact ⟨_, rfl, by rw [e]; exact h1, .inl (by rw [e]; exact h2), HS.out⟩

/-- a number from low to high (low if high is less), and a turn of the box g -/
def Anyed (low high : Int) (g : Nat) (w : World) (e : Ending) (w' : World) : Prop := ∃ r : Int, e = .returned (.int .i64 r) ∧ low ≤ r ∧ (r ≤ high ∨ r = low) ∧ Step g w w'
set_option maxHeartbeats 400000 in
theorem any_any (g : Nat) (low high : Int) (w : World) (h : IsBox w g) (hl : -100000 ≤ low) (hl' : low ≤ 100000) (hh : -100000 ≤ high) (hh' : high ≤ 100000) :
    Calls Tryd.prog 21 #[.pointer (some ⟨g, 0, none⟩), .int .i64 low, .int .i64 high] w (Anyed low high g w) := by
  have H := Lib.hid h
  clear h
  go_enter Tryd.func21, Tryd.ntmps21
  go_wp2_with fail
  refine (up_any g _ w H.out (by omega) (by omega)).mono ?_; rintro e w' ⟨r, rfl, hr0, hr1, hst⟩
  have HS := Lib.hid hst
  have HR := Lib.hid hr1
  have hr2 : r ≤ 300000 := by omega
  clear hst hr1
  go_wp2
  go_ret
  exact ⟨_, rfl, by show low ≤ low + r; omega, by show low + r ≤ high ∨ low + r = low; have := HR.out; omega, HS.out⟩

/-- true or false, and a turn of the box g -/
def Oned (g : Nat) (w : World) (e : Ending) (w' : World) : Prop := ∃ b : Bool, e = .returned (.bool b) ∧ Step g w w'
set_option maxHeartbeats 400000 in
theorem one_any (g : Nat) (n : Int) (w : World) (h : IsBox w g) (hn : -1000000 ≤ n) (hn' : n ≤ 1000000) : Calls Tryd.prog 36 #[.pointer (some ⟨g, 0, none⟩), .int .i64 n] w (Oned g w) := by
  have H := Lib.hid h
  clear h
  go_enter Tryd.func36, Tryd.ntmps36
  go_wp2_with fail
  refine (up_any g n w H.out hn hn').mono ?_; rintro e w' ⟨r, rfl, hr0, hr1, hst⟩
  have HS := Lib.hid hst
  clear hst hr1
  go_wp2
  go_ret
  exact ⟨_, rfl, HS.out⟩

/-- a new box -/
def Boxed (w : World) (e : Ending) (w' : World) : Prop := ∃ g, e = .returned (.pointer (some ⟨g, 0, none⟩)) ∧ w.heap.size ≤ g ∧ IsBox w' g ∧ Below w.heap.size w w'
set_option maxHeartbeats 1000000 in
theorem boxOf_any (A : Option Addr) (n c : Nat) (l : List Int) (w : World) (h : RdI w A n l) : Calls Tryd.prog 20 #[.slice A n c] w (Boxed w) := by
  have hbd := h.bd
  go_enter Tryd.func20, Tryd.ntmps20
  go_wp2_with fail
  go_loopw [4] (fun i wr => ∃ k : Nat, k ≤ n ∧ i = .int .i64 k ∧ IsBox wr w.heap.size ∧ Below w.heap.size w wr ∧ wr.heap.size = w.heap.size + 1) (fun i _ => n - (intOf i).toNat)
  case atStart => exact ⟨0, by omega, rfl, ⟨_, Blk.new _ _ _⟩, (Below.refl _ _).alloc (Nat.le_refl _) _, by simp⟩
  case round =>
    obtain ⟨k, hk, rfl, ⟨x, hblk⟩, hbel, hsz⟩ := hrel
    have HBK := Lib.hid hblk
    have HBE := Lib.hid hbel
    have HSZ := Lib.hid hsz
    clear hblk hbel hsz
    by_cases hlt : k < n
    · obtain ⟨ad, v, rfl, had, hv, _, hcell⟩ := h.at_ hlt
      rw [← HBE.out.cell (by rw [block_of_add]; exact had)] at hcell
      have hc : wr.cell? ⟨w.heap.size, 0, none⟩ = some (.int .u64 x) := by rw [HBK.out.cell]; rfl
      have hf : wr.frozen? ⟨w.heap.size, 0, none⟩ = false := HBK.out.frozen 0
      go_wp2_with fail
      go_region
      all_goals go_wp2_with fail
      all_goals
        have hst0 := step_of_set HBK.out (IntKind.u64.wrap (bits BinOp.xor IntKind.u64 x (IntKind.u64.wrap v) * 15485907386658061715))
        have HS0 := Lib.hid hst0
        clear hst0
        refine (turn_any w.heap.size _ (IsBox.drew HS0.out.box)).mono ?_
        rintro e w' ⟨y, rfl, _, _, hst⟩
        have HST := Lib.hid hst
        clear hst hc hf hcell
        go_wp2
        go_roundw
        case rel => exact ⟨k + 1, by omega, by go_num, HST.out.box, (HBE.out.trans (HS0.out.below (Nat.le_refl _)).drew).trans (HST.out.below (Nat.le_refl _)), HST.out.size.trans (HS0.out.size.trans HSZ.out)⟩
        case measure => simp [intOf]; omega
    · go_wp2
      go_ret
      exact ⟨_, rfl, Nat.le_refl _, ⟨x, HBK.out⟩, HBE.out⟩
end Go.Proofs.YtooepkpgffpcjaaDoor
