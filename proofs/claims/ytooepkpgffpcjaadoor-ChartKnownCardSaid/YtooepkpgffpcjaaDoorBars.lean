/- Walks: sign, slices.Index at bars, slices.Index and Contains at numbers, bars. -/
import Derived.Test.YtooepkpgffpcjaaDoorOf
namespace Go.Proofs.YtooepkpgffpcjaaDoor
open Go.RowKit

/-! ### slices.Index, slices.Contains at numbers -/
/-- where a number stands first, or -1 -/
def idxI (l : List Int) (v : Int) : Int := if v ∈ l then (l.idxOf v : Int) else -1
theorem idxI_at {l : List Int} {v : Int} {k : Nat} (hv : l[k]? = some v) (h : ∀ j, j < k → l[j]? ≠ some v) : idxI l v = k := by unfold idxI; rw [if_pos (List.mem_of_getElem? hv), idx_eq hv h]
theorem idxI_none {l : List Int} {v : Int} (h : ∀ j, j < l.length → l[j]? ≠ some v) : idxI l v = -1 := by unfold idxI; rw [if_neg (idx_none h).2]
theorem idxI_in {l : List Int} {v : Int} (h : v ∈ l) : 0 ≤ idxI l v := by unfold idxI; rw [if_pos h]; omega
theorem idxI_out {l : List Int} {v : Int} (h : v ∉ l) : idxI l v = -1 := by unfold idxI; rw [if_neg h]
def hasI (l : List Int) (v : Int) : Bool := decide (v ∈ l)
set_option maxHeartbeats 400000 in
theorem index_any (A : Option Addr) (n c : Nat) (l : List Int) (v : Int) (w : World) (h : RdI w A n l) (hn : n ≤ 100000) :
    Calls Tryd.prog 127 #[.slice A n c, .int .i64 v] w fun e w' => e = .returned (.int .i64 (idxI l v)) ∧ w = w' := by
  have HL := Lib.hid h.len
  go_enter Tryd.func127, Tryd.ntmps127
  go_wp2
  go_loop [8] (fun i => ∃ k : Nat, k ≤ n ∧ i = .int .i64 k ∧ (∀ j, j < k → l[j]? ≠ some v)) (fun i => n - (intOf i).toNat)
  case atStart => exact ⟨0, by omega, rfl, fun j hj => absurd hj (by omega)⟩
  case round =>
    obtain ⟨k, hk, rfl, hno⟩ := hrel
    have HN := Lib.hid hno
    clear hno
    by_cases hlt : k < n
    · obtain ⟨ad, u, rfl, _, hv, _, hcell⟩ := h.at_ hlt
      by_cases he : v = u
      · subst he
        have HI := Lib.hid (idxI_at hv.out HN.out)
        go_wp2
        go_ret
        exact ⟨ret_int HI.out.symm, rfl⟩
      · have g : (v == u) = false := by simpa using he
        have HE := Lib.hid he
        clear he
        go_wp2
        go_round
        case rel => exact ⟨k + 1, by omega, by go_num, fun j hj => by
          by_cases e : j = k
          · subst e; rw [hv.out]; intro e; injection e with e; exact HE.out e.symm
          · exact HN.out j (by omega)⟩
        case measure => simp [intOf]; omega
    · have HI := Lib.hid (idxI_none (l := l) (v := v) (fun j hj => HN.out j (by have := HL.out; omega)))
      go_wp2
      go_ret
      exact ⟨ret_int HI.out.symm, rfl⟩

set_option maxHeartbeats 400000 in
theorem contains_any (A : Option Addr) (n c : Nat) (l : List Int) (v : Int) (w : World) (h : RdI w A n l) (hn : n ≤ 100000) :
    Calls Tryd.prog 116 #[.slice A n c, .int .i64 v] w fun e w' => e = .returned (.bool (hasI l v)) ∧ w = w' := by
  have H := Lib.hid (index_any A n c l v w h hn)
  by_cases hm : v ∈ l
  · have h0 := idxI_in hm
    have HD := Lib.hid (show hasI l v = true by unfold hasI; simpa using hm)
    generalize idxI l v = k at h0 H
    clear hm
    go_enter Tryd.func116, Tryd.ntmps116
    go_wp2_with fail
    refine H.out.mono ?_; rintro e w' ⟨rfl, rfl⟩
    go_wp2
    go_ret
    exact ⟨ret_bool HD.out.symm, rfl⟩
  · have h0 := idxI_out hm
    rw [h0] at H
    have HD := Lib.hid (show hasI l v = false by unfold hasI; simpa using hm)
    clear hm h0
    go_enter Tryd.func116, Tryd.ntmps116
    go_wp2_with fail
    refine H.out.mono ?_; rintro e w' ⟨rfl, rfl⟩
    go_wp2
    go_ret
    exact ⟨ret_bool HD.out.symm, rfl⟩

/-! ### the signs -/
def signsL : List Int := [32, 45, 124, 111, 124, 120]
/-- the package's signs, as its text lays them -/
def Signs (w : World) : Prop := 0 < w.heap.size ∧ ∀ j v, signsL[j]? = some v → w.cell? ⟨0, j, none⟩ = some (.int .u8 v)
theorem Signs.below {w w' : World} (h : Signs w) (hb : Below w.heap.size w w') : Signs w' :=
  ⟨Nat.lt_of_lt_of_le h.1 hb.size, fun j v hj => (hb.cell (p := ⟨0, j, none⟩) h.1).trans (h.2 j v hj)⟩
theorem Signs.below_ {w w' : World} {B : Nat} (h : Signs w) (hb : Below B w w') (hB : 0 < B) : Signs w' :=
  ⟨Nat.lt_of_lt_of_le h.1 hb.size, fun j v hj => (hb.cell (p := ⟨0, j, none⟩) hB).trans (h.2 j v hj)⟩
def signOf (place : Nat) (is : Bool) : Int := signsL.getD (place * 2 + if is then 1 else 0) 0
set_option maxHeartbeats 400000 in
theorem sign_any (place : Nat) (is : Bool) (w : World) (h : Signs w) (hp : place < 3) :
    Calls Tryd.prog 115 #[.int .i64 place, .bool is] w fun e w' => e = .returned (.int .u8 (signOf place is)) ∧ w = w' := by
  have h0 := h.2 (place * 2) (signsL.getD (place * 2) 0) (by match place, hp with | 0, _ => rfl | 1, _ => rfl | 2, _ => rfl)
  have h1 := h.2 (place * 2 + 1) (signsL.getD (place * 2 + 1) 0) (by match place, hp with | 0, _ => rfl | 1, _ => rfl | 2, _ => rfl)
  have H : Hid (signOf place false = signsL.getD (place * 2) 0 ∧ signOf place true = signsL.getD (place * 2 + 1) 0) := ⟨rfl, rfl⟩
  generalize signsL.getD (place * 2) 0 = a at h0 H
  generalize signsL.getD (place * 2 + 1) 0 = b at h1 H
  clear h
  cases is
  · go_enter Tryd.func115, Tryd.ntmps115
    go_wp2
    go_ret
    exact ⟨ret_int H.out.1.symm, rfl⟩
  · go_enter Tryd.func115, Tryd.ntmps115
    go_wp2
    go_ret
    exact ⟨ret_int H.out.2.symm, rfl⟩
theorem sign_0 (is : Bool) (w : World) (h : Signs w) : Calls Tryd.prog 115 #[.int .i64 0, .bool is] w fun e w' => e = .returned (.int .u8 (signOf 0 is)) ∧ w = w' := sign_any 0 is w h (by decide)
theorem sign_1 (is : Bool) (w : World) (h : Signs w) : Calls Tryd.prog 115 #[.int .i64 1, .bool is] w fun e w' => e = .returned (.int .u8 (signOf 1 is)) ∧ w = w' := sign_any 1 is w h (by decide)
theorem sign_2 (is : Bool) (w : World) (h : Signs w) : Calls Tryd.prog 115 #[.int .i64 2, .bool is] w fun e w' => e = .returned (.int .u8 (signOf 2 is)) ∧ w = w' := sign_any 2 is w h (by decide)

/-! ### bars -/
abbrev Bar := Int × Int × Int
def barCells (L : List Bar) : List Value := L.flatMap fun b => [.int .i64 b.1, .int .i64 b.2.1, .int .i64 b.2.2]
theorem barCells_length (L : List Bar) : (barCells L).length = L.length * 3 := by
  induction L with
  | nil => rfl
  | cons b L ih => simp only [barCells, List.flatMap_cons, List.length_append, List.length_cons, List.length_nil] at ih ⊢; omega
theorem barCells_get (L : List Bar) (j : Nat) (b : Bar) (h : L[j]? = some b) : (barCells L)[j * 3]? = some (.int .i64 b.1) ∧ (barCells L)[j * 3 + 1]? = some (.int .i64 b.2.1) ∧ (barCells L)[j * 3 + 2]? = some (.int .i64 b.2.2) := by
  induction L generalizing j with
  | nil => simp at h
  | cons x L ih =>
    cases j with
    | zero => simp at h; subst h; simp [barCells]
    | succ j =>
      have := ih j (by simpa using h)
      simp only [barCells, List.flatMap_cons] at this ⊢
      rw [show (j + 1) * 3 = j * 3 + 3 by omega]
      simpa using this

theorem getB {α : Type} {l : List α} {n k : Nat} (h : l.length = n) (hk : k < n) : ∃ v, l[k]? = some v := ⟨l[k]'(by omega), List.getElem?_eq_getElem _⟩
/-- a slice of bars that reads as L -/
def RdB (w : World) (A : Option Addr) (n : Nat) (L : List Bar) : Prop :=
  L.length = n ∧ n ≤ 1000000 ∧ (0 < n → ∃ g, A = some ⟨g, 0, none⟩ ∧ g < w.heap.size ∧ ∀ j u, (barCells L)[j]? = some u → w.cell? ⟨g, j, none⟩ = some u)
theorem RdB.below {w w' : World} {A : Option Addr} {n : Nat} {L : List Bar} (h : RdB w A n L) (hb : Below w.heap.size w w') : RdB w' A n L :=
  ⟨h.1, h.2.1, fun hn => by
    obtain ⟨g, e, hg, hc⟩ := h.2.2 hn
    exact ⟨g, e, Nat.lt_of_lt_of_le hg hb.size, fun j u hu => (hb.cell (p := ⟨g, j, none⟩) hg).trans (hc j u hu)⟩⟩

theorem barFields : (Tryd.prog.fieldsOf 85).toList = [{ name := "first", type := 3, offset := 0, embedded := false, tag := "", pkgPath := "aloeswood/chart", byteOffset := 0 }, { name := "last", type := 3, offset := 1, embedded := false, tag := "", pkgPath := "aloeswood/chart", byteOffset := 8 }, { name := "level", type := 3, offset := 2, embedded := false, tag := "", pkgPath := "aloeswood/chart", byteOffset := 16 }] := by kernel_rfl
theorem barUnder : Tryd.prog.underlying 85 = some (.struct (Tryd.prog.fieldsOf 85)) := by kernel_rfl
theorem barHeld : Tryd.prog.stoodInHeld 85 = false := by kernel_rfl
theorem eqBar_run (W : World) (x y z x' y' z' : Int) : (binOp .eql 85 (.agg #[.int .i64 x, .int .i64 y, .int .i64 z]) (.agg #[.int .i64 x', .int .i64 y', .int .i64 z'])).run Tryd.prog W = .ok (.bool (x == x' && (y == y' && z == z'))) W := by
  have h : ∀ d w, (Op.equalIn (d + 1 + 1) 85 (.agg #[.int .i64 x, .int .i64 y, .int .i64 z]) (.agg #[.int .i64 x', .int .i64 y', .int .i64 z'])).run Tryd.prog w = .ok (x == x' && (y == y' && z == z')) w := fun d w => by
    rw [run_equalIn_struct w (d + 1) 85 _ _ barUnder barHeld, barFields]
    have hi := fun (w : World) (a b : Int) => run_equalIn_int (P := Tryd.prog) w d 3 .i64 .i64 a b Tryd.underlying3
    have ha : ∀ w, (isAgg 3).run Tryd.prog w = .ok false w := fun w => by simp [isAgg, run_underlying Tryd.underlying3]
    simp [Op.eqFields, part, hi, ha]
    by_cases e1 : x = x' <;> by_cases e2 : y = y' <;> by_cases e3 : z = z' <;> simp [e1, e2, e3]
  simp only [binOp]
  simp [Op.equal, Op.maxDepth, h 9998]

/-- where a bar stands first, or -1 -/
def idxBar (L : List Bar) (b : Bar) : Int := if b ∈ L then (L.idxOf b : Int) else -1
theorem idxBar_at {l : List Bar} {v : Bar} {k : Nat} (hk : l[k]? = some v) (h : ∀ j, j < k → l[j]? ≠ some v) : idxBar l v = k := by
  unfold idxBar
  have hx : v ∈ l := List.mem_of_getElem? hk
  have h1 := List.idxOf_lt_length_of_mem hx
  have h2 : l[l.idxOf v]? = some v := by rw [List.getElem?_eq_getElem h1, List.getElem_idxOf h1]
  rw [if_pos hx]
  rcases Nat.lt_trichotomy (l.idxOf v) k with h3 | h3 | h3
  · exact absurd h2 (h _ h3)
  · rw [h3]
  · have := List.not_of_lt_findIdx (p := (· == v)) (xs := l) (i := k) h3
    obtain ⟨_, e⟩ := List.getElem?_eq_some_iff.1 hk
    simp [e] at this
theorem idxBar_none {l : List Bar} {v : Bar} (h : ∀ j, j < l.length → l[j]? ≠ some v) : idxBar l v = -1 := by
  unfold idxBar
  rw [if_neg]
  intro hm
  obtain ⟨j, hj, e⟩ := List.getElem_of_mem hm
  exact h j hj (by rw [List.getElem?_eq_getElem hj, e])
theorem bar_ne {x y z x' y' z' : Int} (h : ((x, y, z) : Bar) ≠ (x', y', z')) : (x == x' && (y == y' && z == z')) = false := by
  by_cases e1 : x = x' <;> by_cases e2 : y = y' <;> by_cases e3 : z = z' <;> simp [e1, e2, e3]
  subst e1 e2 e3; exact h rfl
set_option maxHeartbeats 1000000 in
theorem indexBar_any (A : Option Addr) (n c : Nat) (L : List Bar) (x y z : Int) (w : World) (h : RdB w A n L) :
    Calls Tryd.prog 117 #[.slice A n c, .agg #[.int .i64 x, .int .i64 y, .int .i64 z]] w fun e w' => e = .returned (.int .i64 (idxBar L (x, y, z))) ∧ Below w.heap.size w w' := by
  have HL := Lib.hid h.1
  have hn := h.2.1
  go_enter Tryd.func117, Tryd.ntmps117
  go_wp2_with fail
  go_loopw [8] (fun i wr => ∃ k : Nat, k ≤ n ∧ i = .int .i64 k ∧ (∀ j, j < k → L[j]? ≠ some (x, y, z)) ∧ ∃ d, wr = (w.alloc (.cells #[.int .i64 x, .int .i64 y, .int .i64 z] 85)).drewN d) (fun i _ => n - (intOf i).toNat)
  case atStart => exact ⟨0, by omega, rfl, fun j hj => absurd hj (by omega), 0, rfl⟩
  case round =>
    obtain ⟨k, hk, rfl, hno, d, rfl⟩ := hrel
    have HN := Lib.hid hno
    clear hno
    by_cases hlt : k < n
    · obtain ⟨g, rfl, hg, hcs⟩ := h.2.2 (by omega)
      obtain ⟨⟨x', y', z'⟩, hb⟩ := getB HL.out hlt
      have hk3 := barCells_get L k _ hb
      have c0 := hcs _ _ hk3.1
      have c1 := hcs _ _ hk3.2.1
      have c2 := hcs _ _ hk3.2.2
      have HC := Lib.hid hcs
      have HBB := Lib.hid hb
      clear hk3 hcs hb
      have d0 : (w.alloc (.cells #[.int .i64 x, .int .i64 y, .int .i64 z] 85)).cell? ⟨g, k * 3, none⟩ = some (.int .i64 x') := (World.cell?_alloc_lt w _ ⟨g, k * 3, none⟩ hg).trans c0
      have d1 : (w.alloc (.cells #[.int .i64 x, .int .i64 y, .int .i64 z] 85)).cell? ⟨g, k * 3 + 1, none⟩ = some (.int .i64 y') := (World.cell?_alloc_lt w _ ⟨g, k * 3 + 1, none⟩ hg).trans c1
      have d2 : (w.alloc (.cells #[.int .i64 x, .int .i64 y, .int .i64 z] 85)).cell? ⟨g, k * 3 + 2, none⟩ = some (.int .i64 z') := (World.cell?_alloc_lt w _ ⟨g, k * 3 + 2, none⟩ hg).trans c2
      by_cases he : ((x, y, z) : Bar) = (x', y', z')
      · injection he with e1 e2
        injection e2 with e2 e3
        subst e1 e2 e3
        have HI := Lib.hid (idxBar_at HBB.out HN.out)
        have q : ∀ W, (binOp .eql 85 (.agg #[.int .i64 x, .int .i64 y, .int .i64 z]) (.agg #[.int .i64 x, .int .i64 y, .int .i64 z])).run Tryd.prog W = .ok (.bool true) W := fun W => by rw [eqBar_run]; simp
        go_wp2_with fail
        go_quiet (fail)
        go_wp2
        go_ret
        exact ⟨ret_int HI.out.symm, below_drewN (below_drewN ((Below.refl _ _).alloc (Nat.le_refl _) _) _) _⟩
      · have q : ∀ W, (binOp .eql 85 (.agg #[.int .i64 x, .int .i64 y, .int .i64 z]) (.agg #[.int .i64 x', .int .i64 y', .int .i64 z'])).run Tryd.prog W = .ok (.bool false) W := fun W => by rw [eqBar_run, bar_ne he]
        have HE := Lib.hid he
        clear he
        go_wp2_with fail
        go_quiet (fail)
        go_wp2
        go_roundw
        case rel => exact ⟨k + 1, by omega, by go_num, fun j hj => by
          by_cases e : j = k
          · subst e; rw [HBB.out]; intro e; injection e with e; exact HE.out e.symm
          · exact HN.out j (by omega), _, rfl⟩
        case measure => simp [intOf]; omega
    · have HI := Lib.hid (idxBar_none (l := L) (v := (x, y, z)) (fun j hj => HN.out j (by have := HL.out; omega)))
      go_wp2
      go_ret
      exact ⟨ret_int HI.out.symm, below_drewN ((Below.refl _ _).alloc (Nat.le_refl _) _) _⟩
end Go.Proofs.YtooepkpgffpcjaaDoor
