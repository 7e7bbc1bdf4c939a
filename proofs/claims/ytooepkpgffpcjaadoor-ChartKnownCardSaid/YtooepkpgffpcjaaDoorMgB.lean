/- Walks: the program's Check and the reference's, blocks and slices.Max: what they answer, as plain functions of the list. Walks: copies and comparisons of lists of numbers (slices.Clone, Ints, Eq). Walks: the box of numbers: turn, Up, Any, One, BoxOf. Which numbers come is not said, only between which bounds. Walks: the reference's of and Of, and PartitionOf. Walks: sign, slices.Index at bars, slices.Index and Contains at numbers, bars. Plain lemmas on lists that Check lets pass. Walks: bars: where each block begins and ends, and its level. Walks: bars itself. Walks: the reference's Moves: common, stay (which calls itself), Moves. Walks: the program's Moves: a table of common packets, and for each set of blocks how many packets stay at most. -/
import Derived.Test.YtooepkpgffpcjaaDoorProg
import Derived.Test.YtooepkpgffpcjaaDoorMgA
namespace Go.Proofs.YtooepkpgffpcjaaDoor
open Go.RowKit

/-- chart.Check behind the first packets: 'next' is the next new block. -/
def chkGo (next : Int) : List Int → Int
  | [] => 0
  | n :: r => if n < 0 ∨ 9 ≤ n then 2 else if next < n then 11 else chkGo (if n = next then next + 1 else next) r
def chk (l : List Int) : Int := if l.length = 0 then 6 else if 9 < l.length then 8 else chkGo 0 l

theorem chk_short {l : List Int} (h : l.length = 0) : chk l = 6 := by unfold chk; rw [if_pos h]
theorem chk_full {l : List Int} (h : 9 < l.length) : chk l = 8 := by unfold chk; rw [if_neg (by omega), if_pos h]
theorem chk_go {l : List Int} (h1 : 0 < l.length) (h2 : l.length ≤ 9) : chk l = chkGo 0 l := by unfold chk; rw [if_neg (by omega), if_neg (by omega)]
theorem chkGo_range {nx v : Int} {r : List Int} (h : v < 0 ∨ 9 ≤ v) : chkGo nx (v :: r) = 2 := by simp only [chkGo]; rw [if_pos h]
theorem chkGo_order {nx v : Int} {r : List Int} (h : 0 ≤ v) (h' : v < 9) (h2 : nx < v) : chkGo nx (v :: r) = 11 := by simp only [chkGo]; rw [if_neg (by omega), if_pos h2]
theorem chkGo_new {v : Int} {r : List Int} (h : 0 ≤ v) (h' : v < 9) : chkGo v (v :: r) = chkGo (v + 1) r := by simp only [chkGo]; rw [if_neg (by omega), if_neg (by omega)]; simp
theorem chkGo_old {nx v : Int} {r : List Int} (h : 0 ≤ v) (h' : v < 9) (h2 : v < nx) : chkGo nx (v :: r) = chkGo nx r := by simp only [chkGo]; rw [if_neg (by omega), if_neg (by omega), if_neg (by omega)]

set_option maxHeartbeats 400000 in
theorem check_any (A : Option Addr) (n c : Nat) (l : List Int) (w : World) (h : RdI w A n l) :
    Calls Tryd.prog 31 #[.slice A n c] w fun e w' => e = .returned (.int .i64 (chk l)) ∧ w = w' := by
  have hlen := h.len
  have hbd := h.bd
  by_cases h0 : n = 0
  · have HC := Lib.hid (chk_short (l := l) (by omega)); clear hlen
    subst h0
    go_enter Tryd.func31, Tryd.ntmps31
    go_wp2
    go_ret
    exact ⟨ret_int HC.out.symm, rfl⟩
  by_cases h9 : 9 < n
  · have HC := Lib.hid (chk_full (l := l) (by omega)); clear hlen
    have g0 : ((n : Int) == 0) = false := by simp; omega
    go_enter Tryd.func31, Tryd.ntmps31
    go_wp2
    go_ret
    exact ⟨ret_int HC.out.symm, rfl⟩
  have HC := Lib.hid (chk_go (l := l) (by omega) (by omega))
  have HL := Lib.hid hlen; clear hlen
  have g0 : ((n : Int) == 0) = false := by simp; omega
  have g9 : (n : Int) ≤ 9 := by omega
  go_enter Tryd.func31, Tryd.ntmps31
  go_wp2
  go_loop [3, 16] (fun nx i => ∃ (k : Nat) (x : Int), k ≤ n ∧ i = .int .i64 k ∧ nx = .int .i64 x ∧ 0 ≤ x ∧ x ≤ 9 ∧ Hid (chkGo x (l.drop k) = chkGo 0 l)) (fun _ i => n - (intOf i).toNat)
  case atStart => exact ⟨0, 0, by omega, rfl, rfl, by omega, by omega, rfl⟩
  case round =>
    obtain ⟨k, x, hk, rfl, rfl, hx0, hx9, HX⟩ := hrel
    by_cases hlt : k < n
    · obtain ⟨ad, v, rfl, _, hv, _, hcell⟩ := h.at_ hlt
      rw [drop_of_get hv.out] at HX
      by_cases hr : v < 0 ∨ 9 ≤ v
      · have HR := Lib.hid ((HC.out.trans HX.out.symm).trans (chkGo_range hr))
        go_wp2
        all_goals go_ret
        all_goals exact ⟨ret_int HR.out.symm, rfl⟩
      have h0' : 0 ≤ v := by omega
      have h9' : v < 9 := by omega
      clear hr
      by_cases ho : x < v
      · have HR := Lib.hid ((HC.out.trans HX.out.symm).trans (chkGo_order h0' h9' ho))
        go_wp2
        all_goals go_ret
        all_goals exact ⟨ret_int HR.out.symm, rfl⟩
      by_cases he : v = x
      · subst he
        have HR := Lib.hid ((chkGo_new h0' h9').symm.trans HX.out)
        go_wp2
        go_round
        case rel => exact ⟨k + 1, _, by omega, by go_num, rfl, by omega, by omega, HR⟩
        case measure => simp [intOf]; omega
      · have HR := Lib.hid ((chkGo_old h0' h9' (by omega : v < x)).symm.trans HX.out)
        have g1 : (v == x) = false := by simpa using he
        clear he
        go_wp2
        go_round
        case rel => exact ⟨k + 1, _, by omega, by go_num, rfl, by omega, by omega, HR⟩
        case measure => simp [intOf]; omega
    · have HR : Hid (chk l = 0) := by
        have e := HX.out
        rw [List.drop_of_length_le (by have := HL.out; omega)] at e
        exact HC.out.trans e.symm
      go_wp2
      go_ret
      exact ⟨ret_int HR.out.symm, rfl⟩

set_option maxHeartbeats 400000 in
theorem refCheck_any (A : Option Addr) (n c : Nat) (l : List Int) (w : World) (h : RdI w A n l) :
    Calls Tryd.prog 38 #[.slice A n c] w fun e w' => e = .returned (.int .i64 (chk l)) ∧ w = w' := by
  have hlen := h.len
  have hbd := h.bd
  by_cases h0 : n = 0
  · have HC := Lib.hid (chk_short (l := l) (by omega)); clear hlen
    subst h0
    go_enter Tryd.func38, Tryd.ntmps38
    go_wp2
    go_ret
    exact ⟨ret_int HC.out.symm, rfl⟩
  by_cases h9 : 9 < n
  · have HC := Lib.hid (chk_full (l := l) (by omega)); clear hlen
    have g0 : ((n : Int) == 0) = false := by simp; omega
    go_enter Tryd.func38, Tryd.ntmps38
    go_wp2
    go_ret
    exact ⟨ret_int HC.out.symm, rfl⟩
  have HC := Lib.hid (chk_go (l := l) (by omega) (by omega))
  have HL := Lib.hid hlen; clear hlen
  have g0 : ((n : Int) == 0) = false := by simp; omega
  have g9 : (n : Int) ≤ 9 := by omega
  go_enter Tryd.func38, Tryd.ntmps38
  go_wp2
  go_loop [3, 4] (fun nx i => ∃ (k : Nat) (x : Int), k ≤ n ∧ i = .int .i64 k ∧ nx = .int .i64 x ∧ -1 ≤ x ∧ x ≤ 8 ∧ Hid (chkGo (x + 1) (l.drop k) = chkGo 0 l)) (fun _ i => n - (intOf i).toNat)
  case atStart => exact ⟨0, -1, by omega, rfl, rfl, by omega, by omega, rfl⟩
  case round =>
    obtain ⟨k, x, hk, rfl, rfl, hx0, hx9, HX⟩ := hrel
    by_cases hlt : k < n
    · obtain ⟨ad, v, rfl, _, hv, _, hcell⟩ := h.at_ hlt
      rw [drop_of_get hv.out] at HX
      by_cases hr : v < 0 ∨ 9 ≤ v
      · have HR := Lib.hid ((HC.out.trans HX.out.symm).trans (chkGo_range hr))
        go_wp2
        all_goals go_ret
        all_goals exact ⟨ret_int HR.out.symm, rfl⟩
      have h0' : 0 ≤ v := by omega
      have h9' : v < 9 := by omega
      clear hr
      by_cases ho : x + 1 < v
      · have HR := Lib.hid ((HC.out.trans HX.out.symm).trans (chkGo_order h0' h9' ho))
        go_wp2
        all_goals go_ret
        all_goals exact ⟨ret_int HR.out.symm, rfl⟩
      by_cases he : v = x + 1
      · subst he
        have HR := Lib.hid ((chkGo_new (r := l.drop (k + 1)) h0' h9').symm.trans HX.out)
        go_wp2
        go_round
        case rel => exact ⟨k + 1, x + 1, by omega, by go_num, rfl, by omega, by omega, HR⟩
        case measure => simp [intOf]; omega
      · have HR := Lib.hid ((chkGo_old h0' h9' (by omega : v < x + 1)).symm.trans HX.out)
        have hvx : v ≤ x := by omega
        clear he
        go_wp2
        go_round
        case rel => exact ⟨k + 1, x, by omega, by go_num, rfl, by omega, by omega, HR⟩
        case measure => simp [intOf]; omega
    · have HR : Hid (chk l = 0) := by
        have e := HX.out
        rw [List.drop_of_length_le (by have := HL.out; omega)] at e
        exact HC.out.trans e.symm
      go_wp2
      go_ret
      exact ⟨ret_int HR.out.symm, rfl⟩

/-- How many blocks. -/
def blk (l : List Int) : Int := l.foldl (fun n v => max n (v + 1)) 0
def Small (l : List Int) : Prop := ∀ v ∈ l, 0 ≤ v ∧ v ≤ 1000
theorem blk_take {l : List Int} {k : Nat} {v : Int} (h : l[k]? = some v) : blk (l.take (k + 1)) = max (blk (l.take k)) (v + 1) := by
  rw [take_of_get h]; simp [blk]
theorem foldl_max_bd (l : List Int) (hs : Small l) (a : Int) (h0 : 0 ≤ a) (ha : a ≤ 1001) : 0 ≤ l.foldl (fun n v => max n (v + 1)) a ∧ l.foldl (fun n v => max n (v + 1)) a ≤ 1001 := by
  induction l generalizing a with
  | nil => exact ⟨h0, ha⟩
  | cons x r ih =>
    have := hs x (by simp)
    exact ih (fun v hv => hs v (by simp [hv])) (max a (x + 1)) (by omega) (by omega)
theorem blk_bd {l : List Int} (hs : Small l) : 0 ≤ blk l ∧ blk l ≤ 1001 := foldl_max_bd l hs 0 (by omega) (by omega)
theorem Small.take {l : List Int} (hs : Small l) (k : Nat) : Small (l.take k) := fun v hv => hs v (List.mem_of_mem_take hv)
theorem Small.drop {l : List Int} (hs : Small l) (k : Nat) : Small (l.drop k) := fun v hv => hs v (List.mem_of_mem_drop hv)
theorem Small.get {l : List Int} (hs : Small l) {k : Nat} {v : Int} (h : l[k]? = some v) : 0 ≤ v ∧ v ≤ 1000 := hs v (List.mem_of_getElem? h)

set_option maxHeartbeats 400000 in
theorem refBlocks_any (A : Option Addr) (n c : Nat) (l : List Int) (w : World) (h : RdI w A n l) (hs : Small l) :
    Calls Tryd.prog 86 #[.slice A n c] w fun e w' => e = .returned (.int .i64 (blk l)) ∧ w = w' := by
  have HL := Lib.hid h.len
  have hbd := h.bd
  go_enter Tryd.func86, Tryd.ntmps86
  go_wp2
  go_loop [3, 4] (fun nx i => ∃ (k : Nat), k ≤ n ∧ i = .int .i64 k ∧ nx = .int .i64 (blk (l.take k))) (fun _ i => n - (intOf i).toNat)
  case atStart => exact ⟨0, by omega, rfl, rfl⟩
  case round =>
    obtain ⟨k, hk, rfl, rfl⟩ := hrel
    by_cases hlt : k < n
    · obtain ⟨ad, v, rfl, _, hv, _, hcell⟩ := h.at_ hlt
      have HB := Lib.hid (blk_take hv.out)
      obtain ⟨x, hx⟩ : ∃ x, x = blk (l.take k) := ⟨_, rfl⟩
      rw [← hx] at HB ⊢
      clear hx
      have hv1 := hs.get hv.out
      go_wp2
      go_round
      case rel => exact ⟨k + 1, by omega, by go_num, by rw [HB.out, int_max]⟩
      case measure => simp [intOf]; omega
    · have HR : Hid (blk (l.take k) = blk l) := by rw [List.take_of_length_le (by have := HL.out; omega)]; rfl
      go_wp2
      go_ret
      exact ⟨ret_int HR.out, rfl⟩

set_option maxHeartbeats 400000 in
theorem lawBlocks_any (A : Option Addr) (n c : Nat) (l : List Int) (w : World) (h : RdI w A n l) (hs : Small l) :
    Calls Tryd.prog 27 #[.slice A n c] w fun e w' => e = .returned (.int .i64 (blk l)) ∧ w = w' := by
  have HL := Lib.hid h.len
  have hbd := h.bd
  go_enter Tryd.func27, Tryd.ntmps27
  go_wp2
  go_loop [3, 4] (fun nx i => ∃ (k : Nat), k ≤ n ∧ i = .int .i64 k ∧ nx = .int .i64 (blk (l.take k))) (fun _ i => n - (intOf i).toNat)
  case atStart => exact ⟨0, by omega, rfl, rfl⟩
  case round =>
    obtain ⟨k, hk, rfl, rfl⟩ := hrel
    by_cases hlt : k < n
    · obtain ⟨ad, v, rfl, _, hv, _, hcell⟩ := h.at_ hlt
      have HB := Lib.hid (blk_take hv.out)
      obtain ⟨x, hx⟩ : ∃ x, x = blk (l.take k) := ⟨_, rfl⟩
      rw [← hx] at HB ⊢
      clear hx
      have hv1 := hs.get hv.out
      go_wp2
      go_round
      case rel => exact ⟨k + 1, by omega, by go_num, by rw [HB.out, int_max]⟩
      case measure => simp [intOf]; omega
    · have HR : Hid (blk (l.take k) = blk l) := by rw [List.take_of_length_le (by have := HL.out; omega)]; rfl
      go_wp2
      go_ret
      exact ⟨ret_int HR.out, rfl⟩

/-- slices.Max, of a list with a head. -/
def mx (a : Int) (l : List Int) : Int := l.foldl max a
theorem mx_snoc (a : Int) (l : List Int) (v : Int) : mx a (l ++ [v]) = max (mx a l) v := by simp [mx]
theorem blk_mx (a : Int) (r : List Int) (hs : Small (a :: r)) : blk (a :: r) = mx a r + 1 := by
  have key : ∀ (r : List Int) (x : Int), r.foldl (fun n v => max n (v + 1)) (x + 1) = mx x r + 1 := by
    intro r
    induction r with
    | nil => intro x; rfl
    | cons y r ih =>
      intro x
      show r.foldl (fun n v => max n (v + 1)) (max (x + 1) (y + 1)) = mx (max x y) r + 1
      rw [← ih]; congr 1; omega
  have h0 := (hs a (by simp)).1
  show r.foldl (fun n v => max n (v + 1)) (max 0 (a + 1)) = _
  rw [show max 0 (a + 1) = a + 1 by omega]
  exact key r a
theorem mx_mem_or (a : Int) (l : List Int) : mx a l = a ∨ mx a l ∈ l := by
  induction l generalizing a with
  | nil => exact .inl rfl
  | cons y r ih =>
    rcases ih (max a y) with h | h
    · have e : mx a (y :: r) = max a y := h
      rw [e]
      by_cases hay : a ≤ y
      · right; rw [Int.max_eq_right hay]; simp
      · left; omega
    · right; exact List.mem_cons_of_mem _ h

set_option maxHeartbeats 400000 in
theorem max_any (A : Option Addr) (n c : Nat) (a : Int) (l : List Int) (w : World) (h : RdI w A n (a :: l)) :
    Calls Tryd.prog 83 #[.slice A n c] w fun e w' => e = .returned (.int .i64 (mx a l)) ∧ w = w' := by
  have hlen := h.len
  have hbd := h.bd
  have hn : 1 ≤ n := by rw [← hlen]; simp
  obtain ⟨ad, v, rfl, _, hv, _, hcell⟩ := h.at_ (show 0 < n by omega)
  obtain rfl : a = v := by simpa using hv.out
  rw [Addr.add_zero'] at hcell
  have HL := Lib.hid hlen; clear hlen hv
  go_enter Tryd.func83, Tryd.ntmps83
  go_wp2
  go_loop [3, 4] (fun nx i => ∃ (k : Nat), 1 ≤ k ∧ k ≤ n ∧ i = .int .i64 k ∧ nx = .int .i64 (mx a (l.take (k - 1)))) (fun _ i => n - (intOf i).toNat)
  case atStart => exact ⟨1, by omega, by omega, rfl, rfl⟩
  case round =>
    obtain ⟨k, hk1, hk, rfl, rfl⟩ := hrel
    by_cases hlt : k < n
    · obtain ⟨ad', v, e, _, hv, _, hcell⟩ := h.at_ hlt
      injection e with e; subst e
      have HB : Hid (mx a (l.take k) = max (mx a (l.take (k - 1))) v) := by
        obtain ⟨j, rfl⟩ : ∃ j, k = j + 1 := ⟨k - 1, by omega⟩
        have hv' : l[j]? = some v := by simpa using hv.out
        show mx a (l.take (j + 1)) = _
        rw [take_of_get hv', mx_snoc]; rfl
      obtain ⟨x, hx⟩ : ∃ x, x = mx a (l.take (k - 1)) := ⟨_, rfl⟩
      rw [← hx] at HB ⊢
      clear hx
      go_wp2
      go_round
      case rel => exact ⟨k + 1, by omega, by omega, by go_num, by rw [Nat.add_sub_cancel, HB.out, int_max]⟩
      case measure => simp [intOf]; omega
    · have HR : Hid (mx a (l.take (k - 1)) = mx a l) := by rw [List.take_of_length_le (by have := HL.out; simp at this; omega)]; rfl
      go_wp2
      go_ret
      exact ⟨ret_int HR.out, rfl⟩

set_option maxHeartbeats 400000 in
theorem blocks_any (A : Option Addr) (n c : Nat) (l : List Int) (w : World) (h : RdI w A n l) (hs : Small l) (hn : 0 < n) :
    Calls Tryd.prog 81 #[.slice A n c] w fun e w' => e = .returned (.int .i64 (blk l)) ∧ w = w' := by
  cases l with
  | nil => have := h.len; simp at this; omega
  | cons a r =>
    have HB := Lib.hid (blk_mx a r hs)
    have hb := blk_bd hs
    have hb1 : mx a r ≤ 1000 := by have := HB.out; omega
    have hb2 : -1 ≤ mx a r := by have := HB.out; omega
    clear hb hs
    go_enter Tryd.func81, Tryd.ntmps81
    go_wp2_with (go_at_call 83; refine (max_any _ _ _ a r _ h).mono ?_; rintro e w' ⟨rfl, rfl⟩)
    go_ret
    exact ⟨ret_int HB.out.symm, rfl⟩

/-- the error of two partitions -/
def chk2 (a b : List Int) : Int := if chk a ≠ 0 then chk a else if chk b ≠ 0 then chk b else if a.length ≠ b.length then 12 else 0

set_option maxHeartbeats 400000 in
theorem both_any (A B : Option Addr) (n m c d : Nat) (l r : List Int) (w : World) (h1 : RdI w A n l) (h2 : RdI w B m r) :
    Calls Tryd.prog 80 #[.slice A n c, .slice B m d] w fun e w' => e = .returned (.int .i64 (chk2 l r)) ∧ w = w' := by
  have c1 := check_any A n c l w h1
  have c2 := check_any B m d r w h2
  have hn := h1.bd
  have hm := h2.bd
  obtain ⟨z, hz⟩ : ∃ z, z = chk2 l r := ⟨_, rfl⟩
  rw [← hz]
  unfold chk2 at hz
  rw [h1.len, h2.len] at hz
  generalize chk l = x1 at c1 hz
  generalize chk r = x2 at c2 hz
  have H1 := Lib.hid c1
  have H2 := Lib.hid c2
  clear c1 c2 h1 h2
  by_cases e1 : x1 = 0
  · subst e1
    by_cases e2 : x2 = 0
    · subst e2
      by_cases e3 : n = m
      · subst e3
        have HZ := Lib.hid (show z = 0 by rw [hz]; simp)
        clear hz
        go_enter Tryd.func80, Tryd.ntmps80
        go_wp2_with fail
        refine H1.out.mono ?_; rintro e w' ⟨rfl, rfl⟩
        go_wp2_with fail
        refine H2.out.mono ?_; rintro e w' ⟨rfl, rfl⟩
        go_wp2
        go_ret
        exact ⟨ret_int HZ.out.symm, rfl⟩
      · have HZ := Lib.hid (show z = 12 by rw [hz]; simp [e3])
        have g : ((n : Int) == m) = false := by simp; omega
        have g' : ((n : Int) != m) = true := by simp; omega
        clear hz
        go_enter Tryd.func80, Tryd.ntmps80
        go_wp2_with fail
        refine H1.out.mono ?_; rintro e w' ⟨rfl, rfl⟩
        go_wp2_with fail
        refine H2.out.mono ?_; rintro e w' ⟨rfl, rfl⟩
        go_wp2
        go_ret
        exact ⟨ret_int HZ.out.symm, rfl⟩
    · have HZ := Lib.hid (show z = x2 by rw [hz]; simp [e2])
      have g : (x2 == 0) = false := by simpa using e2
      have g' : (x2 != 0) = true := by simpa using e2
      clear hz e2
      go_enter Tryd.func80, Tryd.ntmps80
      go_wp2_with fail
      refine H1.out.mono ?_; rintro e w' ⟨rfl, rfl⟩
      go_wp2_with fail
      refine H2.out.mono ?_; rintro e w' ⟨rfl, rfl⟩
      go_wp2
      go_ret
      exact ⟨ret_int HZ.out.symm, rfl⟩
  · have HZ := Lib.hid (show z = x1 by rw [hz]; simp [e1])
    have g : (x1 == 0) = false := by simpa using e1
    have g' : (x1 != 0) = true := by simpa using e1
    clear hz e1
    go_enter Tryd.func80, Tryd.ntmps80
    go_wp2_with fail
    refine H1.out.mono ?_; rintro e w' ⟨rfl, rfl⟩
    go_wp2
    go_ret
    exact ⟨ret_int HZ.out.symm, rfl⟩

set_option maxHeartbeats 400000 in
theorem refBoth_any (A B : Option Addr) (n m c d : Nat) (l r : List Int) (w : World) (h1 : RdI w A n l) (h2 : RdI w B m r) :
    Calls Tryd.prog 84 #[.slice A n c, .slice B m d] w fun e w' => e = .returned (.int .i64 (chk2 l r)) ∧ w = w' := by
  have c1 := refCheck_any A n c l w h1
  have c2 := refCheck_any B m d r w h2
  have hn := h1.bd
  have hm := h2.bd
  obtain ⟨z, hz⟩ : ∃ z, z = chk2 l r := ⟨_, rfl⟩
  rw [← hz]
  unfold chk2 at hz
  rw [h1.len, h2.len] at hz
  generalize chk l = x1 at c1 hz
  generalize chk r = x2 at c2 hz
  have H1 := Lib.hid c1
  have H2 := Lib.hid c2
  clear c1 c2 h1 h2
  by_cases e1 : x1 = 0
  · subst e1
    by_cases e2 : x2 = 0
    · subst e2
      by_cases e3 : n = m
      · subst e3
        have HZ := Lib.hid (show z = 0 by rw [hz]; simp)
        clear hz
        go_enter Tryd.func84, Tryd.ntmps84
        go_wp2_with fail
        refine H1.out.mono ?_; rintro e w' ⟨rfl, rfl⟩
        go_wp2_with fail
        refine H2.out.mono ?_; rintro e w' ⟨rfl, rfl⟩
        go_wp2
        go_ret
        exact ⟨ret_int HZ.out.symm, rfl⟩
      · have HZ := Lib.hid (show z = 12 by rw [hz]; simp [e3])
        have g : ((n : Int) == m) = false := by simp; omega
        have g' : ((n : Int) != m) = true := by simp; omega
        clear hz
        go_enter Tryd.func84, Tryd.ntmps84
        go_wp2_with fail
        refine H1.out.mono ?_; rintro e w' ⟨rfl, rfl⟩
        go_wp2_with fail
        refine H2.out.mono ?_; rintro e w' ⟨rfl, rfl⟩
        go_wp2
        go_ret
        exact ⟨ret_int HZ.out.symm, rfl⟩
    · have HZ := Lib.hid (show z = x2 by rw [hz]; simp [e2])
      have g : (x2 == 0) = false := by simpa using e2
      have g' : (x2 != 0) = true := by simpa using e2
      clear hz e2
      go_enter Tryd.func84, Tryd.ntmps84
      go_wp2_with fail
      refine H1.out.mono ?_; rintro e w' ⟨rfl, rfl⟩
      go_wp2_with fail
      refine H2.out.mono ?_; rintro e w' ⟨rfl, rfl⟩
      go_wp2
      go_ret
      exact ⟨ret_int HZ.out.symm, rfl⟩
  · have HZ := Lib.hid (show z = x1 by rw [hz]; simp [e1])
    have g : (x1 == 0) = false := by simpa using e1
    have g' : (x1 != 0) = true := by simpa using e1
    clear hz e1
    go_enter Tryd.func84, Tryd.ntmps84
    go_wp2_with fail
    refine H1.out.mono ?_; rintro e w' ⟨rfl, rfl⟩
    go_wp2
    go_ret
    exact ⟨ret_int HZ.out.symm, rfl⟩
end Go.Proofs.YtooepkpgffpcjaaDoor

namespace Go.Proofs.YtooepkpgffpcjaaDoor
open Go.RowKit

theorem intInfo : (Tryd.prog.info? 3).map (fun i => (i.zero, i.size, i.bytes)) = some (some (.int .i64 0), 1, 8) := by kernel_rfl

/-- What is known behind an append of numbers. -/
structure Apped (w w' : World) (base : Nat) (A A' : Option Addr) (n c' : Nat) (l : List Int) : Prop where
  own : OwnI w' base 3 A' n c' l
  grown : w.grownBy w' (A.map (·.block))
  at_ : ∀ k, A'.map (·.block) = some k → A.map (·.block) = some k ∨ w.heap.size ≤ k
  below : Below base w w'

/-- 'append(s, x...)', both of numbers. -/
theorem wpList_appI (w : World) {ops : Array Oper} {rest : List Oper} {o : Oper} {a : Act} {Q : Exit → Act → World → Prop} (hgd : o.guard = none) (s x : Operand)
    (ho : o.op = .call { callee := .builtin .append, args := #[s, x], argTypes := #[22, 22] })
    {base n c m d : Nat} {A B : Option Addr} {l r : List Int} (hs : a.eval s = .slice A n c) (hx : a.eval x = .slice B m d) (hown : OwnI w base 3 A n c l) (hr : RdI w B m r) (hnm : n + m ≤ 1000000) (hbase : base ≤ w.heap.size)
    (h : ∀ A' c' w', Apped w w' base A A' (n + m) c' (l ++ r) → wpList Tryd.prog ops Q rest (a.put o.dst (.slice A' (n + m) c')) w') : wpList Tryd.prog ops Q (o :: rest) a w := by
  obtain ⟨i0, hi0, hz0, hz1, hz2⟩ := info_parts intInfo
  refine wpList_app w hgd s x 22 ho base 3 i0 _ 8 Tryd.underlying22 hi0 hz0 hz1 hz2 rfl (by decide) A n c (ints l) hs hown.1 B m d (ints r) hx hr.1 (ints_oneCell' r) hnm hbase ?_
  intro A' c' w' h1 h2 h3
  refine h A' c' w' ⟨⟨by rw [ints_append]; exact h1, ?_⟩, h2, (fun k hk => by rcases h3 with e | e <;> rw [e] at hk; exact .inl hk; simp at hk; exact .inr (by omega)), below_app hown.1 h2 hbase⟩
  intro v hv
  rcases List.mem_append.1 hv with hv | hv
  · exact hown.2 v hv
  · exact hr.2 v hv

/-- 'append(s, x)': the number x was laid in a new block first. -/
theorem wpList_appI1 (w : World) {ops : Array Oper} {rest : List Oper} {o : Oper} {a : Act} {Q : Exit → Act → World → Prop} (hgd : o.guard = none) (s x : Operand)
    (ho : o.op = .call { callee := .builtin .append, args := #[s, x], argTypes := #[22, 22] })
    {base n c : Nat} {A : Option Addr} {l : List Int} {v : Int} (t : TypeId) (hs : a.eval s = .slice A n c) (hx : a.eval x = .slice (some ⟨w.heap.size, 0, none⟩) 1 1) (hown : OwnI w base 3 A n c l) (hv : I64 v) (hnm : n + 1 ≤ 1000000) (hbase : base ≤ w.heap.size)
    (h : ∀ A' c' w', Apped w w' base A A' (n + 1) c' (l ++ [v]) → wpList Tryd.prog ops Q rest (a.put o.dst (.slice A' (n + 1) c')) w') : wpList Tryd.prog ops Q (o :: rest) a (w.alloc (.cells #[.int .i64 v] t)) := by
  refine wpList_appI _ hgd s x ho hs hx (hown.alloc _) (RdI.one w t v hv) hnm (by simp; omega) ?_
  intro A' c' w' k
  have hg : w.grownBy w' (A.map (·.block)) := grown_trans (World.grownBy_alloc w _ _) k.grown
  exact h A' c' w' ⟨k.own, hg, (fun j hj => by rcases k.at_ j hj with e | e; exact .inl e; simp at e; exact .inr (by omega)), below_app hown.1 hg hbase⟩

/-- A copy of numbers: a row of the callee's own. -/
def Copied (l : List Int) (w : World) (e : Ending) (w' : World) : Prop :=
  ∃ A c, e = .returned (.slice A l.length c) ∧ OwnI w' w.heap.size 3 A l.length c l ∧ Below w.heap.size w w'

set_option maxHeartbeats 400000 in
theorem ints_any (A : Option Addr) (n c : Nat) (l : List Int) (w : World) (h : RdI w A n l) (hn : n ≤ 1000) :
    Calls Tryd.prog 34 #[.slice A n c] w (Copied l w) := by
  obtain rfl := h.len
  go_enter Tryd.func34, Tryd.ntmps34
  go_wp2_with (at_builtin; go_must (refine wpList_appI _ rfl (.tmp 3) (.tmp 4) rfl rfl rfl (OwnI.lit w 3 [] 0 (by omega) rfl w.heap.size (Nat.le_refl _) (by simp)) (h.alloc _) (by omega) (by simp) ?_); intro A' c' w' k)
  go_ret
  exact ⟨A', c', rfl, by simpa using k.own, ((Below.refl _ _).alloc (Nat.le_refl _) _).trans k.below⟩

set_option maxHeartbeats 400000 in
theorem clone_any (A : Option Addr) (n c : Nat) (l : List Int) (w : World) (h : RdI w A n l) (hn : n ≤ 1000) (hA : A.isNone = false) :
    Calls Tryd.prog 82 #[.slice A n c] w (Copied l w) := by
  obtain rfl := h.len
  have q : ∀ (w : World) (a : Option Addr) (n c n' c' : Nat), (binOp .eql 22 (.slice a n c) (.slice none n' c')).run Tryd.prog w = .ok (.bool a.isNone) w := fun w a n c n' c' => Lib.run_eql_slice_nil w _ _ a n c n' c' Tryd.underlying22
  go_enter Tryd.func82, Tryd.ntmps82
  go_wp2_with (at_builtin; go_must (refine wpList_appI _ rfl (.tmp 5) (.tmp 6) rfl rfl rfl (OwnI.lit w 3 [] 0 (by omega) rfl w.heap.size (Nat.le_refl _) (by simp)) (h.alloc _) (by omega) (by simp) ?_); intro A' c' w' k)
  go_ret
  exact ⟨A', c', rfl, by simpa using k.own, ((Below.refl _ _).alloc (Nat.le_refl _) _).trans k.below⟩

theorem eq_of_takes {l r : List Int} {n k : Nat} (h1 : l.length = n) (h2 : r.length = n) (hk : ¬ k < n) (h : l.take k = r.take k) : true = (l == r) := by
  rw [List.take_of_length_le (by omega), List.take_of_length_le (by omega)] at h
  subst h; simp
theorem ne_of_get {l r : List Int} {k : Nat} {v u : Int} (h1 : l[k]? = some v) (h2 : r[k]? = some u) (h : (v == u) = false) : false = (l == r) := by
  symm; rw [beq_eq_false_iff_ne]; rintro rfl
  rw [h1] at h2; injection h2 with h2; subst h2; simp at h
theorem ne_of_len {l r : List Int} (h : l.length ≠ r.length) : false = (l == r) := by
  symm; rw [beq_eq_false_iff_ne]; rintro rfl; exact h rfl
theorem take_snoc2 {l r : List Int} {k : Nat} {v : Int} (h1 : l[k]? = some v) (h2 : r[k]? = some v) (h : l.take k = r.take k) : l.take (k + 1) = r.take (k + 1) := by
  rw [take_of_get h1, take_of_get h2, h]

set_option maxHeartbeats 400000 in
theorem eq_any (A B : Option Addr) (n m c d : Nat) (l r : List Int) (w : World) (h1 : RdI w A n l) (h2 : RdI w B m r) :
    Calls Tryd.prog 32 #[.slice A n c, .slice B m d] w fun e w' => e = .returned (.bool (l == r)) ∧ ∃ k, w' = w.drewN k := by
  have hn := h1.bd
  have hm := h2.bd
  have hl1 := h1.len
  have hl2 := h2.len
  by_cases hnm : n = m
  · subst hnm
    have HL1 := Lib.hid hl1
    have HL2 := Lib.hid hl2
    clear hl1 hl2
    go_enter Tryd.func32, Tryd.ntmps32
    go_wp2
    go_loopw [5] (fun i wr => ∃ k : Nat, k ≤ n ∧ i = .int .i64 k ∧ l.take k = r.take k ∧ ∃ j, wr = w.drewN j) (fun i _ => n - (intOf i).toNat)
    case atStart => exact ⟨0, by omega, rfl, rfl, 0, rfl⟩
    case round =>
      obtain ⟨k, hk, rfl, he, j, rfl⟩ := hrel
      have HE := Lib.hid he
      clear he
      by_cases hlt : k < n
      · obtain ⟨ad, v, rfl, _, hv, _, hcell⟩ := h1.at_ hlt
        obtain ⟨bd, u, rfl, _, hu, _, hcell2⟩ := h2.at_ hlt
        by_cases hne : v = u
        · subst hne
          go_wp2
          go_quiet (fail)
          go_wp2
          go_roundw
          case rel => exact ⟨k + 1, by omega, by go_num, take_snoc2 hv.out hu.out HE.out, _, rfl⟩
          case measure => simp [intOf]; omega
        · have g : (v == u) = false := by simpa using hne
          have g' : (v != u) = true := by simpa using hne
          clear hne
          go_wp2
          go_quiet (fail)
          go_wp2
          go_ret
          exact ⟨ret_bool (ne_of_get hv.out hu.out g), _, World.drewN_drewN _ _ _⟩
      · go_wp2
        go_ret
        exact ⟨ret_bool (eq_of_takes HL1.out HL2.out hlt HE.out), _, rfl⟩
  · have HN := Lib.hid (ne_of_len (l := l) (r := r) (by omega))
    have g : ((n : Int) == m) = false := by simp; omega
    have g' : ((n : Int) != m) = true := by simp; omega
    clear hl1 hl2
    go_enter Tryd.func32, Tryd.ntmps32
    go_wp2
    go_ret
    exact ⟨ret_bool HN.out, 0, rfl⟩
end Go.Proofs.YtooepkpgffpcjaaDoor

namespace Go.Proofs.YtooepkpgffpcjaaDoor
open Go.RowKit

/-- Block g is a box. -/
def IsBox (w : World) (g : Nat) : Prop := ∃ x : Int, Blk w g 74 #[.int .u64 x]
/-- What a turn of the box g leaves: the box, and all else as it was. -/
structure Step (g : Nat) (w w' : World) : Prop where
  box : IsBox w' g
  grown : w.grownBy w' (some g)
  size : w'.heap.size = w.heap.size
theorem Step.refl {g : Nat} {w : World} (h : IsBox w g) : Step g w w := ⟨h, World.grownBy.refl _ _, rfl⟩
theorem Step.trans {g : Nat} {a b c : World} (h : Step g a b) (k : Step g b c) : Step g a c := ⟨k.box, grown_trans h.grown k.grown, k.size.trans h.size⟩
theorem IsBox.lt {w : World} {g : Nat} (h : IsBox w g) : g < w.heap.size := by obtain ⟨x, hx⟩ := h; exact hx.lt
theorem IsBox.below {w w' : World} {g : Nat} (h : IsBox w g) (hb : Below w.heap.size w w') : IsBox w' g := by obtain ⟨x, hx⟩ := h; exact ⟨x, hx.below hb⟩
theorem IsBox.grown {w w' : World} {g : Nat} {row : Option Nat} (h : IsBox w g) (hg : w.grownBy w' row) (hr : some g ≠ row) : IsBox w' g := by obtain ⟨x, hx⟩ := h; exact ⟨x, hx.grown hg hr⟩
theorem IsBox.alloc {w : World} {g : Nat} (h : IsBox w g) (o : Obj) : IsBox (w.alloc o) g := by obtain ⟨x, hx⟩ := h; exact ⟨x, hx.alloc o⟩
theorem IsBox.drew {w : World} {g : Nat} (h : IsBox w g) : IsBox w.drew g := h
theorem step_of_set {w : World} {g : Nat} {x : Int} (h : Blk w g 74 #[.int .u64 x]) (y : Int) : Step g w (w.setCell ⟨g, 0, none⟩ (.int .u64 y)) :=
  ⟨⟨y, h.set_ 0 (.int .u64 y)⟩, grown_set w g 0 _, by simp [World.setCell]⟩
theorem Step.below {g : Nat} {w w' : World} {B : Nat} (h : Step g w w') (hB : B ≤ g) : Below B w w' :=
  ⟨h.grown.os, h.grown.tape, h.grown.output, h.grown.size, fun k hk => by
    rcases Nat.lt_or_ge k w.heap.size with hlt | hge
    · exact h.grown.block k hlt (fun e => by injection e; omega)
    · rw [Array.getElem?_eq_none (by rw [h.size]; exact hge), Array.getElem?_eq_none hge]⟩

theorem bits_u64 (op : BinOp) (a b : Int) : 0 ≤ bits op .u64 a b ∧ bits op .u64 a b ≤ 18446744073709551615 := by
  unfold bits
  simp only [IntKind.wrap, IntKind.bits, IntKind.signed]
  simp
  omega

/-- a number of 64 bits, and a turn of the box g -/
def Turned (g : Nat) (w : World) (e : Ending) (w' : World) : Prop := ∃ y : Int, e = .returned (.int .u64 y) ∧ 0 ≤ y ∧ y ≤ 18446744073709551615 ∧ Step g w w'
set_option maxHeartbeats 400000 in
theorem turn_any (g : Nat) (w : World) (h : IsBox w g) : Calls Tryd.prog 79 #[.pointer (some ⟨g, 0, none⟩)] w (Turned g w) := by
  obtain ⟨x, hx⟩ := h
  have hc : w.cell? ⟨g, 0, none⟩ = some (.int .u64 x) := by rw [hx.cell]; rfl
  have hf : w.frozen? ⟨g, 0, none⟩ = false := hx.frozen 0
  go_enter Tryd.func79, Tryd.ntmps79
  go_wp2
  go_ret
  exact ⟨_, rfl, (bits_u64 _ _ _).1, (bits_u64 _ _ _).2, step_of_set hx _⟩

/-- a number from 0 up to n - 1 (0 if n is less than 2), and a turn of the box g -/
def Upped (n : Int) (g : Nat) (w : World) (e : Ending) (w' : World) : Prop := ∃ r : Int, e = .returned (.int .i64 r) ∧ 0 ≤ r ∧ (r < n ∨ r = 0) ∧ Step g w w'
set_option maxHeartbeats 400000 in
theorem up_any (g : Nat) (n : Int) (w : World) (h : IsBox w g) (hn : -1000000 ≤ n) (hn' : n ≤ 1000000) : Calls Tryd.prog 35 #[.pointer (some ⟨g, 0, none⟩), .int .i64 n] w (Upped n g w) := by
  have H := Lib.hid h
  clear h
  by_cases hlt : n < 2
  · go_enter Tryd.func35, Tryd.ntmps35
    go_wp2
    go_ret
    exact ⟨_, rfl, by omega, .inr rfl, Step.refl H.out⟩
  · go_enter Tryd.func35, Tryd.ntmps35
    go_wp2_with fail
    refine (turn_any g w H.out).mono ?_; rintro e w' ⟨y, rfl, hy0, hy1, hst⟩
    have HS := Lib.hid hst
    clear hst
    go_wp2
    go_ret
    have h1 : 0 ≤ y / 2 % n := Int.emod_nonneg _ (by omega)
    have h2 : y / 2 % n < n := Int.emod_lt_of_pos _ (by omega)
    have e : wrap64 (y / 2 % n) = y / 2 % n := by
      generalize y / 2 % n = z at h1 h2
      unfold wrap64; omega
    exact ⟨_, rfl, by rw [e]; exact h1, .inl (by rw [e]; exact h2), HS.out⟩

/-- a number from low to high (low if high is less), and a turn of the box g -/
def Anyed (low high : Int) (g : Nat) (w : World) (e : Ending) (w' : World) : Prop := ∃ r : Int, e = .returned (.int .i64 r) ∧ low ≤ r ∧ (r ≤ high ∨ r = low) ∧ Step g w w'
set_option maxHeartbeats 400000 in
theorem any_any (g : Nat) (low high : Int) (w : World) (h : IsBox w g) (hl : -100000 ≤ low) (hl' : low ≤ 100000) (hh : -100000 ≤ high) (hh' : high ≤ 100000) :
    Calls Tryd.prog 21 #[.pointer (some ⟨g, 0, none⟩), .int .i64 low, .int .i64 high] w (Anyed low high g w) := by
  have H := Lib.hid h
  clear h
  go_enter Tryd.func21, Tryd.ntmps21
  go_wp2_with fail
  refine (up_any g _ w H.out (by omega) (by omega)).mono ?_; rintro e w' ⟨r, rfl, hr0, hr1, hst⟩
  have HS := Lib.hid hst
  have HR := Lib.hid hr1
  have hr2 : r ≤ 300000 := by omega
  clear hst hr1
  go_wp2
  go_ret
  exact ⟨_, rfl, by show low ≤ low + r; omega, by show low + r ≤ high ∨ low + r = low; have := HR.out; omega, HS.out⟩

/-- true or false, and a turn of the box g -/
def Oned (g : Nat) (w : World) (e : Ending) (w' : World) : Prop := ∃ b : Bool, e = .returned (.bool b) ∧ Step g w w'
set_option maxHeartbeats 400000 in
theorem one_any (g : Nat) (n : Int) (w : World) (h : IsBox w g) (hn : -1000000 ≤ n) (hn' : n ≤ 1000000) : Calls Tryd.prog 36 #[.pointer (some ⟨g, 0, none⟩), .int .i64 n] w (Oned g w) := by
  have H := Lib.hid h
  clear h
  go_enter Tryd.func36, Tryd.ntmps36
  go_wp2_with fail
  refine (up_any g n w H.out hn hn').mono ?_; rintro e w' ⟨r, rfl, hr0, hr1, hst⟩
  have HS := Lib.hid hst
  clear hst hr1
  go_wp2
  go_ret
  exact ⟨_, rfl, HS.out⟩

/-- a new box -/
def Boxed (w : World) (e : Ending) (w' : World) : Prop := ∃ g, e = .returned (.pointer (some ⟨g, 0, none⟩)) ∧ w.heap.size ≤ g ∧ IsBox w' g ∧ Below w.heap.size w w'
set_option maxHeartbeats 1000000 in
theorem boxOf_any (A : Option Addr) (n c : Nat) (l : List Int) (w : World) (h : RdI w A n l) : Calls Tryd.prog 20 #[.slice A n c] w (Boxed w) := by
  have hbd := h.bd
  go_enter Tryd.func20, Tryd.ntmps20
  go_wp2_with fail
  go_loopw [4] (fun i wr => ∃ k : Nat, k ≤ n ∧ i = .int .i64 k ∧ IsBox wr w.heap.size ∧ Below w.heap.size w wr ∧ wr.heap.size = w.heap.size + 1) (fun i _ => n - (intOf i).toNat)
  case atStart => exact ⟨0, by omega, rfl, ⟨_, Blk.new _ _ _⟩, (Below.refl _ _).alloc (Nat.le_refl _) _, by simp⟩
  case round =>
    obtain ⟨k, hk, rfl, ⟨x, hblk⟩, hbel, hsz⟩ := hrel
    have HBK := Lib.hid hblk
    have HBE := Lib.hid hbel
    have HSZ := Lib.hid hsz
    clear hblk hbel hsz
    by_cases hlt : k < n
    · obtain ⟨ad, v, rfl, had, hv, _, hcell⟩ := h.at_ hlt
      rw [← HBE.out.cell (by rw [block_of_add]; exact had)] at hcell
      have hc : wr.cell? ⟨w.heap.size, 0, none⟩ = some (.int .u64 x) := by rw [HBK.out.cell]; rfl
      have hf : wr.frozen? ⟨w.heap.size, 0, none⟩ = false := HBK.out.frozen 0
      go_wp2_with fail
      go_region
      all_goals go_wp2_with fail
      all_goals
        have hst0 := step_of_set HBK.out (IntKind.u64.wrap (bits BinOp.xor IntKind.u64 x (IntKind.u64.wrap v) * 15485907386658061715))
        have HS0 := Lib.hid hst0
        clear hst0
        refine (turn_any w.heap.size _ (IsBox.drew HS0.out.box)).mono ?_
        rintro e w' ⟨y, rfl, _, _, hst⟩
        have HST := Lib.hid hst
        clear hst hc hf hcell
        go_wp2
        go_roundw
        case rel => exact ⟨k + 1, by omega, by go_num, HST.out.box, (HBE.out.trans (HS0.out.below (Nat.le_refl _)).drew).trans (HST.out.below (Nat.le_refl _)), HST.out.size.trans (HS0.out.size.trans HSZ.out)⟩
        case measure => simp [intOf]; omega
    · go_wp2
      go_ret
      exact ⟨_, rfl, Nat.le_refl _, ⟨x, HBK.out⟩, HBE.out⟩
end Go.Proofs.YtooepkpgffpcjaaDoor

namespace Go.Proofs.YtooepkpgffpcjaaDoor
open Go.RowKit

/-- the labels that were met, in the order in which they came first -/
def seenStep (s : List Int) (x : Int) : List Int := if x ∈ s then s else s ++ [x]
def seenOf (l : List Int) : List Int := l.foldl seenStep []
/-- the partition of labels: where each stands among those that were met -/
def ofL (l : List Int) : List Int := l.map fun x => ((seenOf l).idxOf x : Int)
theorem seenOf_snoc (l : List Int) (x : Int) : seenOf (l ++ [x]) = if x ∈ seenOf l then seenOf l else seenOf l ++ [x] := by unfold seenOf; rw [List.foldl_append]; rfl
theorem seen_fold (l : List Int) (s : List Int) : (∀ y ∈ s, y ∈ l.foldl seenStep s) ∧ ∀ y ∈ l, y ∈ l.foldl seenStep s := by
  induction l generalizing s with
  | nil => exact ⟨fun y h => h, by simp⟩
  | cons x l ih =>
    obtain ⟨h1, h2⟩ := ih (seenStep s x)
    refine ⟨fun y hy => h1 y (by unfold seenStep; split; exact hy; simp [hy]), fun y hy => ?_⟩
    rcases List.mem_cons.1 hy with rfl | hy
    · refine h1 y ?_
      unfold seenStep
      split
      · assumption
      · simp
    · exact h2 y hy
theorem mem_seenOf {l : List Int} {y : Int} (h : y ∈ l) : y ∈ seenOf l := (seen_fold l []).2 y h
theorem seenOf_sub (l : List Int) : ∀ y ∈ seenOf l, y ∈ l := by
  have key : ∀ (l s : List Int), ∀ y ∈ l.foldl seenStep s, y ∈ s ∨ y ∈ l := by
    intro l
    induction l with
    | nil => intro s y h; exact .inl h
    | cons x l ih =>
      intro s y h
      rcases ih _ y h with h | h
      · unfold seenStep at h
        split at h
        · exact .inl h
        · rcases List.mem_append.1 h with h | h
          · exact .inl h
          · exact .inr (by simp at h; simp [h])
      · exact .inr (List.mem_cons_of_mem _ h)
  intro y h
  rcases key l [] y h with h | h
  · cases h
  · exact h
theorem seenOf_len (l : List Int) : (seenOf l).length ≤ l.length := by
  have key : ∀ (l s : List Int), (l.foldl seenStep s).length ≤ s.length + l.length := by
    intro l
    induction l with
    | nil => intro s; simp
    | cons x l ih =>
      intro s
      refine Nat.le_trans (ih _) ?_
      unfold seenStep
      split <;> simp <;> omega
  have := key l []
  simpa [seenOf] using this
theorem idxOf_snoc {s : List Int} {x y : Int} (h : y ∈ s) : (s ++ [x]).idxOf y = s.idxOf y := by
  rw [List.idxOf_append, if_pos h]
theorem ofL_snoc (l : List Int) (x : Int) : ofL (l ++ [x]) = ofL l ++ [((seenOf l).idxOf x : Int)] := by
  unfold ofL
  rw [List.map_append, seenOf_snoc]
  split
  · rfl
  · rename_i hx
    congr 1
    · apply List.map_congr_left
      intro y hy
      rw [idxOf_snoc (mem_seenOf hy)]
    · simp only [List.map_cons, List.map_nil]
      congr 2
      rw [List.idxOf_append, if_neg hx]
      simp [List.idxOf_eq_length hx]
theorem ofL_length (l : List Int) : (ofL l).length = l.length := by simp [ofL]
theorem ofL_get_bd (l : List Int) : ∀ v ∈ ofL l, 0 ≤ v ∧ v < l.length := by
  intro v hv
  obtain ⟨x, hx, rfl⟩ := List.mem_map.1 hv
  have h1 := List.idxOf_lt_length_of_mem (mem_seenOf hx)
  have h2 := seenOf_len l
  omega
theorem ofL_I64 {l : List Int} (hl : l.length ≤ 1000) : ∀ v ∈ ofL l, I64 v := fun v hv => by
  have := ofL_get_bd l v hv
  exact I64.small (by omega)

/-- two slices that share no block -/
def Disj (A B : Option Addr) : Prop := ∀ k, A.map (·.block) = some k → B.map (·.block) ≠ some k
theorem Disj.nil_left (B : Option Addr) : Disj none B := fun k h => by cases h
theorem Disj.symm {A B : Option Addr} (h : Disj A B) : Disj B A := fun k h1 h2 => h k h2 h1
theorem Disj.ne {A B : Option Addr} (h : Disj A B) : A.map (·.block) = none ∨ A.map (·.block) ≠ B.map (·.block) := by
  cases e : A.map (·.block) with
  | none => exact .inl rfl
  | some k => exact .inr (fun e2 => h k e e2.symm)
theorem Apped.disj {w w' : World} {base n c' : Nat} {A A' B : Option Addr} {l : List Int} (h : Apped w w' base A A' n c' l) (hd : Disj A B) (hB : ∀ k, B.map (·.block) = some k → k < w.heap.size) : Disj A' B := by
  intro k h1 h2
  rcases h.at_ k h1 with e | e
  · exact hd k e h2
  · have := hB k h2; omega
theorem OwnI.block {w : World} {base n c : Nat} {e : TypeId} {A : Option Addr} {l : List Int} (h : OwnI w base e A n c l) : ∀ (k : Nat), A.map (·.block) = some k → k < w.heap.size := fun _ hk => (h.1.block hk).2

theorem idx_eq {s : List Int} {x : Int} {k : Nat} (hk : s[k]? = some x) (h : ∀ j, j < k → s[j]? ≠ some x) : s.idxOf x = k := by
  have hx : x ∈ s := List.mem_of_getElem? hk
  have h1 := List.idxOf_lt_length_of_mem hx
  have h2 : s[s.idxOf x]? = some x := by rw [List.getElem?_eq_getElem h1, List.getElem_idxOf h1]
  have hkl := (List.getElem?_eq_some_iff.1 hk).1
  rcases Nat.lt_trichotomy (s.idxOf x) k with h3 | h3 | h3
  · exact absurd h2 (h _ h3)
  · exact h3
  · have := List.not_of_lt_findIdx (p := (· == x)) (xs := s) (i := k) h3
    obtain ⟨_, e⟩ := List.getElem?_eq_some_iff.1 hk
    simp [e] at this
theorem idx_none {s : List Int} {x : Int} (h : ∀ j, j < s.length → s[j]? ≠ some x) : s.idxOf x = s.length ∧ x ∉ s := by
  have hx : x ∉ s := fun hm => by
    obtain ⟨j, hj, e⟩ := List.getElem_of_mem hm
    exact h j hj (by rw [List.getElem?_eq_getElem hj, e])
  exact ⟨List.idxOf_eq_length hx, hx⟩

/-- a list of numbers that is the callee's own -/
def Listed (l : List Int) (w : World) (e : Ending) (w' : World) : Prop :=
  ∃ A c, e = .returned (.slice A l.length c) ∧ OwnI w' w.heap.size 3 A l.length c l ∧ Below w.heap.size w w'

set_option maxHeartbeats 1000000 in
theorem refof_any (A : Option Addr) (n c : Nat) (l : List Int) (w : World) (h : RdI w A n l) (hn : n ≤ 1000) :
    Calls Tryd.prog 90 #[.slice A n c] w (Listed (ofL l) w) := by
  have HL := Lib.hid h.len
  go_enter Tryd.func90, Tryd.ntmps90
  go_wp2_with fail
  go_loopw [3, 4, 5] (fun o s i wr => ∃ k : Nat, k ≤ n ∧ i = .int .i64 k ∧ ∃ Ao co As cs, o = .slice Ao k co ∧ s = .slice As (seenOf (l.take k)).length cs ∧
      OwnI wr w.heap.size 3 Ao k co (ofL (l.take k)) ∧ OwnI wr w.heap.size 3 As (seenOf (l.take k)).length cs (seenOf (l.take k)) ∧ Disj Ao As ∧ Below w.heap.size w wr) (fun _ _ i _ => n - (intOf i).toNat)
  case atStart => exact ⟨0, by omega, rfl, none, 0, none, 0, rfl, rfl, OwnI.nil_ _ _ _, OwnI.nil_ _ _ _, Disj.nil_left _, Below.refl _ _⟩
  case round =>
    obtain ⟨k, hk, rfl, Ao, co, As, cs, rfl, rfl, hoo, hos, hdj, hbel⟩ := hrel
    have HO := Lib.hid hoo
    have HS := Lib.hid hos
    have HD := Lib.hid hdj
    have HB := Lib.hid hbel
    clear hoo hos hdj hbel
    by_cases hlt : k < n
    · obtain ⟨ad, v, rfl, had, hv, hv64, hcell⟩ := h.at_ hlt
      rw [← HB.out.cell (by rw [block_of_add]; exact had)] at hcell
      have HT := Lib.hid (take_of_get hv.out)
      have HSN := Lib.hid (seenOf_snoc (l.take k) v)
      have HON := Lib.hid (ofL_snoc (l.take k) v)
      have hsl : (seenOf (l.take k)).length ≤ k := Nat.le_trans (seenOf_len _) (List.length_take_le _ _)
      generalize seenOf (l.take k) = S at HS HSN HON hsl
      generalize ofL (l.take k) = O at HO HON
      obtain ⟨m, hm⟩ : ∃ m, m = S.length := ⟨_, rfl⟩
      rw [← hm] at HS hsl ⊢
      have HM := Lib.hid hm
      clear hm
      obtain ⟨wo, rfl⟩ : ∃ wo : World, wo = wr := ⟨_, rfl⟩
      go_wp2_with fail
      go_loopw [6] (fun i wq => ∃ j : Nat, j ≤ m ∧ i = .int .i64 j ∧ (∀ t, t < j → S[t]? ≠ some v) ∧ ∃ d, wq = wo.drewN d) (fun i _ => m - (intOf i).toNat)
      case atStart => exact ⟨0, by omega, rfl, fun t ht => absurd ht (by omega), 0, rfl⟩
      case round =>
        obtain ⟨j, hj, rfl, hno, d, rfl⟩ := hrel
        have HN := Lib.hid hno
        clear hno
        by_cases hjm : j < m
        · obtain ⟨bd, u, rfl, _, hu, _, hcell2⟩ := HS.out.rd.at_ hjm
          by_cases hne : u = v
          · subst hne
            have HI := Lib.hid (idx_eq hu.out HN.out)
            have g1 : ((j : Int) == (m : Int)) = false := by simp; omega
            have g2 : ((j : Int) == (S.length : Int)) = false := by rw [← HM.out]; exact g1
            have hsz := HB.out.size
            have hk1 : k < 1000 := by omega
            go_wp2_with fail
            go_quiet (fail)
            go_wp2_with (at_builtin; go_must (refine wpList_appI1 _ rfl (.tmp 41) (.tmp 43) rfl _ rfl rfl (HO.out.drewN _) (v := (j : Int)) (I64.small (by omega)) (by omega) hsz ?_); intro A' c' w' kk)
            have KK := Lib.hid kk
            clear kk
            have hvS : u ∈ S := List.mem_of_getElem? hu.out
            have HVS := Lib.hid hvS
            clear hvS
            go_wp2
            go_roundw
            case rel => exact ⟨k + 1, by omega, by go_num, A', c', _, cs, rfl, by rw [HT.out, HSN.out, if_pos HVS.out, HM.out], by rw [HT.out, HON.out, HI.out]; exact KK.out.own, by rw [HT.out, HSN.out, if_pos HVS.out, ← HM.out]; exact OwnI.grown (OwnI.drewN HS.out _) KK.out.grown HD.out.symm.ne, Apped.disj KK.out HD.out HS.out.block, (below_drewN HB.out _).trans KK.out.below⟩
            case measure => simp [intOf]; omega
          · have g1 : (u != v) = true := by simpa using hne
            have g2 : (u == v) = false := by simpa using hne
            have HNE := Lib.hid hne
            clear hne
            go_wp2_with fail
            go_quiet (fail)
            go_wp2
            go_roundw
            case rel => exact ⟨j + 1, by omega, by go_num, fun t ht => by
              by_cases e : t = j
              · subst e; rw [hu.out]; intro e; injection e with e; exact HNE.out e
              · exact HN.out t (by omega), _, rfl⟩
            case measure => simp [intOf]; omega
        · obtain rfl : m = j := by omega
          have g1 : decide ((m : Int) < (m : Int)) = false := by simp
          have hsz := HB.out.size
          have hm1 : m < 1000 := by omega
          have HI := Lib.hid (idx_none (s := S) (x := v) (by rw [← HM.out]; exact HN.out))
          go_wp2_with fail
          go_quiet (fail)
          go_wp2_with (first
            | (at_builtin; refine wpList_appI1 _ rfl (.tmp 34) (.tmp 39) rfl _ rfl rfl (HS.out.drewN _) hv64 (by omega) hsz ?_; intro A1 c1 w1 kk1; have ho1 := OwnI.grown (OwnI.drewN HO.out _) kk1.grown HD.out.ne; have hsz1 := ((below_drewN HB.out _).trans kk1.below).size; have KK1 := Lib.hid kk1; clear kk1; have HO1 := Lib.hid ho1; clear ho1)
            | (at_builtin; refine wpList_appI1 _ rfl (.tmp 41) (.tmp 43) rfl _ rfl rfl HO1.out (v := (m : Int)) (I64.small (by omega)) (by omega) hsz1 ?_; intro A2 c2 w2 kk2; have KK2 := Lib.hid kk2; clear kk2))
          go_roundw
          have HD1 : Hid (Disj A1 Ao) := Apped.disj KK1.out HD.out.symm HO.out.block
          case rel => exact ⟨k + 1, by omega, by go_num, A2, c2, A1, c1, rfl, by rw [HT.out, HSN.out, if_neg HI.out.2, List.length_append, HM.out]; rfl, by rw [HT.out, HON.out, HI.out.1, ← HM.out]; exact KK2.out.own, by rw [HT.out, HSN.out, if_neg HI.out.2, List.length_append, ← HM.out]; exact OwnI.grown KK1.out.own KK2.out.grown HD1.out.ne, Apped.disj KK2.out HD1.out.symm KK1.out.own.block, ((below_drewN HB.out _).trans KK1.out.below).trans KK2.out.below⟩
          case measure => simp [intOf]; omega
    · have HK : Hid (l.take k = l) := by rw [List.take_of_length_le (by have := HL.out; omega)]; rfl
      rw [HK.out] at HO
      obtain rfl : k = n := by omega
      go_wp2
      go_ret
      have hl2 : (ofL l).length = k := by rw [ofL_length, HL.out]
      refine ⟨Ao, co, ?_, ?_, HB.out⟩
      · rw [hl2]; rfl
      · rw [hl2]; exact HO.out

theorem snoc_ind {α : Type} {P : List α → Prop} (h0 : P []) (hs : ∀ l x, P l → P (l ++ [x])) (l : List α) : P l := by
  rw [← List.reverse_reverse l]
  induction l.reverse with
  | nil => exact h0
  | cons x r ih => rw [List.reverse_cons]; exact hs _ _ ih
theorem blk_snoc (l : List Int) (v : Int) : blk (l ++ [v]) = max (blk l) (v + 1) := by simp [blk]
theorem blk_ofL (l : List Int) : blk (ofL l) = (seenOf l).length := by
  induction l using snoc_ind with
  | h0 => rfl
  | hs l x ih =>
    rw [ofL_snoc, blk_snoc, ih, seenOf_snoc]
    split
    · rename_i hx
      have := List.idxOf_lt_length_of_mem hx
      omega
    · rename_i hx
      rw [List.idxOf_eq_length hx, List.length_append]
      simp; omega
theorem chkGo_snoc (l : List Int) (nx v : Int) (h : chkGo nx l = 0) (h0 : 0 ≤ v) (h9 : v < 9) (hv : v ≤ l.foldl (fun n v => max n (v + 1)) nx) : chkGo nx (l ++ [v]) = 0 := by
  induction l generalizing nx with
  | nil =>
    simp only [List.foldl_nil] at hv
    simp only [List.nil_append, chkGo]
    rw [if_neg (by omega), if_neg (by omega)]
  | cons a l ih =>
    simp only [chkGo] at h
    split at h
    · cases h
    · rename_i h1
      split at h
      · cases h
      · rename_i h2
        simp only [List.cons_append, chkGo]
        rw [if_neg h1, if_neg h2]
        refine ih _ h ?_
        simp only [List.foldl_cons] at hv
        rw [show (if a = nx then nx + 1 else nx) = max nx (a + 1) by split <;> omega]
        exact hv
theorem chkGo_ofL (l : List Int) (h : l.length ≤ 9) : chkGo 0 (ofL l) = 0 := by
  induction l using snoc_ind with
  | h0 => rfl
  | hs l x ih =>
    simp only [List.length_append, List.length_singleton] at h
    rw [ofL_snoc]
    have h1 : ((seenOf l).idxOf x) ≤ (seenOf l).length := List.idxOf_le_length
    have h2 := seenOf_len l
    have h3 : l.length < 9 := by simp at h; omega
    refine chkGo_snoc _ 0 _ (ih (by omega)) (by omega) (by omega) ?_
    show _ ≤ blk (ofL l)
    rw [blk_ofL]; omega
theorem chk_ofL {l : List Int} (h1 : 1 ≤ l.length) (h9 : l.length ≤ 9) : chk (ofL l) = 0 := by
  rw [chk_go (by rw [ofL_length]; omega) (by rw [ofL_length]; omega)]; exact chkGo_ofL l h9

/-- The answer of a function that gives a list of numbers and an error. -/
def IntsErr (x : List Int × Int) (w : World) (e : Ending) (w' : World) : Prop :=
  ∃ A c, e = .returned (.tuple #[.slice A x.1.length c, .int .i64 x.2]) ∧ OwnI w' w.heap.size 3 A x.1.length c x.1 ∧ Below w.heap.size w w'
/-- Of: the partition, and the error -/
def ofE (l : List Int) : List Int × Int := if l.length = 0 then ([], 6) else if 9 < l.length then ([], 8) else (ofL l, 0)
theorem IntsErr.none_ (w : World) (x : Int) : IntsErr ([], x) w (.returned (.tuple #[.slice none 0 0, .int .i64 x])) w := ⟨none, 0, rfl, OwnI.nil_ _ _ _, Below.refl _ _⟩

set_option maxHeartbeats 400000 in
theorem refOf_any (A : Option Addr) (n c : Nat) (l : List Int) (w : World) (h : RdI w A n l) : Calls Tryd.prog 37 #[.slice A n c] w (IntsErr (ofE l) w) := by
  have hlen := h.len
  have hbd := h.bd
  by_cases h0 : n = 0
  · have HC := Lib.hid (show ofE l = ([], 6) by unfold ofE; rw [if_pos (by omega)]); clear hlen
    subst h0
    go_enter Tryd.func37, Tryd.ntmps37
    go_wp2
    go_ret2
    rw [HC.out]; exact IntsErr.none_ _ _
  by_cases h9 : 9 < n
  · have HC := Lib.hid (show ofE l = ([], 8) by unfold ofE; rw [if_neg (by omega), if_pos (by omega)]); clear hlen
    have g0 : ((n : Int) == 0) = false := by simp; omega
    go_enter Tryd.func37, Tryd.ntmps37
    go_wp2
    go_ret2
    rw [HC.out]; exact IntsErr.none_ _ _
  · have HC := Lib.hid (show ofE l = (ofL l, 0) by unfold ofE; rw [if_neg (by omega), if_neg (by omega)]); clear hlen
    have g0 : ((n : Int) == 0) = false := by simp; omega
    have g9 : (n : Int) ≤ 9 := by omega
    go_enter Tryd.func37, Tryd.ntmps37
    go_wp2_with fail
    refine (refof_any A n c l w h (by omega)).mono ?_; rintro e w' ⟨A', c', rfl, hown, hbel⟩
    have HO := Lib.hid hown
    have HB := Lib.hid hbel
    clear hown hbel
    go_wp2
    go_ret2
    rw [HC.out]; exact ⟨A', c', rfl, HO.out, HB.out⟩

/-- What a function that turns the box g and makes memory leaves. -/
structure Spun (g : Nat) (w w' : World) : Prop where
  box : IsBox w' g
  grown : w.grownBy w' (some g)
theorem Step.spun {g : Nat} {w w' : World} (h : Step g w w') : Spun g w w' := ⟨h.box, h.grown⟩
theorem Spun.trans {g : Nat} {a b c : World} (h : Spun g a b) (k : Spun g b c) : Spun g a c := ⟨k.box, grown_trans h.grown k.grown⟩
theorem Spun.below {g : Nat} {w w' : World} (h : Spun g w w') {B : Nat} (hB : B ≤ g) (hw : B ≤ w.heap.size) : Below B w w' := (Below.refl _ _).grown h.grown hw (fun k hk => by injection hk with hk; omega)
theorem Spun.then_ {g : Nat} {a b c : World} (h : Spun g a b) (k : Below b.heap.size b c) : Spun g a c := ⟨h.box.below k, grown_trans h.grown (grown_of_below k _)⟩
theorem Spun.below_ {g : Nat} {a b c : World} (h : Spun g a b) (k : Below a.heap.size b c) (hg : g < a.heap.size) : Spun g a c := by
  refine ⟨?_, ⟨k.os.trans h.grown.os, k.tape.trans h.grown.tape, k.output.trans h.grown.output, Nat.le_trans h.grown.size k.size, fun i hi hr => (k.block i hi).trans (h.grown.block i hi hr)⟩⟩
  obtain ⟨x, hx⟩ := h.box
  exact ⟨x, (k.block g hg).trans hx⟩
/-- a partition of n packets of the callee's own, the box g turned -/
def Partition (n g : Nat) (w : World) (e : Ending) (w' : World) : Prop :=
  ∃ A c p, e = .returned (.slice A n c) ∧ chk p = 0 ∧ OwnI w' w.heap.size 3 A n c p ∧ Spun g w w'

set_option maxHeartbeats 1000000 in
theorem partitionOf_any (g n : Nat) (w : World) (h : IsBox w g) (hn1 : 1 ≤ n) (hn9 : n ≤ 9) :
    Calls Tryd.prog 22 #[.pointer (some ⟨g, 0, none⟩), .int .i64 n] w (Partition n g w) := by
  have H := Lib.hid h
  have HL := Lib.hid h.lt
  clear h
  go_enter Tryd.func22, Tryd.ntmps22
  go_wp2_with fail
  refine (any_any g 1 n w H.out (by omega) (by omega) (by omega) (by omega)).mono ?_; rintro e w1 ⟨k, rfl, hk0, hk1, hst⟩
  have hk9 : k ≤ 9 := by omega
  have HST := Lib.hid hst.spun
  have HSZ := Lib.hid hst.size
  clear hk1 hst
  go_wp2_with fail
  go_loopw [5, 7] (fun o i wr => ∃ (j : Nat) (L : List Int) (Ao : Option Addr) (co : Nat), j ≤ n ∧ i = .int .i64 j ∧ o = .slice Ao j co ∧ OwnI wr w.heap.size 3 Ao j co L ∧ Spun g w wr) (fun _ i _ => n - (intOf i).toNat)
  case atStart => exact ⟨0, [], none, 0, by omega, rfl, rfl, OwnI.nil_ _ _ _, HST.out⟩
  case round =>
    obtain ⟨j, L, Ao, co, hj, rfl, rfl, hown, hsp⟩ := hrel
    have HO := Lib.hid hown
    have HS := Lib.hid hsp
    clear hown hsp
    by_cases hlt : j < n
    · go_wp2_with fail
      refine (up_any g k wr HS.out.box (by omega) (by omega)).mono ?_; rintro e w2 ⟨v, rfl, hv0, hv1, hst⟩
      have hv9 : v ≤ 9 := by omega
      have HO2 : Hid (OwnI w2 w.heap.size 3 Ao j co L) := HO.out.grown hst.grown (by
        cases e : Ao.map (·.block) with
        | none => exact .inl rfl
        | some b => exact .inr (fun e2 => by injection e2 with e2; have := HO.out.1.block e; have := HL.out; omega))
      have HS2 := Lib.hid (HS.out.trans hst.spun)
      have hsz : w.heap.size ≤ w2.heap.size := HS2.out.grown.size
      clear hst hv1
      go_wp2_with (at_builtin; go_must (refine wpList_appI1 _ rfl (.tmp 18) (.tmp 22) rfl _ rfl rfl HO2.out (v := v) (I64.small (by omega)) (by omega) hsz ?_); intro A' c' w' kk; have KK := Lib.hid kk; clear kk)
      go_roundw
      case rel => exact ⟨j + 1, L ++ [v], A', c', by omega, by go_num, rfl, KK.out.own, HS2.out.below_ KK.out.below HL.out⟩
      case measure => simp [intOf]; omega
    · obtain rfl : n = j := by omega
      have hlen := HO.out.len
      have HC := Lib.hid (show ofE L = (ofL L, 0) by unfold ofE; rw [if_neg (by omega), if_neg (by omega)])
      have HK := Lib.hid (chk_ofL (l := L) (by omega) (by omega))
      have HLL := Lib.hid ((ofL_length L).trans hlen)
      clear hlen
      go_wp2_with fail
      refine (refOf_any Ao n co L wr HO.out.rd).mono ?_; rintro e w2 ⟨A', c', rfl, hown, hbel⟩
      rw [HC.out, HLL.out] at hown
      rw [HC.out, HLL.out]
      have HO3 := Lib.hid hown
      have HB3 := Lib.hid hbel
      clear hown hbel
      go_wp2
      go_ret
      exact ⟨A', c', ofL L, rfl, HK.out, HO3.out.mono HS.out.grown.size, HS.out.then_ HB3.out⟩
end Go.Proofs.YtooepkpgffpcjaaDoor

namespace Go.Proofs.YtooepkpgffpcjaaDoor
open Go.RowKit

/-! ### slices.Index, slices.Contains at numbers -/
/-- where a number stands first, or -1 -/
def idxI (l : List Int) (v : Int) : Int := if v ∈ l then (l.idxOf v : Int) else -1
theorem idxI_at {l : List Int} {v : Int} {k : Nat} (hv : l[k]? = some v) (h : ∀ j, j < k → l[j]? ≠ some v) : idxI l v = k := by unfold idxI; rw [if_pos (List.mem_of_getElem? hv), idx_eq hv h]
theorem idxI_none {l : List Int} {v : Int} (h : ∀ j, j < l.length → l[j]? ≠ some v) : idxI l v = -1 := by unfold idxI; rw [if_neg (idx_none h).2]
theorem idxI_in {l : List Int} {v : Int} (h : v ∈ l) : 0 ≤ idxI l v := by unfold idxI; rw [if_pos h]; omega
theorem idxI_out {l : List Int} {v : Int} (h : v ∉ l) : idxI l v = -1 := by unfold idxI; rw [if_neg h]
def hasI (l : List Int) (v : Int) : Bool := decide (v ∈ l)
set_option maxHeartbeats 400000 in
theorem index_any (A : Option Addr) (n c : Nat) (l : List Int) (v : Int) (w : World) (h : RdI w A n l) (hn : n ≤ 100000) :
    Calls Tryd.prog 127 #[.slice A n c, .int .i64 v] w fun e w' => e = .returned (.int .i64 (idxI l v)) ∧ w = w' := by
  have HL := Lib.hid h.len
  go_enter Tryd.func127, Tryd.ntmps127
  go_wp2
  go_loop [8] (fun i => ∃ k : Nat, k ≤ n ∧ i = .int .i64 k ∧ (∀ j, j < k → l[j]? ≠ some v)) (fun i => n - (intOf i).toNat)
  case atStart => exact ⟨0, by omega, rfl, fun j hj => absurd hj (by omega)⟩
  case round =>
    obtain ⟨k, hk, rfl, hno⟩ := hrel
    have HN := Lib.hid hno
    clear hno
    by_cases hlt : k < n
    · obtain ⟨ad, u, rfl, _, hv, _, hcell⟩ := h.at_ hlt
      by_cases he : v = u
      · subst he
        have HI := Lib.hid (idxI_at hv.out HN.out)
        go_wp2
        go_ret
        exact ⟨ret_int HI.out.symm, rfl⟩
      · have g : (v == u) = false := by simpa using he
        have HE := Lib.hid he
        clear he
        go_wp2
        go_round
        case rel => exact ⟨k + 1, by omega, by go_num, fun j hj => by
          by_cases e : j = k
          · subst e; rw [hv.out]; intro e; injection e with e; exact HE.out e.symm
          · exact HN.out j (by omega)⟩
        case measure => simp [intOf]; omega
    · have HI := Lib.hid (idxI_none (l := l) (v := v) (fun j hj => HN.out j (by have := HL.out; omega)))
      go_wp2
      go_ret
      exact ⟨ret_int HI.out.symm, rfl⟩

set_option maxHeartbeats 400000 in
theorem contains_any (A : Option Addr) (n c : Nat) (l : List Int) (v : Int) (w : World) (h : RdI w A n l) (hn : n ≤ 100000) :
    Calls Tryd.prog 116 #[.slice A n c, .int .i64 v] w fun e w' => e = .returned (.bool (hasI l v)) ∧ w = w' := by
  have H := Lib.hid (index_any A n c l v w h hn)
  by_cases hm : v ∈ l
  · have h0 := idxI_in hm
    have HD := Lib.hid (show hasI l v = true by unfold hasI; simpa using hm)
    generalize idxI l v = k at h0 H
    clear hm
    go_enter Tryd.func116, Tryd.ntmps116
    go_wp2_with fail
    refine H.out.mono ?_; rintro e w' ⟨rfl, rfl⟩
    go_wp2
    go_ret
    exact ⟨ret_bool HD.out.symm, rfl⟩
  · have h0 := idxI_out hm
    rw [h0] at H
    have HD := Lib.hid (show hasI l v = false by unfold hasI; simpa using hm)
    clear hm h0
    go_enter Tryd.func116, Tryd.ntmps116
    go_wp2_with fail
    refine H.out.mono ?_; rintro e w' ⟨rfl, rfl⟩
    go_wp2
    go_ret
    exact ⟨ret_bool HD.out.symm, rfl⟩

/-! ### the signs -/
def signsL : List Int := [32, 45, 124, 111, 124, 120]
/-- the package's signs, as its text lays them -/
def Signs (w : World) : Prop := 0 < w.heap.size ∧ ∀ j v, signsL[j]? = some v → w.cell? ⟨0, j, none⟩ = some (.int .u8 v)
theorem Signs.below {w w' : World} (h : Signs w) (hb : Below w.heap.size w w') : Signs w' :=
  ⟨Nat.lt_of_lt_of_le h.1 hb.size, fun j v hj => (hb.cell (p := ⟨0, j, none⟩) h.1).trans (h.2 j v hj)⟩
theorem Signs.below_ {w w' : World} {B : Nat} (h : Signs w) (hb : Below B w w') (hB : 0 < B) : Signs w' :=
  ⟨Nat.lt_of_lt_of_le h.1 hb.size, fun j v hj => (hb.cell (p := ⟨0, j, none⟩) hB).trans (h.2 j v hj)⟩
def signOf (place : Nat) (is : Bool) : Int := signsL.getD (place * 2 + if is then 1 else 0) 0
set_option maxHeartbeats 400000 in
theorem sign_any (place : Nat) (is : Bool) (w : World) (h : Signs w) (hp : place < 3) :
    Calls Tryd.prog 115 #[.int .i64 place, .bool is] w fun e w' => e = .returned (.int .u8 (signOf place is)) ∧ w = w' := by
  have h0 := h.2 (place * 2) (signsL.getD (place * 2) 0) (by match place, hp with | 0, _ => rfl | 1, _ => rfl | 2, _ => rfl)
  have h1 := h.2 (place * 2 + 1) (signsL.getD (place * 2 + 1) 0) (by match place, hp with | 0, _ => rfl | 1, _ => rfl | 2, _ => rfl)
  have H : Hid (signOf place false = signsL.getD (place * 2) 0 ∧ signOf place true = signsL.getD (place * 2 + 1) 0) := ⟨rfl, rfl⟩
  generalize signsL.getD (place * 2) 0 = a at h0 H
  generalize signsL.getD (place * 2 + 1) 0 = b at h1 H
  clear h
  cases is
  · go_enter Tryd.func115, Tryd.ntmps115
    go_wp2
    go_ret
    exact ⟨ret_int H.out.1.symm, rfl⟩
  · go_enter Tryd.func115, Tryd.ntmps115
    go_wp2
    go_ret
    exact ⟨ret_int H.out.2.symm, rfl⟩
theorem sign_0 (is : Bool) (w : World) (h : Signs w) : Calls Tryd.prog 115 #[.int .i64 0, .bool is] w fun e w' => e = .returned (.int .u8 (signOf 0 is)) ∧ w = w' := sign_any 0 is w h (by decide)
theorem sign_1 (is : Bool) (w : World) (h : Signs w) : Calls Tryd.prog 115 #[.int .i64 1, .bool is] w fun e w' => e = .returned (.int .u8 (signOf 1 is)) ∧ w = w' := sign_any 1 is w h (by decide)
theorem sign_2 (is : Bool) (w : World) (h : Signs w) : Calls Tryd.prog 115 #[.int .i64 2, .bool is] w fun e w' => e = .returned (.int .u8 (signOf 2 is)) ∧ w = w' := sign_any 2 is w h (by decide)

/-! ### bars -/
abbrev Bar := Int × Int × Int
def barCells (L : List Bar) : List Value := L.flatMap fun b => [.int .i64 b.1, .int .i64 b.2.1, .int .i64 b.2.2]
theorem barCells_length (L : List Bar) : (barCells L).length = L.length * 3 := by
  induction L with
  | nil => rfl
  | cons b L ih => simp only [barCells, List.flatMap_cons, List.length_append, List.length_cons, List.length_nil] at ih ⊢; omega
theorem barCells_get (L : List Bar) (j : Nat) (b : Bar) (h : L[j]? = some b) : (barCells L)[j * 3]? = some (.int .i64 b.1) ∧ (barCells L)[j * 3 + 1]? = some (.int .i64 b.2.1) ∧ (barCells L)[j * 3 + 2]? = some (.int .i64 b.2.2) := by
  induction L generalizing j with
  | nil => simp at h
  | cons x L ih =>
    cases j with
    | zero => simp at h; subst h; simp [barCells]
    | succ j =>
      have := ih j (by simpa using h)
      simp only [barCells, List.flatMap_cons] at this ⊢
      rw [show (j + 1) * 3 = j * 3 + 3 by omega]
      simpa using this

theorem getB {α : Type} {l : List α} {n k : Nat} (h : l.length = n) (hk : k < n) : ∃ v, l[k]? = some v := ⟨l[k]'(by omega), List.getElem?_eq_getElem _⟩
/-- a slice of bars that reads as L -/
def RdB (w : World) (A : Option Addr) (n : Nat) (L : List Bar) : Prop :=
  L.length = n ∧ n ≤ 1000000 ∧ (0 < n → ∃ g, A = some ⟨g, 0, none⟩ ∧ g < w.heap.size ∧ ∀ j u, (barCells L)[j]? = some u → w.cell? ⟨g, j, none⟩ = some u)
theorem RdB.below {w w' : World} {A : Option Addr} {n : Nat} {L : List Bar} (h : RdB w A n L) (hb : Below w.heap.size w w') : RdB w' A n L :=
  ⟨h.1, h.2.1, fun hn => by
    obtain ⟨g, e, hg, hc⟩ := h.2.2 hn
    exact ⟨g, e, Nat.lt_of_lt_of_le hg hb.size, fun j u hu => (hb.cell (p := ⟨g, j, none⟩) hg).trans (hc j u hu)⟩⟩

theorem barFields : (Tryd.prog.fieldsOf 85).toList = [{ name := "first", type := 3, offset := 0, embedded := false, tag := "", pkgPath := "aloeswood/chart", byteOffset := 0 }, { name := "last", type := 3, offset := 1, embedded := false, tag := "", pkgPath := "aloeswood/chart", byteOffset := 8 }, { name := "level", type := 3, offset := 2, embedded := false, tag := "", pkgPath := "aloeswood/chart", byteOffset := 16 }] := by kernel_rfl
theorem barUnder : Tryd.prog.underlying 85 = some (.struct (Tryd.prog.fieldsOf 85)) := by kernel_rfl
theorem barHeld : Tryd.prog.stoodInHeld 85 = false := by kernel_rfl
theorem eqBar_run (W : World) (x y z x' y' z' : Int) : (binOp .eql 85 (.agg #[.int .i64 x, .int .i64 y, .int .i64 z]) (.agg #[.int .i64 x', .int .i64 y', .int .i64 z'])).run Tryd.prog W = .ok (.bool (x == x' && (y == y' && z == z'))) W := by
  have h : ∀ d w, (Op.equalIn (d + 1 + 1) 85 (.agg #[.int .i64 x, .int .i64 y, .int .i64 z]) (.agg #[.int .i64 x', .int .i64 y', .int .i64 z'])).run Tryd.prog w = .ok (x == x' && (y == y' && z == z')) w := fun d w => by
    rw [run_equalIn_struct w (d + 1) 85 _ _ barUnder barHeld, barFields]
    have hi := fun (w : World) (a b : Int) => run_equalIn_int (P := Tryd.prog) w d 3 .i64 .i64 a b Tryd.underlying3
    have ha : ∀ w, (isAgg 3).run Tryd.prog w = .ok false w := fun w => by simp [isAgg, run_underlying Tryd.underlying3]
    simp [Op.eqFields, part, hi, ha]
    by_cases e1 : x = x' <;> by_cases e2 : y = y' <;> by_cases e3 : z = z' <;> simp [e1, e2, e3]
  simp only [binOp]
  simp [Op.equal, Op.maxDepth, h 9998]

/-- where a bar stands first, or -1 -/
def idxBar (L : List Bar) (b : Bar) : Int := if b ∈ L then (L.idxOf b : Int) else -1
theorem idxBar_at {l : List Bar} {v : Bar} {k : Nat} (hk : l[k]? = some v) (h : ∀ j, j < k → l[j]? ≠ some v) : idxBar l v = k := by
  unfold idxBar
  have hx : v ∈ l := List.mem_of_getElem? hk
  have h1 := List.idxOf_lt_length_of_mem hx
  have h2 : l[l.idxOf v]? = some v := by rw [List.getElem?_eq_getElem h1, List.getElem_idxOf h1]
  rw [if_pos hx]
  rcases Nat.lt_trichotomy (l.idxOf v) k with h3 | h3 | h3
  · exact absurd h2 (h _ h3)
  · rw [h3]
  · have := List.not_of_lt_findIdx (p := (· == v)) (xs := l) (i := k) h3
    obtain ⟨_, e⟩ := List.getElem?_eq_some_iff.1 hk
    simp [e] at this
theorem idxBar_none {l : List Bar} {v : Bar} (h : ∀ j, j < l.length → l[j]? ≠ some v) : idxBar l v = -1 := by
  unfold idxBar
  rw [if_neg]
  intro hm
  obtain ⟨j, hj, e⟩ := List.getElem_of_mem hm
  exact h j hj (by rw [List.getElem?_eq_getElem hj, e])
theorem bar_ne {x y z x' y' z' : Int} (h : ((x, y, z) : Bar) ≠ (x', y', z')) : (x == x' && (y == y' && z == z')) = false := by
  by_cases e1 : x = x' <;> by_cases e2 : y = y' <;> by_cases e3 : z = z' <;> simp [e1, e2, e3]
  subst e1 e2 e3; exact h rfl
set_option maxHeartbeats 1000000 in
theorem indexBar_any (A : Option Addr) (n c : Nat) (L : List Bar) (x y z : Int) (w : World) (h : RdB w A n L) :
    Calls Tryd.prog 117 #[.slice A n c, .agg #[.int .i64 x, .int .i64 y, .int .i64 z]] w fun e w' => e = .returned (.int .i64 (idxBar L (x, y, z))) ∧ Below w.heap.size w w' := by
  have HL := Lib.hid h.1
  have hn := h.2.1
  go_enter Tryd.func117, Tryd.ntmps117
  go_wp2_with fail
  go_loopw [8] (fun i wr => ∃ k : Nat, k ≤ n ∧ i = .int .i64 k ∧ (∀ j, j < k → L[j]? ≠ some (x, y, z)) ∧ ∃ d, wr = (w.alloc (.cells #[.int .i64 x, .int .i64 y, .int .i64 z] 85)).drewN d) (fun i _ => n - (intOf i).toNat)
  case atStart => exact ⟨0, by omega, rfl, fun j hj => absurd hj (by omega), 0, rfl⟩
  case round =>
    obtain ⟨k, hk, rfl, hno, d, rfl⟩ := hrel
    have HN := Lib.hid hno
    clear hno
    by_cases hlt : k < n
    · obtain ⟨g, rfl, hg, hcs⟩ := h.2.2 (by omega)
      obtain ⟨⟨x', y', z'⟩, hb⟩ := getB HL.out hlt
      have hk3 := barCells_get L k _ hb
      have c0 := hcs _ _ hk3.1
      have c1 := hcs _ _ hk3.2.1
      have c2 := hcs _ _ hk3.2.2
      have HC := Lib.hid hcs
      have HBB := Lib.hid hb
      clear hk3 hcs hb
      have d0 : (w.alloc (.cells #[.int .i64 x, .int .i64 y, .int .i64 z] 85)).cell? ⟨g, k * 3, none⟩ = some (.int .i64 x') := (World.cell?_alloc_lt w _ ⟨g, k * 3, none⟩ hg).trans c0
      have d1 : (w.alloc (.cells #[.int .i64 x, .int .i64 y, .int .i64 z] 85)).cell? ⟨g, k * 3 + 1, none⟩ = some (.int .i64 y') := (World.cell?_alloc_lt w _ ⟨g, k * 3 + 1, none⟩ hg).trans c1
      have d2 : (w.alloc (.cells #[.int .i64 x, .int .i64 y, .int .i64 z] 85)).cell? ⟨g, k * 3 + 2, none⟩ = some (.int .i64 z') := (World.cell?_alloc_lt w _ ⟨g, k * 3 + 2, none⟩ hg).trans c2
      by_cases he : ((x, y, z) : Bar) = (x', y', z')
      · injection he with e1 e2
        injection e2 with e2 e3
        subst e1 e2 e3
        have HI := Lib.hid (idxBar_at HBB.out HN.out)
        have q : ∀ W, (binOp .eql 85 (.agg #[.int .i64 x, .int .i64 y, .int .i64 z]) (.agg #[.int .i64 x, .int .i64 y, .int .i64 z])).run Tryd.prog W = .ok (.bool true) W := fun W => by rw [eqBar_run]; simp
        go_wp2_with fail
        go_quiet (fail)
        go_wp2
        go_ret
        exact ⟨ret_int HI.out.symm, below_drewN (below_drewN ((Below.refl _ _).alloc (Nat.le_refl _) _) _) _⟩
      · have q : ∀ W, (binOp .eql 85 (.agg #[.int .i64 x, .int .i64 y, .int .i64 z]) (.agg #[.int .i64 x', .int .i64 y', .int .i64 z'])).run Tryd.prog W = .ok (.bool false) W := fun W => by rw [eqBar_run, bar_ne he]
        have HE := Lib.hid he
        clear he
        go_wp2_with fail
        go_quiet (fail)
        go_wp2
        go_roundw
        case rel => exact ⟨k + 1, by omega, by go_num, fun j hj => by
          by_cases e : j = k
          · subst e; rw [HBB.out]; intro e; injection e with e; exact HE.out e.symm
          · exact HN.out j (by omega), _, rfl⟩
        case measure => simp [intOf]; omega
    · have HI := Lib.hid (idxBar_none (l := L) (v := (x, y, z)) (fun j hj => HN.out j (by have := HL.out; omega)))
      go_wp2
      go_ret
      exact ⟨ret_int HI.out.symm, below_drewN ((Below.refl _ _).alloc (Nat.le_refl _) _) _⟩
end Go.Proofs.YtooepkpgffpcjaaDoor

namespace Go.Proofs.YtooepkpgffpcjaaDoor
open Go.RowKit

theorem chkGo_ok {l : List Int} {nx : Int} (h : chkGo nx l = 0) : ∀ v ∈ l, 0 ≤ v ∧ v < 9 := by
  induction l generalizing nx with
  | nil => simp
  | cons a l ih =>
    simp only [chkGo] at h
    split at h
    · cases h
    · split at h
      · cases h
      · intro v hv
        rcases List.mem_cons.1 hv with rfl | hv
        · omega
        · exact ih h v hv
theorem chk_ok {l : List Int} (h : chk l = 0) : 1 ≤ l.length ∧ l.length ≤ 9 ∧ (∀ v ∈ l, 0 ≤ v ∧ v < 9) ∧ chkGo 0 l = 0 := by
  unfold chk at h
  split at h
  · cases h
  · split at h
    · cases h
    · exact ⟨by omega, by omega, chkGo_ok h, h⟩
theorem chk_small {l : List Int} (h : chk l = 0) : Small l := fun v hv => by have := (chk_ok h).2.2.1 v hv; omega
theorem chk2_ok {l r : List Int} (h : chk2 l r = 0) : chk l = 0 ∧ chk r = 0 ∧ l.length = r.length := by
  unfold chk2 at h
  split at h
  · contradiction
  · split at h
    · contradiction
    · split at h
      · cases h
      · omega
theorem foldl_max_lt (l : List Int) (M a : Int) (h : ∀ v ∈ l, v < M) (ha : a ≤ M) : l.foldl (fun n v => max n (v + 1)) a ≤ M := by
  induction l generalizing a with
  | nil => exact ha
  | cons x r ih =>
    have := h x (by simp)
    exact ih (max a (x + 1)) (fun v hv => h v (List.mem_cons_of_mem _ hv)) (by omega)
theorem le_foldl_max (l : List Int) (a : Int) : a ≤ l.foldl (fun n v => max n (v + 1)) a := by
  induction l generalizing a with
  | nil => exact Int.le_refl _
  | cons x r ih => exact Int.le_trans (by show a ≤ max a (x + 1); omega) (ih _)
theorem blk_le9 {l : List Int} (h : chk l = 0) : 1 ≤ blk l ∧ blk l ≤ 9 := by
  obtain ⟨h1, _, h3, _⟩ := chk_ok h
  refine ⟨?_, foldl_max_lt l 9 0 (fun v hv => (h3 v hv).2) (by omega)⟩
  cases l with
  | nil => simp at h1
  | cons a r =>
    have ha := h3 a (by simp)
    have := le_foldl_max r (max 0 (a + 1))
    show 1 ≤ r.foldl (fun n v => max n (v + 1)) (max 0 (a + 1))
    omega

end Go.Proofs.YtooepkpgffpcjaaDoor

namespace Go.Proofs.YtooepkpgffpcjaaDoor
open Go.RowKit

/-- the level of a new block, the packets from it on being rest -/
def levStep (rest : List Int) (out : List Bar) (lv : Int) (j : Nat) : Int := if hasI rest j then max lv ((out.getD j (0, 0, 0)).2.2 + 1) else lv
def newLevel (rest : List Int) (out : List Bar) : Int := (List.range out.length).foldl (levStep rest out) 1
def setLast (L : List Bar) (j i : Nat) : List Bar := L.set j ((L.getD j (0, 0, 0)).1, (i : Int), (L.getD j (0, 0, 0)).2.2)
def barStep (l : List Int) (out : List Bar) (i : Nat) : List Bar :=
  setLast (if l.getD i 0 = out.length then out ++ [((i : Int), 0, newLevel (l.drop i) out)] else out) (l.getD i 0).toNat i
def barsTo (l : List Int) (k : Nat) : List Bar := (List.range k).foldl (barStep l) []
theorem barsTo_succ (l : List Int) (k : Nat) : barsTo l (k + 1) = barStep l (barsTo l k) k := foldl_range_succ _ _ _

/-- what holds of the bars of the first k packets -/
structure BInv (k : Nat) (L : List Bar) : Prop where
  bd : ∀ (j : Nat) b, L[j]? = some b → 0 ≤ b.1 ∧ b.1 < k ∧ 0 ≤ b.2.1 ∧ b.2.1 ≤ k ∧ 1 ≤ b.2.2 ∧ b.2.2 ≤ j + 1
  inc : ∀ (j j' : Nat) b b', L[j]? = some b → L[j']? = some b' → j < j' → b.1 < b'.1
theorem levs_bd {k : Nat} {L : List Bar} (h : BInv k L) (rest : List Int) (m : Nat) (hm : m ≤ L.length) : 1 ≤ (List.range m).foldl (levStep rest L) 1 ∧ (List.range m).foldl (levStep rest L) 1 ≤ m + 1 := by
  induction m with
  | zero => simp
  | succ m ih =>
    have := ih (by omega)
    rw [foldl_range_succ]
    generalize (List.range m).foldl (levStep rest L) 1 = z at this ⊢
    unfold levStep
    split
    · obtain ⟨b, hb⟩ := getB (l := L) rfl (show m < L.length by omega)
      rw [getD_of_get hb]
      have := h.bd m b hb
      omega
    · omega
theorem getLast_get {L : List Bar} {j i t : Nat} (hj : j < L.length) : (setLast L j i)[t]? = if j = t then (L[t]?).map (fun b => (b.1, (i : Int), b.2.2)) else L[t]? := by
  unfold setLast
  obtain ⟨b, hb⟩ := getB (l := L) rfl hj
  by_cases e : j = t
  · subst e
    rw [if_pos rfl, List.getElem?_set_self hj, getD_of_get hb, hb]; rfl
  · rw [if_neg e, List.getElem?_set_ne e]
theorem setLast_inv {k : Nat} {L : List Bar} (h : BInv k L) (j : Nat) (hj : j < L.length) : BInv (k + 1) (setLast L j k) := by
  constructor
  · intro t b hb
    rw [getLast_get hj] at hb
    split at hb
    · obtain ⟨b', hb', rfl⟩ := Option.map_eq_some_iff.1 hb
      have := h.bd t b' hb'
      simp only
      omega
    · have := h.bd t b hb; omega
  · intro t t' b b' hb hb' hlt
    rw [getLast_get hj] at hb hb'
    have h1 : ∃ c, L[t]? = some c ∧ c.1 = b.1 := by
      split at hb
      · obtain ⟨c, hc, rfl⟩ := Option.map_eq_some_iff.1 hb; exact ⟨c, hc, rfl⟩
      · exact ⟨b, hb, rfl⟩
    have h2 : ∃ c, L[t']? = some c ∧ c.1 = b'.1 := by
      split at hb'
      · obtain ⟨c, hc, rfl⟩ := Option.map_eq_some_iff.1 hb'; exact ⟨c, hc, rfl⟩
      · exact ⟨b', hb', rfl⟩
    obtain ⟨c, hc, e1⟩ := h1
    obtain ⟨c', hc', e2⟩ := h2
    have := h.inc t t' c c' hc hc' hlt
    omega
theorem push_inv {k : Nat} {L : List Bar} (h : BInv k L) (rest : List Int) : BInv (k + 1) (L ++ [((k : Int), 0, newLevel rest L)]) := by
  have hl := levs_bd h rest L.length (Nat.le_refl _)
  constructor
  · intro t b hb
    rcases Nat.lt_trichotomy t L.length with e | e | e
    · rw [List.getElem?_append_left e] at hb
      have := h.bd t b hb; omega
    · subst e
      simp at hb
      subst hb
      unfold newLevel
      simp only
      omega
    · rw [List.getElem?_eq_none (by simp; omega)] at hb; cases hb
  · intro t t' b b' hb hb' hlt
    have ht' : t' ≤ L.length := by
      have := (List.getElem?_eq_some_iff.1 hb').1
      simp at this; omega
    rw [List.getElem?_append_left (by omega)] at hb
    rcases Nat.lt_or_ge t' L.length with e | e
    · rw [List.getElem?_append_left e] at hb'
      exact h.inc t t' b b' hb hb' hlt
    · obtain rfl : t' = L.length := by omega
      simp at hb'
      subst hb'
      exact (h.bd t b hb).2.1
theorem setLast_inv' {k : Nat} {L : List Bar} (h : BInv (k + 1) L) (j : Nat) (hj : j < L.length) : BInv (k + 1) (setLast L j k) := by
  constructor
  · intro t b hb
    rw [getLast_get hj] at hb
    split at hb
    · obtain ⟨b', hb', rfl⟩ := Option.map_eq_some_iff.1 hb
      have := h.bd t b' hb'
      simp only
      omega
    · have := h.bd t b hb; omega
  · intro t t' b b' hb hb' hlt
    rw [getLast_get hj] at hb hb'
    have h1 : ∃ c, L[t]? = some c ∧ c.1 = b.1 := by
      split at hb
      · obtain ⟨c, hc, rfl⟩ := Option.map_eq_some_iff.1 hb; exact ⟨c, hc, rfl⟩
      · exact ⟨b, hb, rfl⟩
    have h2 : ∃ c, L[t']? = some c ∧ c.1 = b'.1 := by
      split at hb'
      · obtain ⟨c, hc, rfl⟩ := Option.map_eq_some_iff.1 hb'; exact ⟨c, hc, rfl⟩
      · exact ⟨b', hb', rfl⟩
    obtain ⟨c, hc, e1⟩ := h1
    obtain ⟨c', hc', e2⟩ := h2
    have := h.inc t t' c c' hc hc' hlt
    omega
theorem BInv.idx {k : Nat} {L : List Bar} (h : BInv k L) {j : Nat} {b : Bar} (hb : L[j]? = some b) : idxBar L b = j := by
  refine idxBar_at hb (fun t ht e => ?_)
  have := h.inc t j b b e hb ht
  omega
theorem BInv.mono {k k' : Nat} {L : List Bar} (h : BInv k L) (hk : k ≤ k') : BInv k' L :=
  ⟨fun j b hb => by have := h.bd j b hb; omega, h.inc⟩
theorem chkGo_grow {l : List Int} {nx : Int} (h : chkGo nx l = 0) : ∀ {k : Nat} {v : Int}, l[k]? = some v → v ≤ (l.take k).foldl (fun n v => max n (v + 1)) nx := by
  induction l generalizing nx with
  | nil => intro k v hv; simp at hv
  | cons a l ih =>
    intro k v hv
    simp only [chkGo] at h
    split at h
    · cases h
    · split at h
      · cases h
      · cases k with
        | zero => simp at hv; subst hv; simp; omega
        | succ k =>
          simp only [List.getElem?_cons_succ] at hv
          have := ih h hv
          simp only [List.take_succ_cons, List.foldl_cons]
          rwa [show max nx (a + 1) = (if a = nx then nx + 1 else nx) by split <;> omega]
theorem chk_grow {l : List Int} (h : chk l = 0) {k : Nat} {v : Int} (hv : l[k]? = some v) : v ≤ blk (l.take k) := chkGo_grow (chk_ok h).2.2.2 hv
theorem barsTo_inv {l : List Int} (h : chk l = 0) (k : Nat) (hk : k ≤ l.length) : BInv k (barsTo l k) ∧ ((barsTo l k).length : Int) = blk (l.take k) := by
  induction k with
  | zero => exact ⟨⟨fun j b hb => by simp [barsTo] at hb, fun j j' b b' hb => by simp [barsTo] at hb⟩, rfl⟩
  | succ k ih =>
    obtain ⟨h1, h2⟩ := ih (by omega)
    obtain ⟨v, hv⟩ := getB (l := l) rfl (show k < l.length by omega)
    have hv0 := (chk_ok h).2.2.1 v (List.mem_of_getElem? hv)
    have hg := chk_grow h hv
    rw [barsTo_succ]
    have hb := blk_take hv
    unfold barStep
    rw [getD_of_get hv]
    split
    · rename_i e
      refine ⟨setLast_inv' (push_inv h1 _) _ (by simp; omega), ?_⟩
      unfold setLast
      rw [List.length_set, List.length_append, hb]
      simp; omega
    · rename_i e
      refine ⟨setLast_inv h1 _ (by omega), ?_⟩
      unfold setLast
      rw [List.length_set, hb]
      omega

theorem barInfo : (Tryd.prog.info? 85).map (fun i => (i.zero, i.size, i.bytes)) = some (some (.agg #[.int .i64 0, .int .i64 0, .int .i64 0]), 3, 24) := by kernel_rfl
theorem barCells_append (L M : List Bar) : barCells (L ++ M) = barCells L ++ barCells M := by simp [barCells]
theorem barCells_set (L : List Bar) (j : Nat) (b : Bar) (h : L[j]? = some b) (i : Int) : (barCells L).set (j * 3 + 1) (.int .i64 i) = barCells (L.set j (b.1, i, b.2.2)) := by
  induction L generalizing j with
  | nil => simp at h
  | cons x L ih =>
    cases j with
    | zero => simp at h; subst h; simp [barCells]
    | succ j =>
      have := ih j (by simpa using h)
      simp only [barCells, List.flatMap_cons, List.set_cons_succ] at this ⊢
      rw [show (j + 1) * 3 + 1 = 3 + (j * 3 + 1) by omega]
      rw [List.set_append_right _ _ (by simp)]
      simp only [List.length_cons, List.length_nil]
      rw [show 3 + (j * 3 + 1) - (0 + 1 + 1 + 1) = j * 3 + 1 by omega, this]
theorem barCells_one (L : List Bar) : ∀ u ∈ barCells L, u.oneCell' = true := by
  intro u hu
  simp only [barCells, List.mem_flatMap] at hu
  obtain ⟨b, _, hb⟩ := hu
  simp only [List.mem_cons, List.not_mem_nil, or_false] at hb
  rcases hb with rfl | rfl | rfl <;> rfl

/-- 'append(s, b)' of a bar, that was laid in a new block first. -/
theorem wpList_appB (w : World) {ops : Array Oper} {rest : List Oper} {o : Oper} {a : Act} {Q : Exit → Act → World → Prop} (hgd : o.guard = none) (s x : Operand)
    (ho : o.op = .call { callee := .builtin .append, args := #[s, x], argTypes := #[82, 82] })
    {base n c : Nat} {A : Option Addr} {L : List Bar} {b : Bar} (t : TypeId) (hs : a.eval s = .slice A n c) (hx : a.eval x = .slice (some ⟨w.heap.size, 0, none⟩) 1 1) (hown : Own w base 85 3 A n c (barCells L)) (hnm : n + 1 ≤ 1000) (hbase : base ≤ w.heap.size)
    (h : ∀ A' c' w', Own w' base 85 3 A' (n + 1) c' (barCells (L ++ [b])) → w.grownBy w' (A.map (·.block)) → Below base w w' → wpList Tryd.prog ops Q rest (a.put o.dst (.slice A' (n + 1) c')) w') :
    wpList Tryd.prog ops Q (o :: rest) a (w.alloc (.cells #[.int .i64 b.1, .int .i64 b.2.1, .int .i64 b.2.2] t)) := by
  obtain ⟨i0, hi0, hz0, hz1, hz2⟩ := info_parts barInfo
  refine wpList_plain hgd fun _ hK => ?_
  have hcells : ∀ j u, (barCells [b])[j]? = some u → (w.alloc (.cells #[.int .i64 b.1, .int .i64 b.2.1, .int .i64 b.2.2] t)).cell? ((⟨w.heap.size, 0, none⟩ : Addr).add j) = some u := by
    intro j u hu
    rw [show (⟨w.heap.size, 0, none⟩ : Addr).add j = ⟨w.heap.size, j, none⟩ by unfold Addr.add; split <;> simp_all, World.cell?_alloc_at _ _ _ _ rfl]
    simpa [barCells] using hu
  obtain ⟨v', w', hrun, h2, h3, _, _⟩ := run_append_own_at (P := Tryd.prog) (w.alloc (.cells #[.int .i64 b.1, .int .i64 b.2.1, .int .i64 b.2.2] t)) base 82 o.type 85 i0 _ 3 24 Tryd.underlying82 hi0 hz0 hz1 hz2 rfl (by omega) _ n (barCells L) (hown.alloc _).1 ⟨w.heap.size, 0, none⟩ 1 1 (barCells [b]) rfl hcells (barCells_one _) (by unfold maxLen; omega) (by omega) (by simp; omega)
  obtain ⟨A', c', rfl⟩ := slice_form h2
  rw [map_block_own] at h3
  have hg : w.grownBy w' (A.map (·.block)) := grown_trans (World.grownBy_alloc w _ _) h3
  unfold Oper.wp execOp
  simp only [ho, resolve, invoke, builtin, Sem.run_bind, Sem.run_pure, Result.andThen_ok, List.map_toArray, List.map_cons, List.map_nil, hs, hx, hrun]
  exact hK _ _ (h A' c' w' ⟨by rw [barCells_append]; exact h2, by omega⟩ hg (below_app hown hg hbase))
end Go.Proofs.YtooepkpgffpcjaaDoor

namespace Go.Proofs.YtooepkpgffpcjaaDoor
open Go.RowKit

theorem RdB.of_own {w : World} {base n c : Nat} {A : Option Addr} {L : List Bar} (h : Own w base 85 3 A n c (barCells L)) (hn : n ≤ 1000000) : RdB w A n L := by
  have hl := h.len
  rw [barCells_length] at hl
  refine ⟨by omega, hn, fun h0 => ?_⟩
  obtain ⟨g, rfl, _, hg⟩ := h.form h0
  exact ⟨g, rfl, hg, fun j u hu => by
    have hj : j < n * 3 := by have := (List.getElem?_eq_some_iff.1 hu).1; rw [barCells_length] at this; omega
    rw [h.cellAt j hj]; exact hu⟩

theorem RdI.drop_ {w : World} {ad : Addr} {n : Nat} {l : List Int} (h : RdI w (some ad) n l) {k : Nat} (hk : k < n) : RdI w (some (ad.add k)) (n - k) (l.drop k) := by
  refine ⟨⟨by have := h.len; simp; omega, by have := h.bd; omega, fun _ => ?_⟩, fun v hv => h.2 v (List.mem_of_mem_drop hv)⟩
  obtain ⟨ad', e, hb, hc⟩ := h.1.2.2 (by omega)
  injection e with e
  subst e
  refine ⟨_, rfl, by rw [block_of_add]; exact hb, fun j u hu => ?_⟩
  rw [Addr.add_add]
  refine hc (k + j) u ?_
  rw [ints_get] at hu ⊢
  rwa [List.getElem?_drop] at hu

theorem if_max' (t u : Int) : (if t < u then u else t) = max t u := by split <;> omega
theorem IsB.drew {w : World} {g : Nat} {t : TypeId} {cs : Array Value} (h : Blk w g t cs) : Blk w.drew g t cs := h
/-- bars that are the callee's own -/
def Barred (L : List Bar) (w : World) (e : Ending) (w' : World) : Prop :=
  ∃ A c, e = .returned (.slice A L.length c) ∧ Own w' w.heap.size 85 3 A L.length c (barCells L) ∧ Below w.heap.size w w'

set_option maxHeartbeats 2000000 in
theorem bars_any (A : Option Addr) (n c : Nat) (l : List Int) (w : World) (h : RdI w A n l) (hc : n ≤ c) (hk : chk l = 0) :
    Calls Tryd.prog 88 #[.slice A n c] w (Barred (barsTo l n) w) := by
  have hlen := h.len
  have hn9 : n ≤ 9 := by have := (chk_ok hk).2.1; omega
  have HL := Lib.hid hlen
  have HCK := Lib.hid hk
  clear hlen hk
  go_enter Tryd.func88, Tryd.ntmps88
  go_wp2_with fail
  go_loopw [3, 11] (fun o i wr => ∃ k : Nat, k ≤ n ∧ i = .int .i64 k ∧ ∃ Ao co, o = .slice Ao (barsTo l k).length co ∧ Own wr w.heap.size 85 3 Ao (barsTo l k).length co (barCells (barsTo l k)) ∧ Below w.heap.size w wr) (fun _ i _ => n - (intOf i).toNat)
  case atStart => exact ⟨0, by omega, rfl, none, 0, rfl, Own.nil_ _ _ _ _, Below.refl _ _⟩
  case round =>
    obtain ⟨k, hk, rfl, Ao, co, rfl, hown, hbel⟩ := hrel
    have HO := Lib.hid hown
    have HB := Lib.hid hbel
    clear hown hbel
    by_cases hlt : k < n
    · obtain ⟨ad, v, rfl, had, hv, _, hcell⟩ := h.at_ hlt
      rw [← HB.out.cell (by rw [block_of_add]; exact had)] at hcell
      have hv9 := (chk_ok HCK.out).2.2.1 v (List.mem_of_getElem? hv.out)
      have hgr := chk_grow HCK.out hv.out
      obtain ⟨hinv, hbl⟩ := barsTo_inv HCK.out k (by rw [HL.out]; omega)
      have HSU := Lib.hid (barsTo_succ l k)
      rw [← hbl] at hgr
      have HI := Lib.hid hinv
      have hm9 : (barsTo l k).length ≤ 9 := by have := blk_le9 HCK.out; have := foldl_max_lt (l.take k) 9 0 (fun v hv => ((chk_ok HCK.out).2.2.1 v (List.mem_of_mem_take hv)).2) (by omega); unfold blk at hbl; omega
      generalize barsTo l k = L at HO HSU hgr HI hm9
      obtain ⟨v, rfl⟩ : ∃ v' : Nat, v = v' := ⟨v.toNat, by omega⟩
      obtain ⟨m, hm⟩ : ∃ m, L.length = m := ⟨_, rfl⟩
      rw [hm] at HO hgr hm9 ⊢
      have HM := Lib.hid hm
      clear hinv hbl hm
      by_cases hnew : v = m
      · subst hnew
        have g1 : ((v : Int) == (v : Int)) = true := by simp
        have hld : ((l.drop k).length : Int) ≤ 9 := by have := HL.out; simp; omega
        obtain ⟨wo, rfl⟩ : ∃ wo : World, wo = wr := ⟨_, rfl⟩
        go_wp2_with fail
        go_loopw [24] (fun i wq => ∃ j : Nat, j ≤ v ∧ i = .int .i64 j ∧ Blk wq wo.heap.size 85 #[.int .i64 k, .int .i64 0, .int .i64 ((List.range j).foldl (levStep (l.drop k) L) 1)] ∧ Below wo.heap.size wo wq) (fun i _ => v - (intOf i).toNat)
        case atStart => exact ⟨0, by omega, rfl, Blk.new _ _ _, (Below.refl _ _).alloc (Nat.le_refl _) _⟩
        case round =>
          obtain ⟨j, hj, rfl, hblk, hbel⟩ := hrel
          have HBK := Lib.hid hblk
          have HBE := Lib.hid hbel
          clear hblk hbel
          by_cases hjv : j < v
          · obtain ⟨g, rfl, hbg, hgl⟩ := HO.out.form (by omega)
            obtain ⟨b, hb⟩ := getB HM.out hjv
            have hb3 := barCells_get L j b hb
            have HO2 := Lib.hid (HO.out.below HBE.out)
            have c0 := HO2.out.cellAt (j * 3) (by omega)
            have c1 := HO2.out.cellAt (j * 3 + 1) (by omega)
            have c2 := HO2.out.cellAt (j * 3 + 2) (by omega)
            rw [hb3.1] at c0
            rw [hb3.2.1] at c1
            rw [hb3.2.2] at c2
            have hix := HI.out.idx hb
            have hbb := HI.out.bd j b hb
            obtain ⟨b1, b2, b3⟩ := b
            simp only at c0 c1 c2 hbb
            have HBB := Lib.hid hb
            have HIX := Lib.hid hix
            clear hb hb3 hix
            have hRB : ∀ W, Below wr.heap.size wr W → RdB W (some ⟨g, 0, none⟩) v L := fun W hW => (RdB.of_own HO2.out (by omega)).below hW
            have hRI : ∀ W, Below wr.heap.size wr W → RdI W (some ad) n l := fun W hW => h.below ((HB.out.trans (HBE.out.mono (by have := HB.out.size; omega))).trans (hW.mono (by have := (HB.out.trans (HBE.out.mono (by have := HB.out.size; omega))).size; omega)))
            have HRB := Lib.hid hRB
            have HRI := Lib.hid hRI
            clear hRB hRI
            have hck : ¬ c = k := by omega
            have hHS := Lib.hid (foldl_range_succ (levStep (l.drop k) L) 1 j)
            have hlb := levs_bd HI.out (l.drop k) j (by rw [HM.out]; omega)
            generalize (List.range j).foldl (levStep (l.drop k) L) 1 = lv at HBK hHS hlb
            have hlb1 := hlb.1
            have hlb2 : lv ≤ 100 := by omega
            have HXlt := Lib.hid HBK.out.lt
            clear hlb
            by_cases hz : hasI (l.drop k) j = true
            · have HLV : Hid (levStep (l.drop k) L lv j = max lv (b3 + 1)) := by
                show levStep (l.drop k) L lv j = _
                unfold levStep
                rw [if_pos hz, getD_of_get HBB.out]
              go_wp2_with fail
              go_region_with (first | (go_at_call 117; refine (indexBar_any _ _ _ L _ _ _ _ ?_).mono ?_; exact HRB.out _ ((Below.refl _ _).alloc (Nat.le_refl _) _).drew; rintro e w2 ⟨rfl, hb2⟩; rw [HIX.out]; have HB2 := Lib.hid hb2; clear hb2) | (go_at_call 116; refine (contains_any _ _ _ (l.drop k) _ _ ?_ (by omega)).mono ?_; exact (HRI.out _ (((Below.refl _ _).alloc (Nat.le_refl _) _).drew.trans (HB2.out.mono (by simp)))).drop_ hlt; rintro e w3 ⟨rfl, rfl⟩))
              have hbx := (IsB.drew (HBK.out.alloc (.cells #[.int .i64 b1, .int .i64 b2, .int .i64 b3] 85))).below HB2.out
              have hby := (IsB.drew (Blk.new wr 85 #[.int .i64 b1, .int .i64 b2, .int .i64 b3])).below HB2.out
              have hbW : Below wo.heap.size wo w2 := HBE.out.trans ((((Below.refl _ _).alloc (Nat.le_refl _) _).drew.trans (HB2.out.mono (by simp))).mono HBE.out.size)
              have cx2 : w2.cell? ⟨wo.heap.size, 2, none⟩ = some (.int .i64 lv) := by rw [hbx.cell]; rfl
              have fx2 := hbx.frozen 2
              have cy2 : w2.cell? ⟨wr.heap.size, 2, none⟩ = some (.int .i64 b3) := by rw [hby.cell]; rfl
              have HBX := Lib.hid hbx
              have HBW := Lib.hid hbW
              clear hbx hby hbW
              go_wp2
              go_roundw
              case rel => exact ⟨j + 1, by omega, by go_num, by rw [hHS.out, HLV.out, ← if_max']; exact HBX.out.set_ 2 _, HBW.out.setCell (p := ⟨wo.heap.size, 2, none⟩) (Nat.le_refl _) _⟩
              case measure => simp [intOf]; omega
            · have HLV : Hid (levStep (l.drop k) L lv j = lv) := by
                show levStep (l.drop k) L lv j = _
                unfold levStep
                rw [if_neg hz]
              have hz' : hasI (l.drop k) j = false := by simpa using hz
              clear hz
              go_wp2_with fail
              go_region_with (first | (go_at_call 117; refine (indexBar_any _ _ _ L _ _ _ _ ?_).mono ?_; exact HRB.out _ ((Below.refl _ _).alloc (Nat.le_refl _) _).drew; rintro e w2 ⟨rfl, hb2⟩; rw [HIX.out]; have HB2 := Lib.hid hb2; clear hb2) | (go_at_call 116; refine (contains_any _ _ _ (l.drop k) _ _ ?_ (by omega)).mono ?_; exact (HRI.out _ (((Below.refl _ _).alloc (Nat.le_refl _) _).drew.trans (HB2.out.mono (by simp)))).drop_ hlt; rintro e w3 ⟨rfl, rfl⟩))
              have hbx := (IsB.drew (HBK.out.alloc (.cells #[.int .i64 b1, .int .i64 b2, .int .i64 b3] 85))).below HB2.out
              have hby := (IsB.drew (Blk.new wr 85 #[.int .i64 b1, .int .i64 b2, .int .i64 b3])).below HB2.out
              have hbW : Below wo.heap.size wo w2 := HBE.out.trans ((((Below.refl _ _).alloc (Nat.le_refl _) _).drew.trans (HB2.out.mono (by simp))).mono HBE.out.size)
              have cx2 : w2.cell? ⟨wo.heap.size, 2, none⟩ = some (.int .i64 lv) := by rw [hbx.cell]; rfl
              have fx2 := hbx.frozen 2
              have cy2 : w2.cell? ⟨wr.heap.size, 2, none⟩ = some (.int .i64 b3) := by rw [hby.cell]; rfl
              have HBX := Lib.hid hbx
              have HBW := Lib.hid hbW
              clear hbx hby hbW
              go_wp2
              go_roundw
              case rel => exact ⟨j + 1, by omega, by go_num, by rw [hHS.out, HLV.out]; exact HBX.out, HBW.out⟩
              case measure => simp [intOf]; omega
          · obtain rfl : v = j := by omega
            have HNL : Hid ((List.range v).foldl (levStep (l.drop k) L) 1 = newLevel (l.drop k) L) := by unfold newLevel; rw [HM.out]; rfl
            rw [HNL.out] at HBK
            have x0 : wr.cell? ⟨wo.heap.size, 0, none⟩ = some (.int .i64 k) := by rw [HBK.out.cell]; rfl
            have x1 : wr.cell? ⟨wo.heap.size, 1, none⟩ = some (.int .i64 0) := by rw [HBK.out.cell]; rfl
            have x2 : wr.cell? ⟨wo.heap.size, 2, none⟩ = some (.int .i64 (newLevel (l.drop k) L)) := by rw [HBK.out.cell]; rfl
            have hsz : w.heap.size ≤ wr.heap.size := (HB.out.trans (HBE.out.mono HB.out.size)).size
            have HST : Hid (barStep l L k = (L ++ [((k : Int), 0, newLevel (l.drop k) L)]).set v ((k : Int), (k : Int), newLevel (l.drop k) L)) := by
              show barStep l L k = _
              have hgl : (L ++ [((k : Int), (0 : Int), newLevel (l.drop k) L)])[v]? = some ((k : Int), (0 : Int), newLevel (l.drop k) L) := by rw [← HM.out]; simp
              unfold barStep setLast
              rw [getD_of_get hv.out, if_pos (by rw [HM.out]), Int.toNat_natCast, getD_of_get hgl]
            have HOW := Lib.hid (HO.out.below HBE.out)
            have HBW := Lib.hid (HB.out.trans (HBE.out.mono HB.out.size))
            generalize newLevel (l.drop k) L = nl at x2 HST HBK
            have hv1 : v + 1 ≤ 1000 := by omega
            go_wp2_with (at_builtin; go_must (refine wpList_appB wr rfl (.tmp 43) (.tmp 45) rfl (b := ((k : Int), 0, nl)) _ rfl rfl HOW.out hv1 hsz ?_); intro A' c' w4 hown4 hgr4 hbl4; obtain ⟨g4, rfl, hg4, _⟩ := hown4.form (by omega); have y1 := hown4.cellAt (v * 3 + 1) (by omega); rw [(barCells_get _ v ((k : Int), 0, nl) (by rw [← HM.out]; simp)).2.1] at y1; have f1 := hown4.frozenAt (v * 3 + 1); have HO4 := Lib.hid hown4; have HB4 := Lib.hid hbl4; clear hown4 hgr4 hbl4)
            go_roundw
            case rel => exact ⟨k + 1, by omega, by go_num, _, c', by rw [HSU.out, HST.out, List.length_set, List.length_append, HM.out]; rfl, by rw [HSU.out, HST.out, List.length_set, List.length_append, HM.out, ← barCells_set _ v ((k : Int), 0, nl) (by rw [← HM.out]; simp)]; exact HO4.out.stored _ _, (HBW.out.trans HB4.out).setCell (p := ⟨g4, v * 3 + 1, none⟩) hg4 _⟩
            case measure => simp [intOf]; omega
      · have hvm : v < m := by omega
        obtain ⟨g, rfl, hbg, hgl⟩ := HO.out.form (by omega)
        obtain ⟨b, hb⟩ := getB HM.out hvm
        have hb3 := barCells_get L v b hb
        have c1 := HO.out.cellAt (v * 3 + 1) (by omega)
        rw [hb3.2.1] at c1
        have f1 := HO.out.frozenAt (v * 3 + 1)
        have g1 : ((v : Int) == (m : Int)) = false := by simp; omega
        have HST : Hid (barStep l L k = L.set v (b.1, (k : Int), b.2.2)) := by
          show barStep l L k = _
          unfold barStep setLast
          rw [getD_of_get hv.out, if_neg (by rw [HM.out]; omega), Int.toNat_natCast, getD_of_get hb]
        have HBB := Lib.hid hb
        clear hb hb3 hnew
        go_wp2
        go_roundw
        case rel => exact ⟨k + 1, by omega, by go_num, _, co, by rw [HSU.out, HST.out, List.length_set, HM.out], by rw [HSU.out, HST.out, List.length_set, HM.out, ← barCells_set L v b HBB.out]; exact HO.out.stored _ _, HB.out.setCell (p := ⟨g, v * 3 + 1, none⟩) hbg _⟩
        case measure => simp [intOf]; omega
    · obtain rfl : n = k := by omega
      go_wp2
      go_ret
      exact ⟨Ao, co, rfl, HO.out, HB.out⟩
end Go.Proofs.YtooepkpgffpcjaaDoor

namespace Go.Proofs.YtooepkpgffpcjaaDoor
open Go.RowKit

/-- how many packets are in block x of a, and in block y of b -/
def cmn : List Int → List Int → Int → Int → Int
  | a :: l, b :: r, x, y => (if a = x ∧ b = y then 1 else 0) + cmn l r x y
  | _, _, _, _ => 0
theorem cmn_bd (l r : List Int) (x y : Int) : 0 ≤ cmn l r x y ∧ cmn l r x y ≤ l.length := by
  induction l generalizing r with
  | nil => simp [cmn]
  | cons a l ih =>
    cases r with
    | nil => simp [cmn]; omega
    | cons b r =>
      have := ih r
      simp only [cmn, List.length_cons]
      split <;> omega
theorem cmn_snoc (l r : List Int) (a b x y : Int) (h : l.length = r.length) : cmn (l ++ [a]) (r ++ [b]) x y = cmn l r x y + if a = x ∧ b = y then 1 else 0 := by
  induction l generalizing r with
  | nil => cases r with
    | nil => simp [cmn]
    | cons => simp at h
  | cons c l ih =>
    cases r with
    | nil => simp at h
    | cons d r =>
      have := ih r (by simpa using h)
      simp only [List.cons_append, cmn, this]
      omega

set_option maxHeartbeats 400000 in
theorem common_any (A B : Option Addr) (n c d : Nat) (l r : List Int) (x y : Int) (w : World) (h1 : RdI w A n l) (h2 : RdI w B n r) (hn9 : n ≤ 1000) :
    Calls Tryd.prog 114 #[.slice A n c, .slice B n d, .int .i64 x, .int .i64 y] w fun e w' => e = .returned (.int .i64 (cmn l r x y)) ∧ w = w' := by
  have HL1 := Lib.hid h1.len
  have HL2 := Lib.hid h2.len
  go_enter Tryd.func114, Tryd.ntmps114
  go_wp2
  go_loop [9, 10] (fun s i => ∃ k : Nat, k ≤ n ∧ i = .int .i64 k ∧ s = .int .i64 (cmn (l.take k) (r.take k) x y)) (fun _ i => n - (intOf i).toNat)
  case atStart => exact ⟨0, by omega, rfl, rfl⟩
  case round =>
    obtain ⟨k, hk, rfl, rfl⟩ := hrel
    by_cases hlt : k < n
    · obtain ⟨ad, v, rfl, _, hv, _, hcell⟩ := h1.at_ hlt
      obtain ⟨bd, u, rfl, _, hu, _, hcell2⟩ := h2.at_ hlt
      have HS : Hid (cmn (l.take (k + 1)) (r.take (k + 1)) x y = cmn (l.take k) (r.take k) x y + if v = x ∧ u = y then 1 else 0) := by
        rw [take_of_get hv.out, take_of_get hu.out]
        exact cmn_snoc _ _ _ _ _ _ (by have := HL1.out; have := HL2.out; simp; omega)
      have hb := cmn_bd (l.take k) (r.take k) x y
      have hb2 : (l.take k).length ≤ k := List.length_take_le _ _
      generalize cmn (l.take k) (r.take k) x y = s at HS hb ⊢
      have hs0 := hb.1
      have hs1 : s ≤ 1000 := by omega
      clear hb hb2
      by_cases e1 : v = x
      · subst e1
        by_cases e2 : u = y
        · subst e2
          go_wp2
          go_round
          case rel => exact ⟨k + 1, by omega, by go_num, by rw [HS.out]; simp⟩
          case measure => simp [intOf]; omega
        · have g : (u == y) = false := by simpa using e2
          have HN := Lib.hid e2
          clear e2
          go_wp2
          go_round
          case rel => exact ⟨k + 1, by omega, by go_num, by rw [HS.out, if_neg (fun h => HN.out h.2)]; simp⟩
          case measure => simp [intOf]; omega
      · have g : (v == x) = false := by simpa using e1
        have HN := Lib.hid e1
        clear e1
        go_wp2
        go_round
        case rel => exact ⟨k + 1, by omega, by go_num, by rw [HS.out, if_neg (fun h => HN.out h.1)]; simp⟩
        case measure => simp [intOf]; omega
    · have HR : Hid (cmn (l.take k) (r.take k) x y = cmn l r x y) := by rw [List.take_of_length_le (by have := HL1.out; omega), List.take_of_length_le (by have := HL2.out; omega)]; rfl
      go_wp2
      go_ret
      exact ⟨ret_int HR.out, rfl⟩

/-- One round of the reference's stay, for block y of b. -/
def stayRound (a b : List Int) (x : Int) (t : List Bool) (next : List Bool → Int) (best : Int) (y : Nat) : Int :=
  if 0 < cmn a b x y ∧ t.getD y true = false then max best (cmn a b x y + next (t.set y true)) else best
/-- The reference's stay, f blocks of a before its end (of nb). -/
def stay (a b : List Int) (nb : Int) : Nat → List Bool → Int
  | 0, _ => 0
  | f + 1, t => (List.range t.length).foldl (stayRound a b (nb - (f + 1 : Nat)) t (stay a b nb f)) (stay a b nb f t)

theorem stayRounds_bd (a b : List Int) (x : Int) (t : List Bool) (next : List Bool → Int) (M : Int) (hn : ∀ t, 0 ≤ next t ∧ next t ≤ M) (ha : (a.length : Int) ≤ 1000) (l : List Nat) (z : Int) (hz : 0 ≤ z ∧ z ≤ M + 1000) :
    0 ≤ l.foldl (stayRound a b x t next) z ∧ l.foldl (stayRound a b x t next) z ≤ M + 1000 := by
  induction l generalizing z with
  | nil => exact hz
  | cons y l ih =>
    apply ih
    unfold stayRound
    have h1 := cmn_bd a b x y
    have h2 := hn (t.set y true)
    split
    · omega
    · exact hz
theorem stay_bd (a b : List Int) (nb : Int) (ha : (a.length : Int) ≤ 1000) (f : Nat) (t : List Bool) : 0 ≤ stay a b nb f t ∧ stay a b nb f t ≤ f * 1000 := by
  induction f generalizing t with
  | zero => simp [stay]
  | succ f ih =>
    have := stayRounds_bd a b (nb - (f + 1 : Nat)) t (stay a b nb f) (f * 1000) ih ha (List.range t.length) (stay a b nb f t) (by have := ih t; omega)
    simp only [stay]
    omega

set_option maxHeartbeats 1000000 in
theorem stay_any (A B T : Option Addr) (n c d m cap base : Nat) (l r : List Int) (nb : Nat) (hnb : blk l = nb) (hnb9 : nb ≤ 1000) (hs : Small l) (hn9 : n ≤ 1000)
    (hA : ∀ k, A.map (·.block) = some k → k < base) (hB : ∀ k, B.map (·.block) = some k → k < base) (hm : m ≤ 1000) (f : Nat) : ∀ (t : List Bool) (w : World) (x : Int), x = nb - f → f ≤ nb →
      RdI w A n l → RdI w B n r → Own w base 4 1 T m cap (bools t) →
    Calls Tryd.prog 85 #[.slice A n c, .slice B n d, .int .i64 x, .slice T m cap] w fun e w' => e = .returned (.int .i64 (stay l r nb f t)) ∧ w = w' := by
  induction f with
  | zero =>
    intro t w x hx hf h1 h2 ht
    have hxn : x = nb := by omega
    subst hxn
    clear hx
    have HB := Lib.hid hnb
    clear hnb
    go_enter Tryd.func85, Tryd.ntmps85
    go_wp2_with fail
    refine (refBlocks_any A n c l w h1 hs).mono ?_; rintro e w' ⟨rfl, rfl⟩
    rw [HB.out]
    go_wp2
    go_ret
    exact ⟨rfl, rfl⟩
  | succ f ih =>
    intro t w x hx hf h1 h2 ht
    have HX := Lib.hid hx
    have hx0 : 0 ≤ x := by omega
    have hx1 : x ≤ nb - 1 := by omega
    have hx2 : (x == (nb : Int)) = false := by simp; omega
    have hlt : t.length = m := by simpa using ht.len
    have hla : (l.length : Int) ≤ 1000 := by rw [h1.len]; omega
    have hst : stay l r nb (f + 1) t = (List.range m).foldl (stayRound l r x t (stay l r nb f)) (stay l r nb f t) := by rw [← hlt, hx]; rfl
    have HST := Lib.hid hst
    have HB := Lib.hid hnb
    have IH := Lib.hid ih
    have HLT := Lib.hid hlt
    clear hx hnb hst ih hlt
    go_enter Tryd.func85, Tryd.ntmps85
    go_wp2_with fail
    refine (refBlocks_any A n c l w h1 hs).mono ?_; rintro e w' ⟨rfl, rfl⟩
    rw [HB.out]
    go_wp2_with fail
    refine (IH.out t w (x + 1) (by have := HX.out; omega) (by omega) h1 h2 ht).mono ?_; rintro e w' ⟨rfl, rfl⟩
    have hb0 := stay_bd l r nb hla f t
    go_wp2_with fail
    go_loopw [9, 10, 11] (fun best i _ wr => ∃ k : Nat, k ≤ m ∧ i = .int .i64 k ∧ best = .int .i64 ((List.range k).foldl (stayRound l r x t (stay l r nb f)) (stay l r nb f t)) ∧ w = wr) (fun _ i _ _ => m - (intOf i).toNat)
    case atStart => exact ⟨0, by omega, rfl, rfl, rfl⟩
    case round =>
      obtain ⟨k, hk, rfl, rfl, rfl⟩ := hrel
      have hbk := stayRounds_bd l r x t (stay l r nb f) (f * 1000) (stay_bd l r nb hla f) hla (List.range k) (stay l r nb f t) (by omega)
      by_cases hlt : k < m
      · obtain ⟨g, rfl, hbg, _⟩ := ht.form (by omega)
        obtain ⟨tv, htv⟩ : ∃ tv, t[k]? = some tv := ⟨t[k]'(by rw [HLT.out]; exact hlt), List.getElem?_eq_getElem _⟩
        have hcell : w.cell? ⟨g, k, none⟩ = some (.bool tv) := by rw [ht.cellAt k (by omega), bools_get, htv]; rfl
        have hfz := ht.frozenAt k
        have hsr : (List.range (k + 1)).foldl (stayRound l r x t (stay l r nb f)) (stay l r nb f t) = if 0 < cmn l r x k ∧ tv = false then max ((List.range k).foldl (stayRound l r x t (stay l r nb f)) (stay l r nb f t)) (cmn l r x k + stay l r nb f (t.set k true)) else (List.range k).foldl (stayRound l r x t (stay l r nb f)) (stay l r nb f t) := by
          rw [foldl_range_succ]
          generalize (List.range k).foldl (stayRound l r x t (stay l r nb f)) (stay l r nb f t) = z
          unfold stayRound
          rw [getD_of_get htv]
        have HSR := Lib.hid hsr
        clear hsr
        generalize (List.range k).foldl (stayRound l r x t (stay l r nb f)) (stay l r nb f t) = z at hbk HSR ⊢
        have hz0 := hbk.1
        have hz1 : z ≤ 2000000 := by omega
        have hcm := cmn_bd l r x k
        have hst2 := stay_bd l r nb hla f (t.set k true)
        have HTV := Lib.hid htv
        clear hbk htv
        by_cases hpos : 0 < cmn l r x k
        · by_cases htf : tv = false
          · subst htf
            have hAg : A.map (·.block) ≠ some g := fun e => by have := hA g e; omega
            have hBg : B.map (·.block) ≠ some g := fun e => by have := hB g e; omega
            have HAB := Lib.hid (And.intro hAg hBg)
            have HCM := Lib.hid hcm
            have ht' : Own (w.setCell ⟨g, k, none⟩ (.bool true)) base 4 1 (some ⟨g, 0, none⟩) m cap (bools (t.set k true)) := by rw [← bools_set]; exact ht.stored k _
            have HBK := Lib.hid (setCell_back w g k (.bool true) (.bool false) hcell)
            have hc9 : cmn l r x k ≤ 1000 := by have := hcm.2; omega
            generalize hsv : stay l r nb f (t.set k true) = sv at HSR hst2
            have HSV := Lib.hid hsv
            have hsv1 : sv ≤ 1000000 := by omega
            have hsv0 := hst2.1
            clear hAg hBg hcm hsv hst2
            go_wp2_with fail
            refine (common_any A B n c d l r x k w h1 h2 hn9).mono ?_; rintro e w' ⟨rfl, rfl⟩
            go_wp2_with fail
            refine (IH.out (t.set k true) _ (x + 1) (by have := HX.out; omega) (by omega) (h1.setCell (p := ⟨g, k, none⟩) HAB.out.1 _) (h2.setCell (p := ⟨g, k, none⟩) HAB.out.2 _) ht').mono ?_; rintro e w' ⟨rfl, rfl⟩
            rw [HSV.out]
            go_wp2
            go_roundw
            case rel => exact ⟨k + 1, by omega, by go_num, by rw [HSR.out, if_pos (show 0 < cmn l r x k ∧ True from ⟨hpos, trivial⟩), int_max], HBK.out.symm⟩
            case measure => simp [intOf]; omega
          · obtain rfl : tv = true := by simpa using htf
            have HCM := Lib.hid hcm
            go_wp2_with fail
            refine (common_any A B n c d l r x k w h1 h2 hn9).mono ?_; rintro e w' ⟨rfl, rfl⟩
            go_wp2
            go_roundw
            case rel => exact ⟨k + 1, by omega, by go_num, by rw [HSR.out, if_neg (by simp)], trivial⟩
            case measure => simp [intOf]; omega
        · have HCM := Lib.hid hcm
          have hcz : cmn l r x k = 0 := by omega
          go_wp2_with fail
          refine (common_any A B n c d l r x k w h1 h2 hn9).mono ?_; rintro e w' ⟨rfl, rfl⟩
          go_wp2
          go_roundw
          case rel => exact ⟨k + 1, by omega, by go_num, by rw [HSR.out, if_neg (fun h => by omega)], trivial⟩
          case measure => simp [intOf]; omega
      · have hkm : k = m := by omega
        subst hkm
        go_wp2
        go_ret
        exact ⟨ret_int HST.out.symm, rfl⟩

/-- The reference's Moves: the number, and the error. -/
def movesR (l r : List Int) : Int × Int := if chk2 l r ≠ 0 then (0, chk2 l r) else (l.length - stay l r (blk l) (blk l).toNat (List.replicate (blk r).toNat false), 0)
/-- The answers of a function that gives a number and an error, and what it leaves. -/
def IntErr (x : Int × Int) (w : World) (e : Ending) (w' : World) : Prop := e = .returned (.tuple #[.int .i64 x.1, .int .i64 x.2]) ∧ Below w.heap.size w w'

theorem RdI.block {w : World} {A : Option Addr} {n : Nat} {l : List Int} (h : RdI w A n l) (hn : 0 < n) {k : Nat} (hk : A.map (·.block) = some k) : k < w.heap.size := by
  obtain ⟨ad, e, hb, _⟩ := h.1.2.2 hn
  rw [e] at hk; injection hk with hk; simp at hk; omega

theorem boolInfo : (Tryd.prog.info? 4).map (fun i => (i.zero, i.size, i.bytes)) = some (some (.bool false), 1, 1) := by kernel_rfl

set_option maxHeartbeats 400000 in
theorem refMoves_any (A B : Option Addr) (n m c d : Nat) (l r : List Int) (w : World) (h1 : RdI w A n l) (h2 : RdI w B m r) :
    Calls Tryd.prog 24 #[.slice A n c, .slice B m d] w (IntErr (movesR l r) w) := by
  have c1 := refBoth_any A B n m c d l r w h1 h2
  by_cases h0 : chk2 l r = 0
  · have HV : Hid (movesR l r = (l.length - stay l r (blk l) (blk l).toNat (List.replicate (blk r).toNat false), 0)) := by show movesR l r = _; unfold movesR; rw [if_neg (by omega)]
    obtain ⟨k1, k2, k3⟩ := chk2_ok h0
    have s1 := chk_small k1
    have s2 := chk_small k2
    have b1 := blk_le9 k1
    have b2 := blk_le9 k2
    rw [h0] at c1
    have hln := h1.len
    have hrm := h2.len
    obtain rfl : n = m := by omega
    have hn9 : n ≤ 9 := by have := (chk_ok k1).2.1; omega
    clear h0
    obtain ⟨p, hp⟩ : ∃ p : Nat, blk l = p := ⟨(blk l).toNat, by omega⟩
    obtain ⟨q, hq⟩ : ∃ q : Nat, blk r = q := ⟨(blk r).toNat, by omega⟩
    have HC := Lib.hid c1
    have HL := Lib.hid hln
    have hqb : (q : Int) ≤ 9 := by omega
    have hpb : (p : Int) ≤ 9 := by omega
    rw [hp, hq] at HV
    simp only [Int.toNat_natCast] at HV
    have HP := Lib.hid hp
    have HQ := Lib.hid hq
    have hsb := stay_bd l r p (by omega) p (List.replicate q false)
    have hst1 := hsb.1
    have hst2 : stay l r p p (List.replicate q false) ≤ 9000 := by omega
    have hn1 : 1 ≤ n := by have := (chk_ok k1).1; omega
    have hA : ∀ k, A.map (·.block) = some k → k < w.heap.size := fun k hk => h1.block (by omega) hk
    have hB : ∀ k, B.map (·.block) = some k → k < w.heap.size := fun k hk => h2.block (by omega) hk
    clear k1 k2 k3
    clear c1 hln hrm hp hq b1 b2 hsb
    obtain ⟨i0, hi0, hz0, hz1, hz2⟩ := info_parts boolInfo
    go_enter Tryd.func24, Tryd.ntmps24
    go_wp2_with fail
    refine HC.out.mono ?_; rintro e w' ⟨rfl, rfl⟩
    go_wp2_with fail
    refine (refBlocks_any B n d r w h2 s2).mono ?_; rintro e w' ⟨rfl, rfl⟩
    rw [HQ.out]
    go_wp2_with (at_make; go_must (refine wpList_make_full w rfl (.tmp 18) (.tmp 18) 80 rfl w.heap.size 4 i0 (.bool false) 1 Tryd.underlying80 hi0 hz0 hz1 .i64 .i64 q q q rfl rfl rfl rfl (by rw [hz2]; omega) (by unfold maxLen; omega) (Nat.le_refl _) ?_); intro w1 hown hg1)
    have hb1 : Below w.heap.size w w1 := (Below.refl _ _).grown hg1 (Nat.le_refl _) (by simp)
    have ht : Own w1 w.heap.size 4 1 (some ⟨w.heap.size, 0, none⟩) q q (bools (List.replicate q false)) := by
      refine ⟨?_, by omega⟩
      rw [show (madeCells (Value.bool false).cells (q * 1)).toList = bools (List.replicate q false) from by rw [Nat.mul_one]; show (madeCells #[Value.bool false] q).toList = _; rw [toList_madeCells_one]; simp [bools]] at hown
      exact hown
    refine (stay_any A B _ n c d q q w.heap.size l r p HP.out (by omega) s1 (by omega) hA hB (by omega) p (List.replicate q false) w1 0 (by omega) (Nat.le_refl _) (h1.below hb1) (h2.below hb1) ht).mono ?_
    rintro e w' ⟨rfl, rfl⟩
    clear hown ht hg1
    have hb3 := Lib.hid hb1
    clear hb1
    go_wp2
    go_ret2
    refine ⟨?_, hb3.out⟩
    rw [HV.out, HL.out]
    rfl
  · have HV : Hid (movesR l r = (0, chk2 l r)) := by show movesR l r = _; unfold movesR; rw [if_pos h0]
    generalize chk2 l r = z at c1 h0 HV
    have HC := Lib.hid c1
    have g1 : (z == 0) = false := by simpa using h0
    have g2 : (z != 0) = true := by simpa using h0
    clear c1 h0
    go_enter Tryd.func24, Tryd.ntmps24
    go_wp2_with fail
    refine HC.out.mono ?_; rintro e w' ⟨rfl, rfl⟩
    go_wp2
    go_ret2
    refine ⟨?_, Below.refl _ _⟩
    rw [HV.out]
    rfl
end Go.Proofs.YtooepkpgffpcjaaDoor

namespace Go.Proofs.YtooepkpgffpcjaaDoor
open Go.RowKit

/-- the table of common packets, row by row -/
def tab (l r : List Int) : List Int := (List.range 81).map fun j => cmn l r (j / 9 : Nat) (j % 9 : Nat)
theorem tab_get (l r : List Int) (x y : Nat) (hx : x < 9) (hy : y < 9) : (tab l r)[x * 9 + y]? = some (cmn l r x y) := by
  unfold tab
  have hxy : x * 9 + y < 81 := by omega
  rw [List.getElem?_map, List.getElem?_range hxy]
  simp only [Option.map_some]
  rw [show (x * 9 + y) / 9 = x by omega, show (x * 9 + y) % 9 = y by omega]
theorem tab_snoc (l r : List Int) (h : l.length = r.length) (x y : Nat) (_ : x < 9) (hy : y < 9) : (tab l r).set (x * 9 + y) (cmn l r x y + 1) = tab (l ++ [(x : Int)]) (r ++ [(y : Int)]) := by
  apply List.ext_getElem?
  intro j
  by_cases hj : j < 81
  · unfold tab
    rw [List.getElem?_map, List.getElem?_range hj]
    simp only [Option.map_some]
    rw [cmn_snoc _ _ _ _ _ _ h]
    by_cases e : x * 9 + y = j
    · subst e
      rw [List.getElem?_set_self (by simp; omega), show (x * 9 + y) / 9 = x by omega, show (x * 9 + y) % 9 = y by omega]
      simp
    · rw [List.getElem?_set_ne e, List.getElem?_map, List.getElem?_range hj]
      simp only [Option.map_some]
      rw [if_neg (by omega)]
      simp
  · rw [List.getElem?_eq_none (by simp [tab]; omega), List.getElem?_eq_none (by simp [tab]; omega)]
theorem tab_nil : tab [] [] = List.replicate 81 0 := by decide
theorem tab_length (l r : List Int) : (tab l r).length = 81 := by simp [tab]

/-- the list while it is filled with -1 -/
def fillM (M j : Nat) : List Int := List.replicate j (-1) ++ List.replicate (M - j) 0
/-- the program's Moves: block y of b for a set of blocks s that n packets stay with -/
def mvY (a b : List Int) (x s : Nat) (n : Int) (next : List Int) (y : Nat) : List Int :=
  if s / 2 ^ y % 2 = 0 then next.set (s ||| 2 ^ y) (max (next.getD (s ||| 2 ^ y) 0) (n + cmn a b x y)) else next
def mvSet (a b : List Int) (q x : Nat) (kept next : List Int) (s : Nat) : List Int :=
  if kept.getD s 0 < 0 then next else (List.range q).foldl (mvY a b x s (kept.getD s 0)) next
def mvX (a b : List Int) (q M : Nat) (kept : List Int) (x : Nat) : List Int := (List.range M).foldl (mvSet a b q x kept) kept
/-- behind x blocks of a -/
def mvTo (a b : List Int) (q M x : Nat) : List Int := (List.range x).foldl (mvX a b q M) ((fillM M M).set 0 0)
theorem fillM_get (M j : Nat) (h : j < M) : (fillM M j)[j]? = some 0 := by
  unfold fillM
  rw [List.getElem?_append_right (by simp)]
  simp [List.getElem?_replicate]; omega
theorem fillM_head (M : Nat) (h : 1 ≤ M) : (fillM M M)[0]? = some (-1) := by
  unfold fillM
  rw [List.getElem?_append_left (by simp; omega), List.getElem?_replicate, if_pos (by omega)]
theorem fillM_set (M j : Nat) (h : j < M) : (fillM M j).set j (-1) = fillM M (j + 1) := by
  unfold fillM
  obtain ⟨d, hd⟩ : ∃ d, M - j = d + 1 := ⟨M - j - 1, by omega⟩
  rw [hd, show M - (j + 1) = d by omega, List.replicate_succ, List.set_append_right _ _ (by simp)]
  simp [List.replicate_succ']
theorem ofInt_64 (a : Nat) (ha : a < 65536) : (BitVec.ofInt 64 (a : Int)).toNat = a := by
  rw [BitVec.ofInt_natCast, BitVec.toNat_ofNat]; exact Nat.mod_eq_of_lt (by omega)
theorem i64_and_nat (a b : Nat) (ha : a < 65536) (hb : b < 65536) : bits .and .i64 (a : Int) (b : Int) = ((a &&& b : Nat) : Int) := by
  have hx : a &&& b < 2 ^ 16 := Nat.and_lt_two_pow _ (by omega)
  show IntKind.i64.wrap ((BitVec.ofInt 64 (a : Int) &&& BitVec.ofInt 64 (b : Int)).toNat : Int) = _
  rw [BitVec.toNat_and, ofInt_64 a ha, ofInt_64 b hb, IntKind.wrap_i64]
  omega
theorem i64_or_nat (a b : Nat) (ha : a < 65536) (hb : b < 65536) : bits .or .i64 (a : Int) (b : Int) = ((a ||| b : Nat) : Int) := by
  have hx : a ||| b < 2 ^ 16 := Nat.or_lt_two_pow (by omega) (by omega)
  show IntKind.i64.wrap ((BitVec.ofInt 64 (a : Int) ||| BitVec.ofInt 64 (b : Int)).toNat : Int) = _
  rw [BitVec.toNat_or, ofInt_64 a ha, ofInt_64 b hb, IntKind.wrap_i64]
  omega
theorem pow_le_512 {y q M : Nat} (hM : M = 2 ^ q) (hy : y < q) : 2 ^ y < M := by rw [hM]; exact Nat.pow_lt_pow_right (by omega) hy
theorem wrap_small (n : Nat) (h : n < 65536) : wrap64 (n : Int) = n := by unfold wrap64; omega
theorem bit_or {s y q M : Nat} (hM : M = 2 ^ q) (hs : s < M) (hy : y < q) (h512 : M ≤ 512) : bits BinOp.or IntKind.i64 (s : Int) (wrap64 (2 ^ y)) = ((s ||| 2 ^ y : Nat) : Int) := by
  have hp := pow_le_512 hM hy
  rw [show (2 : Int) ^ y = ((2 ^ y : Nat) : Int) by simp]
  generalize 2 ^ y = P at hp
  rw [wrap_small P (by omega)]
  exact i64_or_nat s P (by omega) (by omega)
theorem bit_or_lt {s y q M : Nat} (hM : M = 2 ^ q) (hs : s < M) (hy : y < q) : s ||| 2 ^ y < M := by
  subst hM
  exact Nat.or_lt_two_pow hs (Nat.pow_lt_pow_right (by omega) hy)
theorem bit_and {s y M : Nat} (hs : s < M) (h512 : M ≤ 512) : bits BinOp.and IntKind.i64 ((s : Int) / 2 ^ y) 1 = ((s / 2 ^ y % 2 : Nat) : Int) := by
  have hd : s / 2 ^ y ≤ s := Nat.div_le_self s (2 ^ y)
  rw [show (s : Int) / 2 ^ y = ((s / 2 ^ y : Nat) : Int) by simp]
  generalize s / 2 ^ y = P at hd
  have := i64_and_nat P 1 (by omega) (by omega)
  rw [Nat.and_one_is_mod] at this; exact this
theorem bit_yes {s y M : Nat} (hs : s < M) (h512 : M ≤ 512) (h : s / 2 ^ y % 2 = 0) : (bits BinOp.and IntKind.i64 ((s : Int) / 2 ^ y) 1 == 0) = true := by rw [bit_and hs h512, h]; rfl
theorem bit_no {s y M : Nat} (hs : s < M) (h512 : M ≤ 512) (h : ¬ s / 2 ^ y % 2 = 0) : (bits BinOp.and IntKind.i64 ((s : Int) / 2 ^ y) 1 == 0) = false := by
  rw [bit_and hs h512]
  generalize s / 2 ^ y % 2 = P at h
  simp; omega
theorem mvY_yes {a b : List Int} {x s y : Nat} {n t : Int} {Z : List Int} (h : s / 2 ^ y % 2 = 0) (ht : Z[s ||| 2 ^ y]? = some t) : mvY a b x s n Z y = Z.set (s ||| 2 ^ y) (max t (n + cmn a b x y)) := by
  unfold mvY
  rw [if_pos h, getD_of_get ht]
theorem mvY_no {a b : List Int} {x s y : Nat} {n : Int} {Z : List Int} (h : ¬ s / 2 ^ y % 2 = 0) : mvY a b x s n Z y = Z := by
  unfold mvY
  rw [if_neg h]
theorem mvSet_neg {a b : List Int} {q x s : Nat} {K N : List Int} {v : Int} (hv : K[s]? = some v) (h : v < 0) : mvSet a b q x K N s = N := by
  unfold mvSet; rw [getD_of_get hv, if_pos h]
theorem mvSet_pos {a b : List Int} {q x s : Nat} {K N : List Int} {v : Int} (hv : K[s]? = some v) (h : ¬ v < 0) : mvSet a b q x K N s = (List.range q).foldl (mvY a b x s v) N := by
  unfold mvSet; rw [getD_of_get hv, if_neg h]
theorem exists_get {α : Type} {l : List α} {n k : Nat} (h : l.length = n) (hk : k < n) : ∃ v, l[k]? = some v := ⟨l[k]'(by omega), List.getElem?_eq_getElem _⟩

/-- numbers from -1 to M -/
def Bd (M : Int) (l : List Int) : Prop := ∀ v ∈ l, -1 ≤ v ∧ v ≤ M
theorem Bd.mono {M M' : Int} {l : List Int} (h : Bd M l) (hm : M ≤ M') : Bd M' l := fun v hv => by have := h v hv; omega
theorem Bd.set {M : Int} {l : List Int} (h : Bd M l) (j : Nat) {u : Int} (hu : -1 ≤ u ∧ u ≤ M) : Bd M (l.set j u) := fun v hv => by
  rcases List.mem_or_eq_of_mem_set hv with h1 | rfl
  · exact h v h1
  · exact hu
theorem Bd.getD {M : Int} {l : List Int} (h : Bd M l) (hM : 0 ≤ M) (j : Nat) : -1 ≤ l.getD j 0 ∧ l.getD j 0 ≤ M := by
  rw [List.getD_eq_getElem?_getD]
  cases e : l[j]? with
  | none => simp; omega
  | some v => exact h v (List.mem_of_getElem? e)
theorem foldl_bd {M : Int} (f : List Int → Nat → List Int) (h : ∀ l j, Bd M l → Bd M (f l j)) (js : List Nat) (l : List Int) (hl : Bd M l) : Bd M (js.foldl f l) := by
  induction js generalizing l with
  | nil => exact hl
  | cons j js ih => exact ih _ (h l j hl)
theorem mvY_bd (a b : List Int) (ha : a.length ≤ 9) (x s : Nat) (n M : Int) (hM : 0 ≤ M) (hn : -1 ≤ n ∧ n ≤ M) (l : List Int) (y : Nat) (hl : Bd (M + 9) l) : Bd (M + 9) (mvY a b x s n l y) := by
  unfold mvY
  split
  · refine hl.set _ ?_
    have h1 := hl.getD (by omega) (s ||| 2 ^ y)
    have h2 := cmn_bd a b x y
    omega
  · exact hl
theorem mvSet_bd (a b : List Int) (ha : a.length ≤ 9) (q x : Nat) (M : Int) (hM : 0 ≤ M) (kept : List Int) (hk : Bd M kept) (l : List Int) (s : Nat) (hl : Bd (M + 9) l) : Bd (M + 9) (mvSet a b q x kept l s) := by
  unfold mvSet
  split
  · exact hl
  · exact foldl_bd _ (fun l y hl => mvY_bd a b ha x s _ M hM (hk.getD hM s) l y hl) _ _ hl
theorem mvTo_bd (a b : List Int) (q M x : Nat) (ha : a.length ≤ 9) : Bd (9 * x) (mvTo a b q M x) := by
  induction x with
  | zero =>
    refine Bd.set (fun v hv => ?_) 0 (by omega)
    unfold fillM at hv
    rcases List.mem_append.1 hv with h | h
    · rw [List.eq_of_mem_replicate h]; omega
    · rw [List.eq_of_mem_replicate h]; omega
  | succ x ih =>
    show Bd _ ((List.range (x + 1)).foldl (mvX a b q M) _)
    rw [foldl_range_succ]
    show Bd _ ((List.range M).foldl (mvSet a b q x (mvTo a b q M x)) (mvTo a b q M x))
    rw [show ((9 : Int) * ((x + 1 : Nat) : Int)) = 9 * (x : Int) + 9 by omega]
    exact foldl_bd _ (fun l s hl => mvSet_bd a b ha q x _ (by omega) _ ih l s hl) _ _ (ih.mono (by omega))
theorem mvSets_bd (a b : List Int) (q x : Nat) (K : List Int) (ha : a.length ≤ 9) (hK : Bd (9 * x) K) (s : Nat) : Bd (9 * x + 9) ((List.range s).foldl (mvSet a b q x K) K) :=
  foldl_bd _ (fun l s hl => mvSet_bd a b ha q x _ (by omega) _ hK l s hl) _ _ (hK.mono (by omega))
theorem if_max (t u : Int) : (if t < u then u else t) = max t u := by split <;> omega
theorem mvTo_succ (a b : List Int) (q M x : Nat) : mvTo a b q M (x + 1) = (List.range M).foldl (mvSet a b q x (mvTo a b q M x)) (mvTo a b q M x) := by
  unfold mvTo
  rw [foldl_range_succ]; rfl
/-- the greatest of some numbers -/
def mxL : List Int → Int
  | [] => 0
  | a :: l => mx a l
/-- The program's Moves: the number, and the error. -/
def movesP (l r : List Int) : Int × Int := if chk2 l r ≠ 0 then (0, chk2 l r) else (l.length - mxL (mvTo l r (blk r).toNat (2 ^ (blk r).toNat) (blk l).toNat), 0)
theorem ints_toArray_set (l : List Int) (j : Nat) (z : Int) : (ints l).toArray.setIfInBounds j (.int .i64 z) = (ints (l.set j z)).toArray := by simp [ints, List.map_set]
theorem zero78 : Tryd.zeroCells78 = (ints (tab [] [])).toArray := by rw [tab_nil]; rfl

set_option maxHeartbeats 1000000 in
set_option maxRecDepth 100000 in
theorem moves_any (A B : Option Addr) (n m c d : Nat) (l r : List Int) (w : World) (h1 : RdI w A n l) (h2 : RdI w B m r) :
    Calls Tryd.prog 23 #[.slice A n c, .slice B m d] w (IntErr (movesP l r) w) := by
  have c1 := both_any A B n m c d l r w h1 h2
  by_cases h0 : chk2 l r = 0
  · obtain ⟨k1, k2, k3⟩ := chk2_ok h0
    have s1 := chk_small k1
    have s2 := chk_small k2
    have r1 := Lib.hid (chk_ok k1).2.2.1
    have r2 := Lib.hid (chk_ok k2).2.2.1
    have b1 := blk_le9 k1
    have b2 := blk_le9 k2
    rw [h0] at c1
    have hln := h1.len
    have hrm := h2.len
    obtain rfl : n = m := by omega
    have hn9 : n ≤ 9 := by have := (chk_ok k1).2.1; omega
    have hn1 : 1 ≤ n := by have := (chk_ok k1).1; omega
    have hA : ∀ k, A.map (·.block) = some k → k < w.heap.size := fun k hk => h1.block (by omega) hk
    have hB : ∀ k, B.map (·.block) = some k → k < w.heap.size := fun k hk => h2.block (by omega) hk
    have H0 := Lib.hid h0
    clear h0 k1 k2 k3
    obtain ⟨p, hp⟩ : ∃ p : Nat, blk l = p := ⟨(blk l).toNat, by omega⟩
    obtain ⟨q, hq⟩ : ∃ q : Nat, blk r = q := ⟨(blk r).toNat, by omega⟩
    have HC := Lib.hid c1
    have HL := Lib.hid hln
    have HRL := Lib.hid hrm
    have hqb : (q : Int) ≤ 9 := by omega
    have hpb : (p : Int) ≤ 9 := by omega
    have hqb1 : 1 ≤ (q : Int) := by omega
    have HP := Lib.hid hp
    have HQ := Lib.hid hq
    clear c1 hln hrm hp hq b1 b2
    obtain ⟨i0, hi0, hz0, hz1, hz2⟩ := info_parts intInfo
    go_enter Tryd.func23, Tryd.ntmps23
    go_wp2_with fail
    refine HC.out.mono ?_; rintro e w' ⟨rfl, rfl⟩
    go_wp2_with fail
    go_loopw [25] (fun i wr => ∃ k : Nat, k ≤ n ∧ i = .int .i64 k ∧ Blk wr w.heap.size 78 (ints (tab (l.take k) (r.take k))).toArray ∧ Below w.heap.size w wr ∧ wr.heap.size = w.heap.size + 1) (fun i _ => n - (intOf i).toNat)
    case atStart => exact ⟨0, by omega, rfl, by rw [List.take_zero, List.take_zero, ← zero78]; exact Blk.new _ _ _, (Below.refl _ _).alloc (Nat.le_refl _) _, by simp⟩
    case round =>
      obtain ⟨k, hk, rfl, hblk, hbel, hsz⟩ := hrel
      have HBK := Lib.hid hblk
      have HBE := Lib.hid hbel
      have HSZ := Lib.hid hsz
      clear hblk hbel hsz
      by_cases hlt : k < n
      · obtain ⟨ad, v, rfl, had, hv, _, hcell⟩ := h1.at_ hlt
        obtain ⟨bd, u, rfl, hbd, hu, _, hcell2⟩ := h2.at_ hlt
        have hv9 := r1.out v (List.mem_of_getElem? hv.out)
        have hu9 := r2.out u (List.mem_of_getElem? hu.out)
        obtain ⟨v, rfl⟩ : ∃ v' : Nat, v = v' := ⟨v.toNat, by omega⟩
        obtain ⟨u, rfl⟩ : ∃ u' : Nat, u = u' := ⟨u.toNat, by omega⟩
        rw [← HBE.out.cell (by rw [block_of_add]; exact had)] at hcell
        rw [← HBE.out.cell (by rw [block_of_add]; exact hbd)] at hcell2
        have ht := tab_get (l.take k) (r.take k) v u (by omega) (by omega)
        have hcell3 : wr.cell? ⟨w.heap.size, v * 9 + u, none⟩ = some (.int .i64 (cmn (l.take k) (r.take k) v u)) := by
          rw [HBK.out.cell]; simp only [List.getElem?_toArray]; rw [ints_get, ht]; rfl
        have hfz : wr.frozen? ⟨w.heap.size, v * 9 + u, none⟩ = false := HBK.out.frozen _
        have hcm := cmn_bd (l.take k) (r.take k) v u
        have hcm1 : cmn (l.take k) (r.take k) v u ≤ 1000 := by have := List.length_take_le k l; omega
        have HS := Lib.hid (tab_snoc (l.take k) (r.take k) (by have := HL.out; have := HRL.out; simp; omega) v u (by omega) (by omega))
        generalize cmn (l.take k) (r.take k) v u = z at hcell3 hcm hcm1 HS
        have hz00 := hcm.1
        clear ht hcm
        go_wp2
        go_region
        all_goals go_wp2
        go_roundw
        case rel => exact ⟨k + 1, by omega, by go_num, by rw [take_of_get hv.out, take_of_get hu.out, ← HS.out, ← ints_toArray_set]; exact (HBK.out.set_ _ _).drew, (HBE.out.setCell (p := ⟨w.heap.size, _, none⟩) (Nat.le_refl _) _).drew, by simp [HSZ.out]⟩
        case measure => simp [intOf]; omega
      · have HT : Hid (Blk wr w.heap.size 78 (ints (tab l r)).toArray) := by
          have := HBK.out
          rw [List.take_of_length_le (by have := HL.out; omega), List.take_of_length_le (by have := HRL.out; omega)] at this
          exact this
        clear HBK
        have h1' := h1.below HBE.out
        have h2' := h2.below HBE.out
        go_wp2_with fail
        refine (blocks_any B n d r wr h2' s2 (by omega)).mono ?_; rintro e w' ⟨rfl, rfl⟩
        rw [HQ.out]
        obtain ⟨M, hM⟩ : ∃ M : Nat, M = 2 ^ q := ⟨_, rfl⟩
        have hM512 : M ≤ 512 := by
          rw [hM]; exact Nat.le_trans (Nat.pow_le_pow_right (by omega) (show q ≤ 9 by omega)) (by decide)
        have hM1 : 1 ≤ M := by rw [hM]; exact Nat.one_le_two_pow
        have hsh : wrap64 (2 ^ q) = (M : Int) := by
          rw [show (2 : Int) ^ q = (M : Int) by rw [hM]; simp]; unfold wrap64; omega
        have HM := Lib.hid hM
        clear hM
        have hB1 : Below w.heap.size w wr := HBE.out
        go_wp2_with (at_make; go_must (refine wpList_make_full wr rfl (.tmp 45) (.tmp 45) 22 rfl (w.heap.size + 1) 3 i0 (.int .i64 0) 1 Tryd.underlying22 hi0 hz0 hz1 .i64 .i64 _ _ M rfl rfl hsh hsh (by rw [hz2]; omega) (by unfold maxLen; omega) (by have := HSZ.out; omega) ?_); intro w1 hown hg1)
        obtain ⟨G, hG⟩ : ∃ G, G = wr.heap.size := ⟨_, rfl⟩
        have HG : Hid (G = w.heap.size + 1) := hG.trans HSZ.out
        rw [← hG] at hown ⊢
        have HT1 := Lib.hid (HT.out.grown hg1 (by simp))
        have hown2 : OwnI w1 (w.heap.size + 1) 3 (some ⟨G, 0, none⟩) M M (List.replicate M 0) := by
          refine ⟨⟨?_, by omega⟩, fun v hv => by rw [List.eq_of_mem_replicate hv]; exact I64.small (by omega)⟩
          rw [show (madeCells (Value.int IntKind.i64 0).cells (M * 1)).toList = ints (List.replicate M 0) from by rw [Nat.mul_one]; show (madeCells #[Value.int .i64 0] M).toList = _; rw [toList_madeCells_one]; simp [ints]] at hown
          exact hown
        have HB1 := Lib.hid (hB1.grown hg1 hB1.size (by simp))
        have HO := Lib.hid hown2
        clear hown hown2 hg1 hB1 HT h1' h2' HBE HSZ hG hsh
        clear hlt hk
        go_loopw [49] (fun i wq => ∃ j : Nat, j ≤ M ∧ i = .int .i64 j ∧ OwnI wq (w.heap.size + 1) 3 (some ⟨G, 0, none⟩) M M (fillM M j) ∧ Blk wq w.heap.size 78 (ints (tab l r)).toArray ∧ Below w.heap.size w wq) (fun i _ => M - (intOf i).toNat)
        case atStart => exact ⟨0, by omega, rfl, HO.out, HT1.out, HB1.out⟩
        case round =>
          obtain ⟨j, hj, rfl, hown, hblk, hbel⟩ := hrel
          have HO2 := Lib.hid hown
          have HBK2 := Lib.hid hblk
          have HBE2 := Lib.hid hbel
          clear hown hblk hbel HO HT1 HB1
          by_cases hlt : j < M
          · have hcell : wr.cell? ⟨G, j, none⟩ = some (.int .i64 0) := HO2.out.cellAt (fillM_get M j hlt)
            have hfz : wr.frozen? ⟨G, j, none⟩ = false := HO2.out.frozenAt j
            go_wp2
            go_roundw
            case rel => exact ⟨j + 1, by omega, by go_num, by rw [← fillM_set M j hlt]; exact HO2.out.stored j (I64.small (by omega)), HBK2.out.far (p := ⟨G, j, none⟩) (by have := HG.out; simp; omega) _, HBE2.out.setCell (p := ⟨G, j, none⟩) (by have := HG.out; simp; omega) _⟩
            case measure => simp [intOf]; omega
          · obtain rfl : M = j := by omega
            have hcell : wr.cell? ⟨G, 0, none⟩ = some (.int .i64 (-1)) := HO2.out.cellAt (fillM_head M hM1)
            have hfz : wr.frozen? ⟨G, 0, none⟩ = false := HO2.out.frozenAt 0
            go_wp2_with fail
            have HO3 := Lib.hid (HO2.out.stored 0 (u := 0) (I64.small (by omega)))
            have HBK3 := Lib.hid (HBK2.out.far (p := ⟨G, 0, none⟩) (by have := HG.out; simp; omega) (.int .i64 0))
            have HBE3 := Lib.hid (HBE2.out.setCell (p := ⟨G, 0, none⟩) (by have := HG.out; simp; omega) (.int .i64 0))
            generalize wr.setCell ⟨G, 0, none⟩ (.int .i64 0) = W at HO3 HBK3 HBE3 ⊢
            refine (blocks_any A n c l W (h1.below HBE3.out) s1 (by omega)).mono ?_; rintro e w' ⟨rfl, rfl⟩
            rw [HP.out]
            go_wp2_with fail
            clear hlt hj hcell hfz HBK2 HBE2 HO2
            go_loopw [9, 60] (fun kv i wq => ∃ x : Nat, x ≤ p ∧ i = .int .i64 x ∧ ∃ Gk ck, kv = .slice (some ⟨Gk, 0, none⟩) M ck ∧ OwnI wq (w.heap.size + 1) 3 (some ⟨Gk, 0, none⟩) M ck (mvTo l r q M x) ∧ Blk wq w.heap.size 78 (ints (tab l r)).toArray ∧ Below w.heap.size w wq) (fun _ i _ => p - (intOf i).toNat)
            case atStart => exact ⟨0, by omega, rfl, G, M, rfl, HO3.out, HBK3.out, HBE3.out⟩
            case round =>
              obtain ⟨x, hx, rfl, Gk, ck, rfl, hown, hblk, hbel⟩ := hrel
              have HO4 := Lib.hid hown
              have HBK4 := Lib.hid hblk
              have HBE4 := Lib.hid hbel
              clear hown hblk hbel HO3 HBK3 HBE3 HG
              by_cases hlt : x < p
              · go_wp2_with fail
                go_step3
                go_wp2_with fail
                refine (clone_any _ M ck _ wr HO4.out.rd (by omega) rfl).mono ?_
                rintro e w2 ⟨A2, c2, rfl, hown2, hbel2⟩
                have hlen : (mvTo l r q M x).length = M := HO4.out.len
                rw [hlen] at hown2 ⊢
                obtain ⟨g2, rfl, hg2, _⟩ := hown2.form (by omega)
                have HGk := Lib.hid (HO4.out.1.block (k := Gk) rfl)
                have hown3 := hown2.mono (show w.heap.size + 1 ≤ wr.heap.size by have := HGk.out; omega)
                have HO5 := Lib.hid (HO4.out.below hbel2)
                have HBK5 := Lib.hid (HBK4.out.below hbel2)
                have HBE5 := Lib.hid (HBE4.out.trans (hbel2.mono (by have := HGk.out; omega)))
                have HO6 := Lib.hid hown3
                have HGB : w.heap.size + 1 ≤ g2 := by have := HGk.out; omega
                have HGG : Hid (Gk < g2) := by have := HGk.out; show Gk < g2; omega
                have HKB := Lib.hid (mvTo_bd l r q M x (by have := HL.out; omega))
                generalize hK : mvTo l r q M x = K at HO5 HO6 HKB
                have HK := Lib.hid hK
                clear hown2 hown3 hbel2 HBK4 HBE4 HO4 hK hlen HGk
                go_wp2_with fail
                go_step3
                go_wp2_with fail
                go_loopw [67] (fun i wq => ∃ s : Nat, s ≤ M ∧ i = .int .i64 s ∧ OwnI wq (w.heap.size + 1) 3 (some ⟨Gk, 0, none⟩) M ck K ∧ OwnI wq (w.heap.size + 1) 3 (some ⟨g2, 0, none⟩) M c2 ((List.range s).foldl (mvSet l r q x K) K) ∧ Blk wq w.heap.size 78 (ints (tab l r)).toArray ∧ Below w.heap.size w wq) (fun i _ => M - (intOf i).toNat)
                case atStart => exact ⟨0, by omega, rfl, HO5.out, HO6.out, HBK5.out, HBE5.out⟩
                case round =>
                  obtain ⟨s, hs, rfl, hown, hown', hblk, hbel⟩ := hrel
                  have HO7 := Lib.hid hown
                  have HO8 := Lib.hid hown'
                  have HBK7 := Lib.hid hblk
                  have HBE7 := Lib.hid hbel
                  clear hown hown' hblk hbel HO5 HO6 HBK5 HBE5
                  by_cases hlts : s < M
                  · obtain ⟨v, hv⟩ : ∃ v, K[s]? = some v := ⟨K[s]'(by rw [HO7.out.len]; exact hlts), List.getElem?_eq_getElem _⟩
                    have hcell := HO7.out.cellAt hv
                    have hvb := HKB.out v (List.mem_of_getElem? hv)
                    have HV := Lib.hid hv
                    have HNB := Lib.hid (mvSets_bd l r q x K (by have := HL.out; omega) HKB.out s)
                    have HSS := Lib.hid (foldl_range_succ (mvSet l r q x K) K s)
                    generalize hN : (List.range s).foldl (mvSet l r q x K) K = N at HO8 HNB HSS
                    clear hv hN
                    have hxp : x ≤ 9 := by omega
                    by_cases hneg : v < 0
                    · go_wp2
                      go_roundw
                      case rel => exact ⟨s + 1, by omega, by go_num, HO7.out, by rw [HSS.out, mvSet_neg HV.out hneg]; exact HO8.out, HBK7.out, HBE7.out⟩
                      case measure => simp [intOf]; omega
                    · go_wp2_with fail
                      refine (blocks_any B n d r wr (h2.below HBE7.out) s2 (by omega)).mono ?_; rintro e w' ⟨rfl, rfl⟩
                      rw [HQ.out]
                      go_wp2_with fail
                      go_loopw [76] (fun i wq => ∃ y : Nat, y ≤ q ∧ i = .int .i64 y ∧ OwnI wq (w.heap.size + 1) 3 (some ⟨Gk, 0, none⟩) M ck K ∧ OwnI wq (w.heap.size + 1) 3 (some ⟨g2, 0, none⟩) M c2 ((List.range y).foldl (mvY l r x s v) N) ∧ Blk wq w.heap.size 78 (ints (tab l r)).toArray ∧ Below w.heap.size w wq) (fun i _ => q - (intOf i).toNat)
                      case atStart => exact ⟨0, by omega, rfl, HO7.out, HO8.out, HBK7.out, HBE7.out⟩
                      case round =>
                        obtain ⟨y, hy, rfl, hown, hown', hblk, hbel⟩ := hrel
                        have HO9 := Lib.hid hown
                        have HOA := Lib.hid hown'
                        have HBK9 := Lib.hid hblk
                        have HBE9 := Lib.hid hbel
                        clear hown hown' hblk hbel HO7 HO8 HBK7 HBE7
                        by_cases hlty : y < q
                        · have hor := bit_or HM.out hlts hlty hM512
                          have hIM := bit_or_lt HM.out hlts hlty
                          obtain ⟨I, hI⟩ : ∃ I : Nat, I = s ||| 2 ^ y := ⟨_, rfl⟩
                          rw [← hI] at hor hIM
                          have HY := Lib.hid (foldl_range_succ (mvY l r x s v) N y)
                          have HYB := Lib.hid (foldl_bd (mvY l r x s v) (fun l' y hl => mvY_bd l r (by have := HL.out; omega) x s v (9 * x) (by omega) hvb l' y hl) (List.range y) N HNB.out)
                          generalize (List.range y).foldl (mvY l r x s v) N = Z at HOA HY HYB
                          by_cases hbit : s / 2 ^ y % 2 = 0
                          · have g1 := bit_yes hlts hM512 hbit
                            obtain ⟨t, ht⟩ := exists_get HOA.out.len hIM
                            have hcz := HOA.out.cellAt ht
                            have hfz := HOA.out.frozenAt I
                            have htb := HYB.out t (List.mem_of_getElem? ht)
                            have hct : wr.cell? ⟨w.heap.size, x * 9 + y, none⟩ = some (.int .i64 (cmn l r x y)) := by
                              rw [HBK9.out.cell]; simp only [List.getElem?_toArray]; rw [ints_get, tab_get l r x y (by omega) (by omega)]; rfl
                            have hcm := cmn_bd l r x y
                            have hcm1 : cmn l r x y ≤ 9 := by have := HL.out; omega
                            have HY2 := Lib.hid (mvY_yes (a := l) (b := r) (x := x) (n := v) hbit (hI ▸ ht))
                            rw [← hI] at HY2
                            generalize cmn l r x y = cc at hct hcm hcm1 HY2
                            have hcm0 := hcm.1
                            clear hI ht hcm hbit
                            go_wp2_with fail
                            go_region
                            go_wp2
                            go_roundw
                            case rel => exact ⟨y + 1, by omega, by go_num, (HO9.out.far (p := ⟨g2, I, none⟩) (by have := HGG.out; simp; omega) _).drew, by rw [HY.out, HY2.out, ← if_max]; exact (HOA.out.stored I (I64.small (by split <;> omega))).drew, (HBK9.out.far (p := ⟨g2, I, none⟩) (by simp; omega) _).drew, (HBE9.out.setCell (p := ⟨g2, I, none⟩) (by simp; omega) _).drew⟩
                            case measure => simp [intOf]; omega
                          · have g1 := bit_no hlts hM512 hbit
                            have HY2 := Lib.hid (mvY_no (a := l) (b := r) (x := x) (n := v) (Z := Z) hbit)
                            clear hI hbit hor
                            go_wp2
                            go_roundw
                            case rel => exact ⟨y + 1, by omega, by go_num, HO9.out, by rw [HY.out, HY2.out]; exact HOA.out, HBK9.out, HBE9.out⟩
                            case measure => simp [intOf]; omega
                        · obtain rfl : q = y := by omega
                          go_wp2
                          go_roundw
                          case rel => exact ⟨s + 1, by omega, by go_num, HO9.out, by rw [HSS.out, mvSet_pos HV.out (by omega)]; exact HOA.out, HBK9.out, HBE9.out⟩
                          case measure => simp [intOf]; omega
                  · obtain rfl : M = s := by omega
                    go_wp2
                    apply_assumption
                    go_wp2
                    go_roundw
                    case rel => exact ⟨x + 1, by omega, by go_num, g2, c2, rfl, by rw [mvTo_succ, HK.out]; exact HO8.out, HBK7.out, HBE7.out⟩
                    case measure => simp [intOf]; omega
              · obtain rfl : p = x := by omega
                go_wp2_with fail
                have hKl := HO4.out.len
                have HKB := Lib.hid (mvTo_bd l r q M p (by have := HL.out; omega))
                generalize hK : mvTo l r q M p = K at HO4 HKB hKl
                cases K with
                | nil => simp at hKl; omega
                | cons a t =>
                  have hmx : -1 ≤ mx a t ∧ mx a t ≤ 9 * p := by
                    rcases mx_mem_or a t with e | e
                    · rw [e]; exact HKB.out a (by simp)
                    · exact HKB.out _ (List.mem_cons_of_mem _ e)
                  have HV : Hid (movesP l r = (l.length - mx a t, 0)) := by
                    show movesP l r = _
                    unfold movesP
                    rw [if_neg (by rw [H0.out]; simp), HQ.out, HP.out, Int.toNat_natCast, Int.toNat_natCast, ← HM.out, hK]; rfl
                  have hmx0 := hmx.1
                  have hmx1 : mx a t ≤ 81 := by omega
                  clear hmx hKl hK
                  refine (max_any _ M ck a t wr HO4.out.rd).mono ?_; rintro e w' ⟨rfl, rfl⟩
                  generalize mx a t = z at HV hmx0 hmx1 ⊢
                  have HBE := HBE4
                  clear HBE4 HBK4 HO4
                  go_wp2
                  go_ret2
                  refine ⟨?_, HBE.out⟩
                  rw [HV.out, HL.out]
                  rfl
  · have HV : Hid (movesP l r = (0, chk2 l r)) := by show movesP l r = _; unfold movesP; rw [if_pos h0]
    generalize chk2 l r = z at c1 h0 HV
    have HC := Lib.hid c1
    have g1 : (z == 0) = false := by simpa using h0
    have g2 : (z != 0) = true := by simpa using h0
    clear c1 h0
    go_enter Tryd.func23, Tryd.ntmps23
    go_wp2_with fail
    refine HC.out.mono ?_; rintro e w' ⟨rfl, rfl⟩
    go_wp2
    go_ret2
    refine ⟨?_, Below.refl _ _⟩
    rw [HV.out]
    rfl
end Go.Proofs.YtooepkpgffpcjaaDoor
