/- Walks: the program's Check and the reference's, blocks and slices.Max: what they answer, as plain functions of the list. -/
import Derived.Test.YtooepkpgffpcjaaDoorProg
import Derived.Test.YtooepkpgffpcjaaDoorMem
namespace Go.Proofs.YtooepkpgffpcjaaDoor
open Go.RowKit

/-- chart.Check behind the first packets: 'next' is the next new block. -/
def chkGo (next : Int) : List Int → Int
  | [] => 0
  | n :: r => if n < 0 ∨ 9 ≤ n then 2 else if next < n then 11 else chkGo (if n = next then next + 1 else next) r
def chk (l : List Int) : Int := if l.length = 0 then 6 else if 9 < l.length then 8 else chkGo 0 l

theorem chk_short {l : List Int} (h : l.length = 0) : chk l = 6 := by unfold chk; rw [if_pos h]
theorem chk_full {l : List Int} (h : 9 < l.length) : chk l = 8 := by unfold chk; rw [if_neg (by omega), if_pos h]
theorem chk_go {l : List Int} (h1 : 0 < l.length) (h2 : l.length ≤ 9) : chk l = chkGo 0 l := by unfold chk; rw [if_neg (by omega), if_neg (by omega)]
theorem chkGo_range {nx v : Int} {r : List Int} (h : v < 0 ∨ 9 ≤ v) : chkGo nx (v :: r) = 2 := by simp only [chkGo]; rw [if_pos h]
theorem chkGo_order {nx v : Int} {r : List Int} (h : 0 ≤ v) (h' : v < 9) (h2 : nx < v) : chkGo nx (v :: r) = 11 := by simp only [chkGo]; rw [if_neg (by omega), if_pos h2]
theorem chkGo_new {v : Int} {r : List Int} (h : 0 ≤ v) (h' : v < 9) : chkGo v (v :: r) = chkGo (v + 1) r := by simp only [chkGo]; rw [if_neg (by omega), if_neg (by omega)]; simp
theorem chkGo_old {nx v : Int} {r : List Int} (h : 0 ≤ v) (h' : v < 9) (h2 : v < nx) : chkGo nx (v :: r) = chkGo nx r := by simp only [chkGo]; rw [if_neg (by omega), if_neg (by omega), if_neg (by omega)]

set_option maxHeartbeats 400000 in
theorem check_any (A : Option Addr) (n c : Nat) (l : List Int) (w : World) (h : RdI w A n l) :
    Calls Tryd.prog 31 #[.slice A n c] w fun e w' => e = .returned (.int .i64 (chk l)) ∧ w = w' := by
  have hlen := h.len
  have hbd := h.bd
  by_cases h0 : n = 0
  · have HC := Lib.hid (chk_short (l := l) (by omega)); clear hlen
    subst h0
    go_enter Tryd.func31, Tryd.ntmps31
    go_wp2
    go_ret
    exact ⟨ret_int HC.out.symm, rfl⟩
  by_cases h9 : 9 < n
  · have HC := Lib.hid (chk_full (l := l) (by omega)); clear hlen
    have g0 : ((n : Int) == 0) = false := by simp; omega
    go_enter Tryd.func31, Tryd.ntmps31
    go_wp2
    go_ret
    exact ⟨ret_int HC.out.symm, rfl⟩
  have HC := Lib.hid (chk_go (l := l) (by omega) (by omega))
  have HL := Lib.hid hlen; clear hlen
  have g0 : ((n : Int) == 0) = false := by simp; omega
  have g9 : (n : Int) ≤ 9 := by omega
  go_enter Tryd.func31, Tryd.ntmps31
  go_wp2
  go_loop [3, 16] (fun nx i => ∃ (k : Nat) (x : Int), k ≤ n ∧ i = .int .i64 k ∧ nx = .int .i64 x ∧ 0 ≤ x ∧ x ≤ 9 ∧ Hid (chkGo x (l.drop k) = chkGo 0 l)) (fun _ i => n - (intOf i).toNat)
  case atStart => exact ⟨0, 0, by omega, rfl, rfl, by omega, by omega, rfl⟩
  case round =>
    obtain ⟨k, x, hk, rfl, rfl, hx0, hx9, HX⟩ := hrel
    by_cases hlt : k < n
    · obtain ⟨ad, v, rfl, _, hv, _, hcell⟩ := h.at_ hlt
      rw [drop_of_get hv.out] at HX
      by_cases hr : v < 0 ∨ 9 ≤ v
      · have HR := Lib.hid ((HC.out.trans HX.out.symm).trans (chkGo_range hr))
        go_wp2
        all_goals go_ret
        all_goals exact ⟨ret_int HR.out.symm, rfl⟩
      have h0' : 0 ≤ v := by omega
      have h9' : v < 9 := by omega
      clear hr
      by_cases ho : x < v
      · have HR := Lib.hid ((HC.out.trans HX.out.symm).trans (chkGo_order h0' h9' ho))
        go_wp2
        all_goals go_ret
        all_goals exact ⟨ret_int HR.out.symm, rfl⟩
      by_cases he : v = x
      · subst he
        have HR := Lib.hid ((chkGo_new h0' h9').symm.trans HX.out)
        go_wp2
        go_round
        case rel => exact ⟨k + 1, _, by omega, by go_num, rfl, by omega, by omega, HR⟩
        case measure => simp [intOf]; omega
      · have HR := Lib.hid ((chkGo_old h0' h9' (by omega : v < x)).symm.trans HX.out)
        have g1 : (v == x) = false := by simpa using he
        clear he
        go_wp2
        go_round
        case rel => exact ⟨k + 1, _, by omega, by go_num, rfl, by omega, by omega, HR⟩
        case measure => simp [intOf]; omega
    · have HR : Hid (chk l = 0) := by
        have e := HX.out
        rw [List.drop_of_length_le (by have := HL.out; omega)] at e
        exact HC.out.trans e.symm
      go_wp2
      go_ret
      exact ⟨ret_int HR.out.symm, rfl⟩

set_option maxHeartbeats 400000 in
theorem refCheck_any (A : Option Addr) (n c : Nat) (l : List Int) (w : World) (h : RdI w A n l) :
    Calls Tryd.prog 38 #[.slice A n c] w fun e w' => e = .returned (.int .i64 (chk l)) ∧ w = w' := by
  have hlen := h.len
  have hbd := h.bd
  by_cases h0 : n = 0
  · have HC := Lib.hid (chk_short (l := l) (by omega)); clear hlen
    subst h0
    go_enter Tryd.func38, Tryd.ntmps38
    go_wp2
    go_ret
    exact ⟨ret_int HC.out.symm, rfl⟩
  by_cases h9 : 9 < n
  · have HC := Lib.hid (chk_full (l := l) (by omega)); clear hlen
    have g0 : ((n : Int) == 0) = false := by simp; omega
    go_enter Tryd.func38, Tryd.ntmps38
    go_wp2
    go_ret
    exact ⟨ret_int HC.out.symm, rfl⟩
  have HC := Lib.hid (chk_go (l := l) (by omega) (by omega))
  have HL := Lib.hid hlen; clear hlen
  have g0 : ((n : Int) == 0) = false := by simp; omega
  have g9 : (n : Int) ≤ 9 := by omega
  go_enter Tryd.func38, Tryd.ntmps38
  go_wp2
  go_loop [3, 4] (fun nx i => ∃ (k : Nat) (x : Int), k ≤ n ∧ i = .int .i64 k ∧ nx = .int .i64 x ∧ -1 ≤ x ∧ x ≤ 8 ∧ Hid (chkGo (x + 1) (l.drop k) = chkGo 0 l)) (fun _ i => n - (intOf i).toNat)
  case atStart => exact ⟨0, -1, by omega, rfl, rfl, by omega, by omega, rfl⟩
  case round =>
    obtain ⟨k, x, hk, rfl, rfl, hx0, hx9, HX⟩ := hrel
    by_cases hlt : k < n
    · obtain ⟨ad, v, rfl, _, hv, _, hcell⟩ := h.at_ hlt
      rw [drop_of_get hv.out] at HX
      by_cases hr : v < 0 ∨ 9 ≤ v
      · have HR := Lib.hid ((HC.out.trans HX.out.symm).trans (chkGo_range hr))
        go_wp2
        all_goals go_ret
        all_goals exact ⟨ret_int HR.out.symm, rfl⟩
      have h0' : 0 ≤ v := by omega
      have h9' : v < 9 := by omega
      clear hr
      by_cases ho : x + 1 < v
      · have HR := Lib.hid ((HC.out.trans HX.out.symm).trans (chkGo_order h0' h9' ho))
        go_wp2
        all_goals go_ret
        all_goals exact ⟨ret_int HR.out.symm, rfl⟩
      by_cases he : v = x + 1
      · subst he
        have HR := Lib.hid ((chkGo_new (r := l.drop (k + 1)) h0' h9').symm.trans HX.out)
        go_wp2
        go_round
        case rel => exact ⟨k + 1, x + 1, by omega, by go_num, rfl, by omega, by omega, HR⟩
        case measure => simp [intOf]; omega
      · have HR := Lib.hid ((chkGo_old h0' h9' (by omega : v < x + 1)).symm.trans HX.out)
        have hvx : v ≤ x := by omega
        clear he
        go_wp2
        go_round
        case rel => exact ⟨k + 1, x, by omega, by go_num, rfl, by omega, by omega, HR⟩
        case measure => simp [intOf]; omega
    · have HR : Hid (chk l = 0) := by
        have e := HX.out
        rw [List.drop_of_length_le (by have := HL.out; omega)] at e
        exact HC.out.trans e.symm
      go_wp2
      go_ret
      exact ⟨ret_int HR.out.symm, rfl⟩

/-- How many blocks. -/
def blk (l : List Int) : Int := l.foldl (fun n v => max n (v + 1)) 0
def Small (l : List Int) : Prop := ∀ v ∈ l, 0 ≤ v ∧ v ≤ 1000
theorem blk_take {l : List Int} {k : Nat} {v : Int} (h : l[k]? = some v) : blk (l.take (k + 1)) = max (blk (l.take k)) (v + 1) := by
  rw [take_of_get h]; simp [blk]
theorem foldl_max_bd (l : List Int) (hs : Small l) (a : Int) (h0 : 0 ≤ a) (ha : a ≤ 1001) : 0 ≤ l.foldl (fun n v => max n (v + 1)) a ∧ l.foldl (fun n v => max n (v + 1)) a ≤ 1001 := by
  induction l generalizing a with
  | nil => exact ⟨h0, ha⟩
  | cons x r ih =>
    have := hs x (by simp)
    exact ih (fun v hv => hs v (by simp [hv])) (max a (x + 1)) (by omega) (by omega)
theorem blk_bd {l : List Int} (hs : Small l) : 0 ≤ blk l ∧ blk l ≤ 1001 := foldl_max_bd l hs 0 (by omega) (by omega)
theorem Small.take {l : List Int} (hs : Small l) (k : Nat) : Small (l.take k) := fun v hv => hs v (List.mem_of_mem_take hv)
theorem Small.drop {l : List Int} (hs : Small l) (k : Nat) : Small (l.drop k) := fun v hv => hs v (List.mem_of_mem_drop hv)
theorem Small.get {l : List Int} (hs : Small l) {k : Nat} {v : Int} (h : l[k]? = some v) : 0 ≤ v ∧ v ≤ 1000 := hs v (List.mem_of_getElem? h)

set_option maxHeartbeats 400000 in
theorem refBlocks_any (A : Option Addr) (n c : Nat) (l : List Int) (w : World) (h : RdI w A n l) (hs : Small l) :
    Calls Tryd.prog 86 #[.slice A n c] w fun e w' => e = .returned (.int .i64 (blk l)) ∧ w = w' := by
  have HL := Lib.hid h.len
  have hbd := h.bd
  go_enter Tryd.func86, Tryd.ntmps86
  go_wp2
  go_loop [3, 4] (fun nx i => ∃ (k : Nat), k ≤ n ∧ i = .int .i64 k ∧ nx = .int .i64 (blk (l.take k))) (fun _ i => n - (intOf i).toNat)
  case atStart => exact ⟨0, by omega, rfl, rfl⟩
  case round =>
    obtain ⟨k, hk, rfl, rfl⟩ := hrel
    by_cases hlt : k < n
    · obtain ⟨ad, v, rfl, _, hv, _, hcell⟩ := h.at_ hlt
      have HB := Lib.hid (blk_take hv.out)
      obtain ⟨x, hx⟩ : ∃ x, x = blk (l.take k) := ⟨_, rfl⟩
      rw [← hx] at HB ⊢
      clear hx
      have hv1 := hs.get hv.out
      go_wp2
      go_round
      case rel => exact ⟨k + 1, by omega, by go_num, by rw [HB.out, int_max]⟩
      case measure => simp [intOf]; omega
    · have HR : Hid (blk (l.take k) = blk l) := by rw [List.take_of_length_le (by have := HL.out; omega)]; rfl
      go_wp2
      go_ret
      exact ⟨ret_int HR.out, rfl⟩

set_option maxHeartbeats 400000 in
theorem lawBlocks_any (A : Option Addr) (n c : Nat) (l : List Int) (w : World) (h : RdI w A n l) (hs : Small l) :
    Calls Tryd.prog 27 #[.slice A n c] w fun e w' => e = .returned (.int .i64 (blk l)) ∧ w = w' := by
  have HL := Lib.hid h.len
  have hbd := h.bd
  go_enter Tryd.func27, Tryd.ntmps27
  go_wp2
  go_loop [3, 4] (fun nx i => ∃ (k : Nat), k ≤ n ∧ i = .int .i64 k ∧ nx = .int .i64 (blk (l.take k))) (fun _ i => n - (intOf i).toNat)
  case atStart => exact ⟨0, by omega, rfl, rfl⟩
  case round =>
    obtain ⟨k, hk, rfl, rfl⟩ := hrel
    by_cases hlt : k < n
    · obtain ⟨ad, v, rfl, _, hv, _, hcell⟩ := h.at_ hlt
      have HB := Lib.hid (blk_take hv.out)
      obtain ⟨x, hx⟩ : ∃ x, x = blk (l.take k) := ⟨_, rfl⟩
      rw [← hx] at HB ⊢
      clear hx
      have hv1 := hs.get hv.out
      go_wp2
      go_round
      case rel => exact ⟨k + 1, by omega, by go_num, by rw [HB.out, int_max]⟩
      case measure => simp [intOf]; omega
    · have HR : Hid (blk (l.take k) = blk l) := by rw [List.take_of_length_le (by have := HL.out; omega)]; rfl
      go_wp2
      go_ret
      exact ⟨ret_int HR.out, rfl⟩

/-- slices.Max, of a list with a head. -/
def mx (a : Int) (l : List Int) : Int := l.foldl max a
theorem mx_snoc (a : Int) (l : List Int) (v : Int) : mx a (l ++ [v]) = max (mx a l) v := by simp [mx]
theorem blk_mx (a : Int) (r : List Int) (hs : Small (a :: r)) : blk (a :: r) = mx a r + 1 := by
  have key : ∀ (r : List Int) (x : Int), r.foldl (fun n v => max n (v + 1)) (x + 1) = mx x r + 1 := by
    intro r
    induction r with
    | nil => intro x; rfl
    | cons y r ih =>
      intro x
      show r.foldl (fun n v => max n (v + 1)) (max (x + 1) (y + 1)) = mx (max x y) r + 1
      rw [← ih]; congr 1; omega
  have h0 := (hs a (by simp)).1
  show r.foldl (fun n v => max n (v + 1)) (max 0 (a + 1)) = _
  rw [show max 0 (a + 1) = a + 1 by omega]
  exact key r a
theorem mx_mem_or (a : Int) (l : List Int) : mx a l = a ∨ mx a l ∈ l := by
  induction l generalizing a with
  | nil => exact .inl rfl
  | cons y r ih =>
    rcases ih (max a y) with h | h
    · have e : mx a (y :: r) = max a y := h
      rw [e]
      by_cases hay : a ≤ y
      · right; rw [Int.max_eq_right hay]; simp
      · left; omega
    · right; exact List.mem_cons_of_mem _ h

set_option maxHeartbeats 400000 in
theorem max_any (A : Option Addr) (n c : Nat) (a : Int) (l : List Int) (w : World) (h : RdI w A n (a :: l)) :
    Calls Tryd.prog 83 #[.slice A n c] w fun e w' => e = .returned (.int .i64 (mx a l)) ∧ w = w' := by
  have hlen := h.len
  have hbd := h.bd
  have hn : 1 ≤ n := by rw [← hlen]; simp
  obtain ⟨ad, v, rfl, _, hv, _, hcell⟩ := h.at_ (show 0 < n by omega)
  obtain rfl : a = v := by simpa using hv.out
  rw [Addr.add_zero'] at hcell
  have HL := Lib.hid hlen; clear hlen hv
  go_enter Tryd.func83, Tryd.ntmps83
  go_wp2
  go_loop [3, 4] (fun nx i => ∃ (k : Nat), 1 ≤ k ∧ k ≤ n ∧ i = .int .i64 k ∧ nx = .int .i64 (mx a (l.take (k - 1)))) (fun _ i => n - (intOf i).toNat)
  case atStart => exact ⟨1, by omega, by omega, rfl, rfl⟩
  case round =>
    obtain ⟨k, hk1, hk, rfl, rfl⟩ := hrel
    by_cases hlt : k < n
    · obtain ⟨ad', v, e, _, hv, _, hcell⟩ := h.at_ hlt
      injection e with e; subst e
      have HB : Hid (mx a (l.take k) = max (mx a (l.take (k - 1))) v) := by
        obtain ⟨j, rfl⟩ : ∃ j, k = j + 1 := ⟨k - 1, by omega⟩
        have hv' : l[j]? = some v := by simpa using hv.out
        show mx a (l.take (j + 1)) = _
        rw [take_of_get hv', mx_snoc]; rfl
      obtain ⟨x, hx⟩ : ∃ x, x = mx a (l.take (k - 1)) := ⟨_, rfl⟩
      rw [← hx] at HB ⊢
      clear hx
      go_wp2
      go_round
      case rel => exact ⟨k + 1, by omega, by omega, by go_num, by rw [Nat.add_sub_cancel, HB.out, int_max]⟩
      case measure => simp [intOf]; omega
    · have HR : Hid (mx a (l.take (k - 1)) = mx a l) := by rw [List.take_of_length_le (by have := HL.out; simp at this; omega)]; rfl
      go_wp2
      go_ret
      exact ⟨ret_int HR.out, rfl⟩

set_option maxHeartbeats 400000 in
theorem blocks_any (A : Option Addr) (n c : Nat) (l : List Int) (w : World) (h : RdI w A n l) (hs : Small l) (hn : 0 < n) :
    Calls Tryd.prog 81 #[.slice A n c] w fun e w' => e = .returned (.int .i64 (blk l)) ∧ w = w' := by
  cases l with
  | nil => have := h.len; simp at this; omega
  | cons a r =>
    have HB := Lib.hid (blk_mx a r hs)
    have hb := blk_bd hs
    have hb1 : mx a r ≤ 1000 := by have := HB.out; omega
    have hb2 : -1 ≤ mx a r := by have := HB.out; omega
    clear hb hs
    go_enter Tryd.func81, Tryd.ntmps81
    go_wp2_with (go_at_call 83; refine (max_any _ _ _ a r _ h).mono ?_; rintro e w' ⟨rfl, rfl⟩)
    go_ret
    exact ⟨ret_int HB.out.symm, rfl⟩

/-- the error of two partitions -/
def chk2 (a b : List Int) : Int := if chk a ≠ 0 then chk a else if chk b ≠ 0 then chk b else if a.length ≠ b.length then 12 else 0

set_option maxHeartbeats 400000 in
theorem both_any (A B : Option Addr) (n m c d : Nat) (l r : List Int) (w : World) (h1 : RdI w A n l) (h2 : RdI w B m r) :
    Calls Tryd.prog 80 #[.slice A n c, .slice B m d] w fun e w' => e = .returned (.int .i64 (chk2 l r)) ∧ w = w' := by
  have c1 := check_any A n c l w h1
  have c2 := check_any B m d r w h2
  have hn := h1.bd
  have hm := h2.bd
  obtain ⟨z, hz⟩ : ∃ z, z = chk2 l r := ⟨_, rfl⟩
  rw [← hz]
  unfold chk2 at hz
  rw [h1.len, h2.len] at hz
  generalize chk l = x1 at c1 hz
  generalize chk r = x2 at c2 hz
  have H1 := Lib.hid c1
  have H2 := Lib.hid c2
  clear c1 c2 h1 h2
  by_cases e1 : x1 = 0
  · subst e1
    by_cases e2 : x2 = 0
    · subst e2
      by_cases e3 : n = m
      · subst e3
        have HZ := Lib.hid (show z = 0 by rw [hz]; simp)
        clear hz
        go_enter Tryd.func80, Tryd.ntmps80
        go_wp2_with fail
        refine H1.out.mono ?_; rintro e w' ⟨rfl, rfl⟩
        go_wp2_with fail
        refine H2.out.mono ?_; rintro e w' ⟨rfl, rfl⟩
        go_wp2
        go_ret
        exact ⟨ret_int HZ.out.symm, rfl⟩
      · have HZ := Lib.hid (show z = 12 by rw [hz]; simp [e3])
        have g : ((n : Int) == m) = false := by simp; omega
        have g' : ((n : Int) != m) = true := by simp; omega
        clear hz
        go_enter Tryd.func80, Tryd.ntmps80
        go_wp2_with fail
        refine H1.out.mono ?_; rintro e w' ⟨rfl, rfl⟩
        go_wp2_with fail
        refine H2.out.mono ?_; rintro e w' ⟨rfl, rfl⟩
        go_wp2
        go_ret
        exact ⟨ret_int HZ.out.symm, rfl⟩
    · have HZ := Lib.hid (show z = x2 by rw [hz]; simp [e2])
      have g : (x2 == 0) = false := by simpa using e2
      have g' : (x2 != 0) = true := by simpa using e2
      clear hz e2
      go_enter Tryd.func80, Tryd.ntmps80
      go_wp2_with fail
      refine H1.out.mono ?_; rintro e w' ⟨rfl, rfl⟩
      go_wp2_with fail
      refine H2.out.mono ?_; rintro e w' ⟨rfl, rfl⟩
      go_wp2
      go_ret
      exact ⟨ret_int HZ.out.symm, rfl⟩
  · have HZ := Lib.hid (show z = x1 by rw [hz]; simp [e1])
    have g : (x1 == 0) = false := by simpa using e1
    have g' : (x1 != 0) = true := by simpa using e1
    clear hz e1
    go_enter Tryd.func80, Tryd.ntmps80
    go_wp2_with fail
    refine H1.out.mono ?_; rintro e w' ⟨rfl, rfl⟩
    go_wp2
    go_ret
    exact ⟨ret_int HZ.out.symm, rfl⟩

set_option maxHeartbeats 400000 in
theorem refBoth_any (A B : Option Addr) (n m c d : Nat) (l r : List Int) (w : World) (h1 : RdI w A n l) (h2 : RdI w B m r) :
    Calls Tryd.prog 84 #[.slice A n c, .slice B m d] w fun e w' => e = .returned (.int .i64 (chk2 l r)) ∧ w = w' := by
  have c1 := refCheck_any A n c l w h1
  have c2 := refCheck_any B m d r w h2
  have hn := h1.bd
  have hm := h2.bd
  obtain ⟨z, hz⟩ : ∃ z, z = chk2 l r := ⟨_, rfl⟩
  rw [← hz]
  unfold chk2 at hz
  rw [h1.len, h2.len] at hz
  generalize chk l = x1 at c1 hz
  generalize chk r = x2 at c2 hz
  have H1 := Lib.hid c1
  have H2 := Lib.hid c2
  clear c1 c2 h1 h2
  by_cases e1 : x1 = 0
  · subst e1
    by_cases e2 : x2 = 0
    · subst e2
      by_cases e3 : n = m
      · subst e3
        have HZ := Lib.hid (show z = 0 by rw [hz]; simp)
        clear hz
        go_enter Tryd.func84, Tryd.ntmps84
        go_wp2_with fail
        refine H1.out.mono ?_; rintro e w' ⟨rfl, rfl⟩
        go_wp2_with fail
        refine H2.out.mono ?_; rintro e w' ⟨rfl, rfl⟩
        go_wp2
        go_ret
        exact ⟨ret_int HZ.out.symm, rfl⟩
      · have HZ := Lib.hid (show z = 12 by rw [hz]; simp [e3])
        have g : ((n : Int) == m) = false := by simp; omega
        have g' : ((n : Int) != m) = true := by simp; omega
        clear hz
        go_enter Tryd.func84, Tryd.ntmps84
        go_wp2_with fail
        refine H1.out.mono ?_; rintro e w' ⟨rfl, rfl⟩
        go_wp2_with fail
        refine H2.out.mono ?_; rintro e w' ⟨rfl, rfl⟩
        go_wp2
        go_ret
        exact ⟨ret_int HZ.out.symm, rfl⟩
    · have HZ := Lib.hid (show z = x2 by rw [hz]; simp [e2])
      have g : (x2 == 0) = false := by simpa using e2
      have g' : (x2 != 0) = true := by simpa using e2
      clear hz e2
      go_enter Tryd.func84, Tryd.ntmps84
      go_wp2_with fail
      refine H1.out.mono ?_; rintro e w' ⟨rfl, rfl⟩
      go_wp2_with fail
      refine H2.out.mono ?_; rintro e w' ⟨rfl, rfl⟩
      go_wp2
      go_ret
      exact ⟨ret_int HZ.out.symm, rfl⟩
  · have HZ := Lib.hid (show z = x1 by rw [hz]; simp [e1])
    have g : (x1 == 0) = false := by simpa using e1
    have g' : (x1 != 0) = true := by simpa using e1
    clear hz e1
    go_enter Tryd.func84, Tryd.ntmps84
    go_wp2_with fail
    refine H1.out.mono ?_; rintro e w' ⟨rfl, rfl⟩
    go_wp2
    go_ret
    exact ⟨ret_int HZ.out.symm, rfl⟩
end Go.Proofs.YtooepkpgffpcjaaDoor
