/- Walks: marks: what is written, what is right, how often a number is there, and whether a scoring may be. -/
import Derived.Test.YtcmacejpoihhlaaMgC
import Derived.Test.YtcmacejpoihhlaaMgB
import Derived.Test.YtcmacejpoihhlaaMgG
import Derived.Test.YtcmacejpoihhlaaMgP
namespace Go.Proofs.Ytcmacejpoihhlaa
open Go.RowKit

set_option maxHeartbeats 400000 in
theorem withinSc_any (n lo hi : Int) (w : World) : Calls Try.prog 134 #[.int .i64 n, .int .i64 lo, .int .i64 hi] w fun e w' => e = .returned (.bool (decide (lo ≤ n) && decide (n ≤ hi))) ∧ w' = w := by
  by_cases h : lo ≤ n
  · have g : decide (lo ≤ n) = true := decide_eq_true h
    go_enter Try.func134, Try.ntmps134
    go_wp2
    go_ret
    exact ⟨ret_bool (by rw [g, Bool.true_and]), rfl⟩
  · have g : decide (lo ≤ n) = false := decide_eq_false h
    go_enter Try.func134, Try.ntmps134
    go_wp2
    go_ret
    exact ⟨ret_bool (by simp), rfl⟩

set_option maxHeartbeats 400000 in
/-- something is written for the packet -/
theorem hasS_any (A B : Option Addr) (n c m d : Nat) (a : List Int) (i : Nat) (w : World) (h2 : RdI w B m a) (hi : i < m) (hp : ∀ v ∈ a, 0 ≤ v) :
    Calls Try.prog 135 #[.agg #[.slice A n c, .slice B m d], .int .i64 i] w fun e w' => e = .returned (.bool true) ∧ Below w.heap.size w w' := by
  go_enter Try.func135, Try.ntmps135
  go_upto_region 1 with fail
  have HR := Lib.hid (h2.alloc (.cells #[.slice A n c, .slice B m d] 130))
  have HB := Lib.hid ((Below.refl _ w).alloc (Nat.le_refl _) (.cells #[.slice A n c, .slice B m d] 130))
  have HX := Lib.hid (Blk.new w 130 #[.slice A n c, .slice B m d])
  generalize w.alloc (.cells #[.slice A n c, .slice B m d] 130) = W at HR HB HX ⊢
  have c1 : W.cell? ⟨w.heap.size, 1, none⟩ = some (.slice B m d) := by rw [HX.out.cell]; rfl
  obtain ⟨ad, v, rfl, _, hv, _, hc⟩ := HR.out.at_ hi
  have hv0 := hp v (List.mem_of_getElem? hv.out)
  have hiI : (i : Int) < m := by omega
  clear hp h2
  go_wp2
  go_ret
  exact ⟨rfl, HB.out⟩

set_option maxHeartbeats 1000000 in
theorem rightS_any (A B : Option Addr) (n c m d : Nat) (t a : List Int) (i k : Nat) (w : World) (h1 : RdI w A n t) (h2 : RdI w B m a) (hi : i < m) (hk : k < m) (hi2 : i < n) (hk2 : k < n) :
    Calls Try.prog 136 #[.agg #[.slice A n c, .slice B m d], .int .i64 i, .int .i64 k] w fun e w' => e = .returned (.bool (okP t a i k)) ∧ Below w.heap.size w w' := by
  go_enter Try.func136, Try.ntmps136
  go_upto_region 1 with fail
  have HT := Lib.hid (h1.alloc (.cells #[.slice A n c, .slice B m d] 130))
  have HR := Lib.hid (h2.alloc (.cells #[.slice A n c, .slice B m d] 130))
  have HB := Lib.hid ((Below.refl _ w).alloc (Nat.le_refl _) (.cells #[.slice A n c, .slice B m d] 130))
  have HX := Lib.hid (Blk.new w 130 #[.slice A n c, .slice B m d])
  generalize w.alloc (.cells #[.slice A n c, .slice B m d] 130) = W at HT HR HB HX ⊢
  have c0 : W.cell? ⟨w.heap.size, 0, none⟩ = some (.slice A n c) := by rw [HX.out.cell]; rfl
  have c1 : W.cell? ⟨w.heap.size, 1, none⟩ = some (.slice B m d) := by rw [HX.out.cell]; rfl
  obtain ⟨ad, v, rfl, _, hv, _, hc2⟩ := HR.out.at_ hi
  obtain ⟨ad', u, e, _, hu, _, hc3⟩ := HR.out.at_ hk
  injection e with e; subst e
  obtain ⟨bd, x, rfl, _, hx, _, hc4⟩ := HT.out.at_ hi2
  obtain ⟨bd', y, e, _, hy, _, hc5⟩ := HT.out.at_ hk2
  injection e with e; subst e
  have HV : Hid (okP t a i k = ((v == u) == (x == y))) := Lib.hid (by unfold okP; rw [getD_of_get hv.out, getD_of_get hu.out, getD_of_get hx.out, getD_of_get hy.out])
  have hiI : (i : Int) < m := by omega
  have hkI : (k : Int) < m := by omega
  have hiI2 : (i : Int) < n := by omega
  have hkI2 : (k : Int) < n := by omega
  clear hv hu hx hy h1 h2
  obtain ⟨p, hp⟩ : ∃ p, (v == u) = p := ⟨_, rfl⟩
  obtain ⟨q, hq⟩ : ∃ q, (x == y) = q := ⟨_, rfl⟩
  rw [hp, hq] at HV
  cases p <;> cases q
  all_goals
    go_quiet (fail)
    go_wp2
    go_ret
    exact ⟨ret_bool HV.out.symm, below_drewN HB.out _⟩

set_option maxHeartbeats 400000 in
theorem countS_any (A : Option Addr) (n c : Nat) (l : List Int) (x : Int) (w : World) (h : RdI w A n l) (hn : n ≤ 1000) : Calls Try.prog 137 #[.slice A n c, .int .i64 x] w (Num (occ l x) w) := by
  have hlen := h.len
  have HL := Lib.hid hlen
  clear hlen
  go_enter Try.func137, Try.ntmps137
  go_wp2
  go_loop [5, 10] (fun s i => ∃ k : Nat, k ≤ n ∧ i = .int .i64 k ∧ s = .int .i64 (occ (l.take k) x)) (fun _ i => n - (intOf i).toNat)
  case atStart => exact ⟨0, by omega, rfl, rfl⟩
  case round =>
    obtain ⟨k, hk, rfl, rfl⟩ := hrel
    have hs : 0 ≤ occ (l.take k) x ∧ occ (l.take k) x ≤ k := by
      unfold occ
      have h1 := List.count_le_length (a := x) (l := l.take k)
      have h2 : (l.take k).length ≤ k := List.length_take_le _ _
      omega
    obtain ⟨s, hse⟩ : ∃ s, occ (l.take k) x = s := ⟨_, rfl⟩
    rw [hse] at hs ⊢
    by_cases hlt : k < n
    · obtain ⟨ad, v, rfl, _, hv, _, hcell⟩ := h.at_ hlt
      by_cases hvx : v = x
      · subst hvx
        have HT : Hid (occ (l.take (k + 1)) v = s + 1) := Lib.hid (by rw [take_of_get hv.out, ← hse]; unfold occ; rw [List.count_append]; simp)
        clear hse
        go_wp2
        go_round
        case rel => exact ⟨k + 1, by omega, by go_num, by rw [HT.out]⟩
        case measure => simp [intOf]; omega
      · have HT : Hid (occ (l.take (k + 1)) x = s) := Lib.hid (by rw [take_of_get hv.out, ← hse]; unfold occ; rw [List.count_append, List.count_cons_of_ne hvx]; simp)
        have g : (v == x) = false := by simpa using hvx
        clear hse hvx
        go_wp2
        go_round
        case rel => exact ⟨k + 1, by omega, by go_num, by rw [HT.out]⟩
        case measure => simp [intOf]; omega
    · have HT : Hid (occ l x = s) := Lib.hid (by rw [← hse, List.take_of_length_le (by rw [HL.out]; omega)])
      clear hse
      go_wp2
      go_ret
      exact ⟨ret_int HT.out.symm, rfl⟩

set_option maxHeartbeats 400000 in
/-- an answer that may be -/
theorem writtenS_any (A : Option Addr) (n c : Nat) (l : List Int) (w : World) (h : RdI w A n l) (hn : n ≤ 1000) (hp : ∀ v ∈ l, 0 ≤ v ∧ v ≤ 8) : Calls Try.prog 114 #[.slice A n c, .int .i64 n] w (Num 0 w) := by
  have HP := Lib.hid hp
  clear hp
  go_enter Try.func114, Try.ntmps114
  go_wp2
  go_loop [13] (fun i => ∃ k : Nat, k ≤ n ∧ i = .int .i64 k) (fun i => n - (intOf i).toNat)
  case atStart => exact ⟨0, by omega, rfl⟩
  case round =>
    obtain ⟨k, hk, rfl⟩ := hrel
    by_cases hlt : k < n
    · obtain ⟨ad, v, rfl, _, hv, _, hcell⟩ := h.at_ hlt
      have hv2 := HP.out v (List.mem_of_getElem? hv.out)
      have HW := Lib.hid (within_yes (lo := -1) (n := v) (hi := 8) (by omega) (by omega))
      go_wp2_with fail
      refine (withinSc_any v (-1) 8 w).mono ?_; rintro e w' ⟨rfl, rfl⟩
      rw [HW.out]
      go_wp2
      go_round
      case rel => exact ⟨k + 1, by omega, by go_num⟩
      case measure => simp [intOf]; omega
    · go_wp2
      go_ret
      exact ⟨rfl, rfl⟩

/-- a scoring that may be -/
structure Scoring where
  p1 : Int
  p2 : Int
  p3 : Int
  p4 : Int
  p5 : Int
  keys : List Int
def Scoring.ok (s : Scoring) : Prop := ((0 ≤ s.p1 ∧ s.p1 ≤ 1000) ∧ (0 ≤ s.p2 ∧ s.p2 ≤ 1000) ∧ (0 ≤ s.p3 ∧ s.p3 ≤ 1000) ∧ (0 ≤ s.p4 ∧ s.p4 ≤ 1000) ∧ (0 ≤ s.p5 ∧ s.p5 ≤ 1000)) ∧ s.keys.length ≤ 6 ∧ (∀ k ∈ s.keys, 1 ≤ k ∧ k ≤ 6) ∧ s.keys.Nodup
def scCells (s : Scoring) (A : Option Addr) (n c : Nat) : Array Value := #[.int .i64 s.p1, .int .i64 s.p2, .int .i64 s.p3, .int .i64 s.p4, .int .i64 s.p5, .slice A n c]
theorem nodup_new {l : List Int} (h : l.Nodup) {k : Nat} {v : Int} (hv : l[k]? = some v) : hasI (l.take k) v = false := by
  unfold hasI
  rw [decide_eq_false_iff_not]
  intro hm
  obtain ⟨j, hj, e⟩ := List.getElem_of_mem hm
  have hjk : j < k := by simp at hj; omega
  have e2 : l[j]? = some v := by
    rw [List.getElem_take] at e
    rw [← e]; exact List.getElem?_eq_getElem _
  have := (List.getElem?_inj (by have := (List.getElem?_eq_some_iff.1 e2).1; exact this) h).1 (e2.trans hv.symm)
  omega

set_option maxHeartbeats 2000000 in
set_option maxRecDepth 100000 in
theorem checkSc_any (s : Scoring) (A : Option Addr) (n c : Nat) (w : World) (h : RdI w A n s.keys) (hs : s.ok) (hc : n ≤ c) : Calls Try.prog 113 #[.agg (scCells s A n c)] w (NumM 0 w) := by
  have hlen := h.len
  obtain ⟨⟨⟨a1, b1⟩, ⟨a2, b2⟩, ⟨a3, b3⟩, ⟨a4, b4⟩, ⟨a5, b5⟩⟩, hk6, hkk, hnd⟩ := hs
  have HF : Hid (∀ k : Nat, k < 5 → ∃ v : Int, 0 ≤ v ∧ v ≤ 1000 ∧ ∀ w, (Instr.index 145 (.agg #[.int .i64 s.p1, .int .i64 s.p2, .int .i64 s.p3, .int .i64 s.p4, .int .i64 s.p5]) (.int .i64 (k : Int))).run Try.prog w = .ok (.int .i64 v) w) := Lib.hid (by
    intro k hk
    match k, hk with
    | 0, _ => exact ⟨s.p1, a1, b1, fun _ => by kernel_rfl⟩
    | 1, _ => exact ⟨s.p2, a2, b2, fun _ => by kernel_rfl⟩
    | 2, _ => exact ⟨s.p3, a3, b3, fun _ => by kernel_rfl⟩
    | 3, _ => exact ⟨s.p4, a4, b4, fun _ => by kernel_rfl⟩
    | 4, _ => exact ⟨s.p5, a5, b5, fun _ => by kernel_rfl⟩)
  unfold scCells
  have hn6 : n ≤ 6 := by omega
  have HKK := Lib.hid hkk
  have HND := Lib.hid hnd
  have HLN := Lib.hid hlen
  clear hlen hkk hnd hk6
  go_enter Try.func113, Try.ntmps113
  go_upto_region 1 with fail
  have HA := Lib.hid (h.alloc (.cells #[.int .i64 s.p1, .int .i64 s.p2, .int .i64 s.p3, .int .i64 s.p4, .int .i64 s.p5, .slice A n c] 79))
  have HB := Lib.hid ((Below.refl _ w).alloc (Nat.le_refl _) (.cells #[.int .i64 s.p1, .int .i64 s.p2, .int .i64 s.p3, .int .i64 s.p4, .int .i64 s.p5, .slice A n c] 79))
  have HX := Lib.hid (Blk.new w 79 #[.int .i64 s.p1, .int .i64 s.p2, .int .i64 s.p3, .int .i64 s.p4, .int .i64 s.p5, .slice A n c])
  generalize w.alloc (.cells #[.int .i64 s.p1, .int .i64 s.p2, .int .i64 s.p3, .int .i64 s.p4, .int .i64 s.p5, .slice A n c] 79) = W at HA HB HX ⊢
  have c0 : W.cell? ⟨w.heap.size, 0, none⟩ = some (.int .i64 s.p1) := by rw [HX.out.cell]; rfl
  have c1 : W.cell? ⟨w.heap.size, 1, none⟩ = some (.int .i64 s.p2) := by rw [HX.out.cell]; rfl
  have c2 : W.cell? ⟨w.heap.size, 2, none⟩ = some (.int .i64 s.p3) := by rw [HX.out.cell]; rfl
  have c3 : W.cell? ⟨w.heap.size, 3, none⟩ = some (.int .i64 s.p4) := by rw [HX.out.cell]; rfl
  have c4 : W.cell? ⟨w.heap.size, 4, none⟩ = some (.int .i64 s.p5) := by rw [HX.out.cell]; rfl
  have c5 : W.cell? ⟨w.heap.size, 5, none⟩ = some (.slice A n c) := by rw [HX.out.cell]; rfl
  clear h HX
  go_wp2_with fail
  go_loop [18] (fun i => ∃ k : Nat, k ≤ 5 ∧ i = .int .i64 k) (fun i => 5 - (intOf i).toNat)
  case atStart => exact ⟨0, by omega, rfl⟩
  case round =>
    obtain ⟨k, hk, rfl⟩ := hrel
    by_cases hlt : k < 5
    · obtain ⟨v, hv0, hv1, hix⟩ := HF.out k hlt
      have HW := Lib.hid (within_yes (lo := 0) (n := v) (hi := 1000) hv0 hv1)
      have hltI : (k : Int) < 5 := by omega
      go_wp2_with fail
      refine (withinSc_any v 0 1000 W).mono ?_; rintro e w' ⟨rfl, rfl⟩
      rw [HW.out]
      go_wp2
      go_round
      case rel => exact ⟨k + 1, by omega, by go_num⟩
      case measure => simp [intOf]; omega
    · have hgt : (5 : Int) ≤ k := by omega
      have hn6I : (n : Int) ≤ 6 := by omega
      go_wp2_with fail
      go_loop [32] (fun i => ∃ k : Nat, k ≤ n ∧ i = .int .i64 k) (fun i => n - (intOf i).toNat)
      case atStart => exact ⟨0, by omega, rfl⟩
      case round =>
        obtain ⟨j, hj, rfl⟩ := hrel
        by_cases hjn : j < n
        · obtain ⟨ad, v, rfl, _, hv, _, hcell⟩ := HA.out.at_ hjn
          have hv6 := HKK.out v (List.mem_of_getElem? hv.out)
          have HW := Lib.hid (within_yes (lo := 1) (n := v) (hi := 6) hv6.1 hv6.2)
          have HH := Lib.hid (nodup_new HND.out hv.out)
          have HT := Lib.hid (HA.out.take_ (show j ≤ n by omega))
          have hjc : (j : Int) ≤ c := by omega
          have hj0 : (0 : Int) ≤ j := by omega
          go_wp2_with fail
          refine (withinSc_any v 1 6 W).mono ?_; rintro e w' ⟨rfl, rfl⟩
          rw [HW.out]
          go_wp2_with fail
          refine (contains_any (some ad) j c (s.keys.take j) v _ HT.out (by omega)).mono ?_; rintro e w' ⟨rfl, rfl⟩
          rw [HH.out]
          go_wp2
          go_round
          case rel => exact ⟨j + 1, by omega, by go_num⟩
          case measure => simp [intOf]; omega
        · go_wp2
          go_ret
          exact ⟨rfl, HB.out⟩
end Go.Proofs.Ytcmacejpoihhlaa
