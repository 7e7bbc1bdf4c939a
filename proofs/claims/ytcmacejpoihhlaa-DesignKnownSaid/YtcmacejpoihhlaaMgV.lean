/- Plain law: the chapter's examples of stocks and of orders. Walk: the chapter's examples of orders. Walk: the chapter's examples of counting and of the fairest counts. -/
import Derived.Test.YtcmacejpoihhlaaMgS
import Derived.Test.YtcmacejpoihhlaaMgP
import Derived.Test.YtcmacejpoihhlaaMgT
import Derived.Test.YtcmacejpoihhlaaMgU
namespace Go.Proofs.Ytcmacejpoihhlaa
open Go.RowKit

theorem kn_fair3 : fairO 3 [[0, 1, 2], [1, 2, 0]] = (1, 2, 0) := by decide +kernel
theorem kn_fair2 : fairO 2 [[0, 1], [1, 0]] = (0, 0, 0) := by decide +kernel
theorem kn_turn : turnE 3 [[0, 1, 2]] = ([1, 2, 0], 0) := by decide +kernel
theorem kn_rest0 : restE [2, 2] 3 [] = ([0, 1], 0, 0) := by decide +kernel
theorem kn_rest1 : restE [2, 2] 3 [0, 0] = ([1], 1, 0) := by decide +kernel
theorem kn_rest2 : restE [2, 2] 3 [0, 1] = ([0, 1], 0, 0) := by decide +kernel
theorem kn_rest3 : (restE [2, 2] 3 [0, 0, 0]).2.2 = 14 := by decide +kernel
theorem kn_cnt0 : countedE [2, 2] 3 = (3, 1, 0) := by decide +kernel
theorem kn_cnt1 : countedE [3, 1] 4 = (3, 3, 0) := by decide +kernel
theorem kn_cnt2 : countedE [5] 2 = (1, 2, 0) := by decide +kernel
theorem kn_cnt3 : countedE [2, 2] 2 = (2, 0, 0) := by decide +kernel
theorem kn_fst : fairE [4, 4] 4 2 = ([1, 3], 6, 12, 0) := by decide +kernel
theorem kn_fst2 : (fairE [1, 1] 3 2).2.2.2 = 7 := by decide +kernel
theorem kn_chk : chkS [2, 2] 3 = 0 := by decide +kernel
theorem kn_chk1 : chkS [] 3 = 6 := by decide +kernel
theorem kn_chk2 : chkS [2, 0] 3 = 2 := by decide +kernel
theorem kn_chk3 : chkS [2, 2] 5 = 2 := by decide +kernel
theorem kn_ways1 : waysE [3, 1] 4 = (24, 0) := by decide +kernel
theorem kn_ways2 : waysE [9, 9, 9, 9, 9, 9] 9 = (1929772710028800, 0) := by decide +kernel
theorem kn_ch1 : chanceE [2, 2] 3 [0, 0, 1] = (8, 0) := by decide +kernel
theorem kn_ch2 : chanceE [2, 2] 3 [0, 0, 0] = (0, 0) := by decide +kernel
theorem kn_ch3 : (chanceE [2, 2] 3 [0, 1]).2 = 3 := by decide +kernel
theorem kn_gs1 : guessE [2, 2] 3 = ([0, 0, 1], 8, 0) := by decide +kernel
theorem kn_gs2 : guessE [3, 1] 4 = ([0, 0, 0, 1], 6, 0) := by decide +kernel
end Go.Proofs.Ytcmacejpoihhlaa

namespace Go.Proofs.Ytcmacejpoihhlaa
open Go.RowKit

/-- a slice of rows, laid as a literal -/
theorem rdL_lit (w : World) (t : TypeId) (cs : Array Value) (k : Nat) (ll : List (List Int)) (hc : cs.size = k) (hl : ll.length = k) (hk : k ≤ 1000) (hv : ∀ (j : Nat) v, cs.toList[j]? = some v → ∃ B m d l, v = .slice B m d ∧ ll[j]? = some l ∧ RdI w B m l) :
    RdL (w.alloc (.cells cs t)) (some ⟨w.heap.size, 0, none⟩) k ll := by
  refine ⟨cs.toList, (Own.lit w t cs k (by omega) hc 0 (by omega)).rd, hl, fun j v hj => ?_⟩
  obtain ⟨B, m, d, l, e, h1, h2⟩ := hv j v hj
  exact ⟨B, m, d, l, e, h1, h2.alloc _⟩
theorem rdI_lit (w : World) (t : TypeId) (l : List Int) (n : Nat) (hn : n ≤ 1000) (hl : l.length = n) (hi : ∀ v ∈ l, I64 v) : RdI (w.alloc (.cells (ints l).toArray t)) (some ⟨w.heap.size, 0, none⟩) n l := (OwnI.lit w t l n (by omega) hl 0 (by omega) hi).rd
theorem two_rows {w : World} {B C : Option Addr} {m n : Nat} {a b : List Int} (ha : RdI w B m a) (hb : RdI w C n b) (t : TypeId) : RdL (w.alloc (.cells #[.slice B m m, .slice C n n] t)) (some ⟨w.heap.size, 0, none⟩) 2 [a, b] :=
  rdL_lit w t _ 2 [a, b] rfl rfl (by omega) fun j v hj => by
    match j, hj with
    | 0, hj => injection hj with hj; subst hj; exact ⟨B, m, m, a, rfl, rfl, ha⟩
    | 1, hj => injection hj with hj; subst hj; exact ⟨C, n, n, b, rfl, rfl, hb⟩
    | j + 2, hj => simp at hj
theorem one_row {w : World} {B : Option Addr} {m : Nat} {a : List Int} (ha : RdI w B m a) (t : TypeId) : RdL (w.alloc (.cells #[.slice B m m] t)) (some ⟨w.heap.size, 0, none⟩) 1 [a] :=
  rdL_lit w t _ 1 [a] rfl rfl (by omega) fun j v hj => by
    match j, hj with
    | 0, hj => injection hj with hj; subst hj; exact ⟨B, m, m, a, rfl, rfl, ha⟩
    | j + 1, hj => simp at hj

set_option maxHeartbeats 2000000 in
set_option maxRecDepth 100000 in
theorem seated_any (w : World) : Calls Try.prog 71 #[] w fun e w' => e = .returned (.bool true) ∧ Below w.heap.size w w' := by
  go_enter Try.func71, Try.ntmps71
  go_wp2_with fail
  have a1 := (rdI_lit w 3 [0, 1, 2] 3 (by omega) rfl (by simp [I64])).alloc (.cells (ints [1, 2, 0]).toArray 3)
  have a2 := rdI_lit (w.alloc (.cells (ints [0, 1, 2]).toArray 3)) 3 [1, 2, 0] 3 (by omega) rfl (by simp [I64])
  have hsz : (w.alloc (.cells (ints [0, 1, 2]).toArray 3)).heap.size = w.heap.size + 1 := by simp
  rw [hsz] at a2
  have a3 := two_rows a1 a2 22
  have hsz2 : ((w.alloc (.cells (ints [0, 1, 2]).toArray 3)).alloc (.cells (ints [1, 2, 0]).toArray 3)).heap.size = w.heap.size + 1 + 1 := by simp
  rw [hsz2] at a3
  have b1 := (((Below.refl _ w).alloc (Nat.le_refl _) (.cells (ints [0, 1, 2]).toArray 3)).alloc (by simp) (.cells (ints [1, 2, 0]).toArray 3)).alloc (by simp; omega) (.cells #[.slice (some ⟨w.heap.size, 0, none⟩) 3 3, .slice (some ⟨w.heap.size + 1, 0, none⟩) 3 3] 22)
  have A3 := Lib.hid a3
  have B1 := Lib.hid b1
  clear a1 a2 a3 b1 hsz hsz2
  refine (fairPr_any _ 2 2 [[0, 1, 2], [1, 2, 0]] 3 _ A3.out (by simp [I64])).mono ?_; rintro e w1 ⟨rfl, b⟩
  have B2 := Lib.hid (B1.out.trans (b.mono B1.out.size))
  rw [kn_fair3]
  simp only
  clear A3 B1 b
  go_wp2_with fail
  have a1 := (rdI_lit w1 3 [0, 1] 2 (by omega) rfl (by simp [I64])).alloc (.cells (ints [1, 0]).toArray 3)
  have a2 := rdI_lit (w1.alloc (.cells (ints [0, 1]).toArray 3)) 3 [1, 0] 2 (by omega) rfl (by simp [I64])
  have hsz : (w1.alloc (.cells (ints [0, 1]).toArray 3)).heap.size = w1.heap.size + 1 := by simp
  rw [hsz] at a2
  have a3 := two_rows a1 a2 22
  have hsz2 : ((w1.alloc (.cells (ints [0, 1]).toArray 3)).alloc (.cells (ints [1, 0]).toArray 3)).heap.size = w1.heap.size + 1 + 1 := by simp
  rw [hsz2] at a3
  have hb2 := B2.out.size
  have b1 := ((B2.out.alloc hb2 (.cells (ints [0, 1]).toArray 3)).alloc (by simp; omega) (.cells (ints [1, 0]).toArray 3)).alloc (by simp; omega) (.cells #[.slice (some ⟨w1.heap.size, 0, none⟩) 2 2, .slice (some ⟨w1.heap.size + 1, 0, none⟩) 2 2] 22)
  have A3 := Lib.hid a3
  have B1 := Lib.hid b1
  clear a1 a2 a3 b1 hsz hsz2 hb2
  refine (fairPr_any _ 2 2 [[0, 1], [1, 0]] 2 _ A3.out (by simp [I64])).mono ?_; rintro e w2 ⟨rfl, b⟩
  have B3 := Lib.hid (B1.out.trans (b.mono B1.out.size))
  rw [kn_fair2]
  simp only
  clear A3 B1 B2 b
  go_wp2_with fail
  have a1 := rdI_lit w2 3 [0, 1, 2] 3 (by omega) rfl (by simp [I64])
  have a3 := one_row a1 22
  have hsz : (w2.alloc (.cells (ints [0, 1, 2]).toArray 3)).heap.size = w2.heap.size + 1 := by simp
  rw [hsz] at a3
  have hb2 := B3.out.size
  have b1 := (B3.out.alloc hb2 (.cells (ints [0, 1, 2]).toArray 3)).alloc (by simp; omega) (.cells #[.slice (some ⟨w2.heap.size, 0, none⟩) 3 3] 22)
  have A3 := Lib.hid a3
  have B1 := Lib.hid b1
  clear a1 a3 b1 hsz hb2
  refine (turnP_any _ 1 1 [[0, 1, 2]] 3 _ A3.out (by simp [I64])).mono ?_; rintro e w3 ⟨A4, c4, rfl, h4, b⟩
  rw [kn_turn] at h4 ⊢
  simp only [List.length_cons, List.length_nil, Nat.reduceAdd] at h4 ⊢
  have B4 := Lib.hid (B1.out.trans (b.mono B1.out.size))
  have H4 := Lib.hid h4.rd
  clear A3 B1 B3 b h4
  go_wp2_with fail
  have HL := Lib.hid (rdI_lit w3 3 [1, 2, 0] 3 (by omega) rfl (by simp [I64]))
  have H45 := Lib.hid (H4.out.alloc (.cells (ints [1, 2, 0]).toArray 3))
  have B5 := Lib.hid (B4.out.alloc B4.out.size (.cells (ints [1, 2, 0]).toArray 3))
  refine (eq_any A4 (some ⟨w3.heap.size, 0, none⟩) 3 3 c4 3 [1, 2, 0] [1, 2, 0] (w3.alloc (.cells (ints [1, 2, 0]).toArray 3)) H45.out HL.out).mono ?_; rintro e w' ⟨rfl, d1, rfl⟩
  rw [beq_self_eq_true]
  go_wp2
  go_ret
  exact ⟨rfl, below_drewN B5.out _⟩
end Go.Proofs.Ytcmacejpoihhlaa

namespace Go.Proofs.Ytcmacejpoihhlaa
open Go.RowKit

set_option maxHeartbeats 1000000 in
theorem oneS_any (w : World) : Calls Try.prog 69 #[] w (Stocked [3, 1] 4 w) := by
  go_enter Try.func69, Try.ntmps69
  go_wp2
  have hx := (Blk.new w 24 #[.slice (some ⟨w.heap.size + 1, 0, none⟩) 2 2, .int .i64 4]).alloc (.cells #[.int .i64 3, .int .i64 1] 3)
  have hr := (OwnI.lit (w.alloc (.cells #[.slice (some ⟨w.heap.size + 1, 0, none⟩) 2 2, .int .i64 4] 24)) 3 [3, 1] 2 (by omega) rfl (w.heap.size + 1) (by simp) (by simp [I64])).rd
  rw [show (w.alloc (.cells #[.slice (some ⟨w.heap.size + 1, 0, none⟩) 2 2, .int .i64 4] 24)).heap.size = w.heap.size + 1 by simp] at hr
  have hb : Below w.heap.size w ((w.alloc (.cells #[.slice (some ⟨w.heap.size + 1, 0, none⟩) 2 2, .int .i64 4] 24)).alloc (.cells #[.int .i64 3, .int .i64 1] 3)) := ((Below.refl _ w).alloc (Nat.le_refl _) _).alloc (by simp) _
  exact bodyPost_ret (v := .agg #[.slice (some ⟨w.heap.size + 1, 0, none⟩) 2 2, .int .i64 4]) (results_cell_row rfl _ _ w.heap.size 24 _ (0, 0) _ rfl hx Try.underlying24 rfl (by kernel_rfl)) rfl ⟨_, rfl, hr, hb⟩

theorem add0 (q j : Nat) : (⟨q, 0, none⟩ : Addr).add j = ⟨q, j, none⟩ := by unfold Addr.add; split <;> simp_all
theorem RdL.cell0 {w : World} {q n k : Nat} {ll : List (List Int)} (h : RdL w (some ⟨q, 0, none⟩) n ll) (hk : k < n) : ∃ B m d l, ll[k]? = some l ∧ RdI w B m l ∧ w.cell? ⟨q, k, none⟩ = some (.slice B m d) ∧ q < w.heap.size := by
  obtain ⟨ad, B, m, d, l, e, hb, hx, hr, hc⟩ := h.at_ hk
  injection e with e
  subst e
  rw [add0] at hc
  exact ⟨B, m, d, l, hx.out, hr, hc, hb⟩
theorem RdI.cell0 {w : World} {q n k : Nat} {l : List Int} (h : RdI w (some ⟨q, 0, none⟩) n l) (hk : k < n) : ∃ v, l[k]? = some v ∧ w.cell? ⟨q, k, none⟩ = some (.int .i64 v) ∧ q < w.heap.size := by
  obtain ⟨ad, v, e, hb, hx, _, hc⟩ := h.at_ hk
  injection e with e
  subst e
  rw [add0] at hc
  exact ⟨v, hx.out, hc, hb⟩

/-- what the first round reads, as the text lays it -/
def litC (w : World) : World :=
  (((((((w.alloc (.cells (ints [0, 0]).toArray 3)).alloc (.cells (ints [0, 1]).toArray 3)).alloc (.cells #[.slice none 0 0, .slice (some ⟨w.heap.size, 0, none⟩) 2 2, .slice (some ⟨w.heap.size + 1, 0, none⟩) 2 2] 22)).alloc (.cells (ints [0, 1]).toArray 3)).alloc (.cells (ints [1]).toArray 3)).alloc (.cells (ints [0, 1]).toArray 3)).alloc (.cells #[.slice (some ⟨w.heap.size + 1 + 1 + 1, 0, none⟩) 2 2, .slice (some ⟨w.heap.size + 1 + 1 + 1 + 1, 0, none⟩) 1 1, .slice (some ⟨w.heap.size + 1 + 1 + 1 + 1 + 1, 0, none⟩) 2 2] 22)).alloc (.cells (ints [0, 1, 0]).toArray 3)
theorem rdI_at (w : World) (t : TypeId) (l : List Int) (n q : Nat) (hq : w.heap.size = q) (hn : n ≤ 1000) (hl : l.length = n) (hi : ∀ v ∈ l, I64 v) : RdI (w.alloc (.cells (ints l).toArray t)) (some ⟨q, 0, none⟩) n l := by
  subst hq; exact rdI_lit w t l n hn hl hi
theorem rdL3 {w : World} {B C D : Option Addr} {m n k q : Nat} {a b c : List Int} (hq : w.heap.size = q) (ha : RdI w B m a) (hb : RdI w C n b) (hc : RdI w D k c) (t : TypeId) : RdL (w.alloc (.cells #[.slice B m m, .slice C n n, .slice D k k] t)) (some ⟨q, 0, none⟩) 3 [a, b, c] := by
  subst hq
  exact rdL_lit w t _ 3 [a, b, c] rfl rfl (by omega) fun j v hj => by
    match j, hj with
    | 0, hj => injection hj with hj; subst hj; exact ⟨B, m, m, a, rfl, rfl, ha⟩
    | 1, hj => injection hj with hj; subst hj; exact ⟨C, n, n, b, rfl, rfl, hb⟩
    | 2, hj => injection hj with hj; subst hj; exact ⟨D, k, k, c, rfl, rfl, hc⟩
    | j + 3, hj => simp at hj
theorem litC_rd (w : World) : (RdL (litC w) (some ⟨w.heap.size + 1 + 1, 0, none⟩) 3 [[], [0, 0], [0, 1]] ∧ RdL (litC w) (some ⟨w.heap.size + 1 + 1 + 1 + 1 + 1 + 1, 0, none⟩) 3 [[0, 1], [1], [0, 1]]) ∧ RdI (litC w) (some ⟨w.heap.size + 1 + 1 + 1 + 1 + 1 + 1 + 1, 0, none⟩) 3 [0, 1, 0] ∧ Below w.heap.size w (litC w) := by
  have h : ∀ (w1 : World) (o : Obj), Below w.heap.size w w1 → Below w.heap.size w (w1.alloc o) := fun w1 o hb => hb.alloc hb.size o
  refine ⟨⟨?_, ?_⟩, ?_, ?_⟩
  · have a1 := (rdI_at w 3 [0, 0] 2 w.heap.size rfl (by omega) rfl (by simp [I64])).alloc (.cells (ints [0, 1]).toArray 3)
    have a2 := rdI_at (w.alloc (.cells (ints [0, 0]).toArray 3)) 3 [0, 1] 2 (w.heap.size + 1) (by simp) (by omega) rfl (by simp [I64])
    exact (((((rdL3 (by simp) RdI.nil_ a1 a2 22).alloc _).alloc _).alloc _).alloc _).alloc _
  · have a1 := ((rdI_at (((w.alloc (.cells (ints [0, 0]).toArray 3)).alloc (.cells (ints [0, 1]).toArray 3)).alloc (.cells #[.slice none 0 0, .slice (some ⟨w.heap.size, 0, none⟩) 2 2, .slice (some ⟨w.heap.size + 1, 0, none⟩) 2 2] 22)) 3 [0, 1] 2 (w.heap.size + 1 + 1 + 1) (by simp) (by omega) rfl (by simp [I64])).alloc (.cells (ints [1]).toArray 3)).alloc (.cells (ints [0, 1]).toArray 3)
    have a2 := (rdI_at ((((w.alloc (.cells (ints [0, 0]).toArray 3)).alloc (.cells (ints [0, 1]).toArray 3)).alloc (.cells #[.slice none 0 0, .slice (some ⟨w.heap.size, 0, none⟩) 2 2, .slice (some ⟨w.heap.size + 1, 0, none⟩) 2 2] 22)).alloc (.cells (ints [0, 1]).toArray 3)) 3 [1] 1 (w.heap.size + 1 + 1 + 1 + 1) (by simp) (by omega) rfl (by simp [I64])).alloc (.cells (ints [0, 1]).toArray 3)
    have a3 := rdI_at (((((w.alloc (.cells (ints [0, 0]).toArray 3)).alloc (.cells (ints [0, 1]).toArray 3)).alloc (.cells #[.slice none 0 0, .slice (some ⟨w.heap.size, 0, none⟩) 2 2, .slice (some ⟨w.heap.size + 1, 0, none⟩) 2 2] 22)).alloc (.cells (ints [0, 1]).toArray 3)).alloc (.cells (ints [1]).toArray 3)) 3 [0, 1] 2 (w.heap.size + 1 + 1 + 1 + 1 + 1) (by simp) (by omega) rfl (by simp [I64])
    exact (rdL3 (by simp) a1 a2 a3 22).alloc _
  · exact rdI_at _ 3 [0, 1, 0] 3 _ (by simp) (by omega) rfl (by simp [I64])
  · exact h _ _ (h _ _ (h _ _ (h _ _ (h _ _ (h _ _ (h _ _ (h _ _ (Below.refl _ w))))))))
theorem litC_law : ∀ t : Nat, t < 3 → ∀ l x v, [[], [0, 0], [0, 1]][t]? = some l → [[0, 1], [1], [0, 1]][t]? = some x → [0, 1, 0][t]? = some v → restE [2, 2] 3 l = (x, v, 0) := by
  intro t ht l x v h1 h2 h3
  match t, ht with
  | 0, _ => injection h1 with h1; injection h2 with h2; injection h3 with h3; subst h1 h2 h3; exact kn_rest0
  | 1, _ => injection h1 with h1; injection h2 with h2; injection h3 with h3; subst h1 h2 h3; exact kn_rest1
  | 2, _ => injection h1 with h1; injection h2 with h2; injection h3 with h3; subst h1 h2 h3; exact kn_rest2

/-- what the second round reads -/
def litD (w : World) (g h : Nat) : World :=
  ((((w.alloc (.cells (ints [5]).toArray 3)).alloc (.cells (ints [2, 2]).toArray 3)).alloc (.cells #[.slice (some ⟨g, 0, none⟩) 2 2, .int .i64 3, .slice (some ⟨h, 0, none⟩) 2 2, .int .i64 4, .slice (some ⟨w.heap.size, 0, none⟩) 1 1, .int .i64 2, .slice (some ⟨w.heap.size + 1, 0, none⟩) 2 2, .int .i64 2] 24)).alloc (.cells (ints [3, 3, 1, 2]).toArray 3)).alloc (.cells (ints [1, 3, 2, 0]).toArray 3)
theorem litD_rd (w : World) (g h : Nat) (hg : RdI w (some ⟨g, 0, none⟩) 2 [2, 2]) (hh : RdI w (some ⟨h, 0, none⟩) 2 [3, 1]) :
    (∀ t : Nat, t < 4 → ∀ W, Below (litD w g h).heap.size (litD w g h) W → ∃ A n l d v m, W.cell? ⟨w.heap.size + 1 + 1, t * 2, none⟩ = some (.slice A n n) ∧ W.cell? ⟨w.heap.size + 1 + 1, t * 2 + 1, none⟩ = some (.int .i64 d) ∧ W.cell? ⟨w.heap.size + 1 + 1 + 1, t, none⟩ = some (.int .i64 v) ∧ W.cell? ⟨w.heap.size + 1 + 1 + 1 + 1, t, none⟩ = some (.int .i64 m) ∧ RdI W A n l ∧ I64 d ∧ countedE l d = (v, m, 0)) ∧
    Below w.heap.size w (litD w g h) ∧ (litD w g h).heap.size = w.heap.size + 5 := by
  have hb : ∀ (w1 : World) (o : Obj), Below w.heap.size w w1 → Below w.heap.size w (w1.alloc o) := fun w1 o hb => hb.alloc hb.size o
  have hbel : Below w.heap.size w (litD w g h) := hb _ _ (hb _ _ (hb _ _ (hb _ _ (hb _ _ (Below.refl _ w)))))
  have hs : (litD w g h).heap.size = w.heap.size + 5 := by unfold litD; simp
  refine ⟨fun t ht W hW => ?_, hbel, hs⟩
  have r0 := (hg.below hbel).below hW
  have r1 := (hh.below hbel).below hW
  have r2 : RdI (litD w g h) (some ⟨w.heap.size, 0, none⟩) 1 [5] := ((((rdI_at w 3 [5] 1 w.heap.size rfl (by omega) rfl (by simp [I64])).alloc _).alloc _).alloc _).alloc _
  have r3 : RdI (litD w g h) (some ⟨w.heap.size + 1, 0, none⟩) 2 [2, 2] := (((rdI_at (w.alloc (.cells (ints [5]).toArray 3)) 3 [2, 2] 2 (w.heap.size + 1) (by simp) (by omega) rfl (by simp [I64])).alloc _).alloc _).alloc _
  have k1 : RdI (litD w g h) (some ⟨w.heap.size + 1 + 1 + 1, 0, none⟩) 4 [3, 3, 1, 2] := (rdI_at _ 3 [3, 3, 1, 2] 4 _ (by simp) (by omega) rfl (by simp [I64])).alloc _
  have k2 : RdI (litD w g h) (some ⟨w.heap.size + 1 + 1 + 1 + 1, 0, none⟩) 4 [1, 3, 2, 0] := rdI_at _ 3 [1, 3, 2, 0] 4 _ (by simp) (by omega) rfl (by simp [I64])
  have k0 : Blk (litD w g h) (w.heap.size + 1 + 1) 24 #[.slice (some ⟨g, 0, none⟩) 2 2, .int .i64 3, .slice (some ⟨h, 0, none⟩) 2 2, .int .i64 4, .slice (some ⟨w.heap.size, 0, none⟩) 1 1, .int .i64 2, .slice (some ⟨w.heap.size + 1, 0, none⟩) 2 2, .int .i64 2] := by
    have := ((Blk.new ((w.alloc (.cells (ints [5]).toArray 3)).alloc (.cells (ints [2, 2]).toArray 3)) 24 #[.slice (some ⟨g, 0, none⟩) 2 2, .int .i64 3, .slice (some ⟨h, 0, none⟩) 2 2, .int .i64 4, .slice (some ⟨w.heap.size, 0, none⟩) 1 1, .int .i64 2, .slice (some ⟨w.heap.size + 1, 0, none⟩) 2 2, .int .i64 2]).alloc (.cells (ints [3, 3, 1, 2]).toArray 3)).alloc (.cells (ints [1, 3, 2, 0]).toArray 3)
    rw [show ((w.alloc (.cells (ints [5]).toArray 3)).alloc (.cells (ints [2, 2]).toArray 3)).heap.size = w.heap.size + 1 + 1 by simp] at this
    exact this
  have k0 := k0.below hW
  obtain ⟨v, hv, cv, _⟩ := (k1.below hW).cell0 ht
  obtain ⟨m, hm, cm, _⟩ := (k2.below hW).cell0 ht
  match t, ht with
  | 0, _ => injection hv with hv; injection hm with hm; subst hv hm; exact ⟨_, 2, [2, 2], 3, 3, 1, by rw [k0.cell]; rfl, by rw [k0.cell]; rfl, cv, cm, r0, by simp [I64], kn_cnt0⟩
  | 1, _ => injection hv with hv; injection hm with hm; subst hv hm; exact ⟨_, 2, [3, 1], 4, 3, 3, by rw [k0.cell]; rfl, by rw [k0.cell]; rfl, cv, cm, r1, by simp [I64], kn_cnt1⟩
  | 2, _ => injection hv with hv; injection hm with hm; subst hv hm; exact ⟨_, 1, [5], 2, 1, 2, by rw [k0.cell]; rfl, by rw [k0.cell]; rfl, cv, cm, r2.below hW, by simp [I64], kn_cnt2⟩
  | 3, _ => injection hv with hv; injection hm with hm; subst hv hm; exact ⟨_, 2, [2, 2], 2, 2, 0, by rw [k0.cell]; rfl, by rw [k0.cell]; rfl, cv, cm, r3.below hW, by simp [I64], kn_cnt3⟩

set_option maxHeartbeats 4000000 in
set_option maxRecDepth 100000 in
theorem countedX_any (w : World) : Calls Try.prog 70 #[] w fun e w' => e = .returned (.bool true) ∧ Below w.heap.size w w' := by
  have HC := Lib.hid (litC_rd w)
  go_enter Try.func70, Try.ntmps70
  go_wp2_with fail
  go_loopw [4] (fun i wr => ∃ t : Nat, t ≤ 3 ∧ i = .int .i64 t ∧ Below (litC w).heap.size (litC w) wr) (fun i _ => 3 - (intOf i).toNat)
  case atStart => exact ⟨0, by omega, rfl, Below.refl _ _⟩
  case round =>
    obtain ⟨t, ht, rfl, hbel⟩ := hrel
    have HB := Lib.hid hbel
    clear hbel
    by_cases hlt : t < 3
    · obtain ⟨B, m, d, l, hl, hrl, c0, hq0⟩ := (HC.out.1.1.below HB.out).cell0 hlt
      obtain ⟨B2, m2, d2, x, hx, hrx, c1, hq1⟩ := (HC.out.1.2.below HB.out).cell0 hlt
      obtain ⟨v, hv, c2, hq2⟩ := (HC.out.2.1.below HB.out).cell0 hlt
      have HK := Lib.hid (litC_law t hlt l x v hl hx hv)
      have HRL := Lib.hid hrl
      have HRX := Lib.hid hrx
      have hszr := HB.out.size
      have hrxl := hrx.len
      clear hl hx hv hrl hrx
      go_upto_region 5 with fail
      go_region_held3 (fun w' => w'.cell? ⟨w.heap.size + 1 + 1, t, none⟩ = some (.slice B m d)) (first | exact c0 | exact HC5.out) (first
        | (go_at_call 68; (with_reducible refine (two_any wr.drew).mono ?_); rintro e w5 ⟨g5, rfl, h5, b5⟩; have H5 := Lib.hid (show RdI w5 (some ⟨g5, 0, none⟩) 2 [2, 2] from h5); have B5 := Lib.hid ((Below.refl _ wr).drew.trans b5); have HC5 := Lib.hid ((B5.out.cell (p := ⟨w.heap.size + 1 + 1, t, none⟩) hq0).trans c0); have HR5 := Lib.hid (HRL.out.below B5.out); clear h5 b5)
        | (go_at_call 50; (with_reducible refine (rest_any (some ⟨g5, 0, none⟩) B 2 2 m d [2, 2] l 3 w5 H5.out HR5.out (by simp [I64])).mono ?_); rintro e w6 ⟨A6, c6, rfl, h6, b6⟩; rw [HK.out] at h6 ⊢; simp only at h6 ⊢; have HC5 := Lib.hid ((b6.cell (p := ⟨w.heap.size + 1 + 1, t, none⟩) (Nat.lt_of_lt_of_le hq0 B5.out.size)).trans HC5.out); have H6 := Lib.hid h6.rd; have B6 := Lib.hid (B5.out.trans (b6.mono B5.out.size)); clear h6 b6))
      all_goals
        have c1 := (B6.out.cell (p := ⟨w.heap.size + 1 + 1 + 1 + 1 + 1 + 1, t, none⟩) hq1).trans c1
        have c2 := (B6.out.cell (p := ⟨w.heap.size + 1 + 1 + 1 + 1 + 1 + 1 + 1, t, none⟩) hq2).trans c2
        have HX6 := Lib.hid (HRX.out.below B6.out)
        have H6 : Hid (RdI w6 A6 m2 x) := Lib.hid (by have := H6.out; rwa [hrxl] at this)
        clear HC5 HR5 H5 B5 HRL
        go_wp2_with fail
        refine (eq_any A6 B2 m2 m2 c6 d2 x x w6 H6.out HX6.out).mono ?_; rintro e w' ⟨rfl, k, rfl⟩
        rw [beq_self_eq_true]
        have HBN := Lib.hid (below_drewN (HB.out.trans (B6.out.mono hszr)) k)
        clear H6 HX6 B6 c1 c2
        go_wp2
        go_roundw
        case rel => exact ⟨t + 1, by omega, by go_num, HBN.out⟩
        case measure => simp [intOf]; omega
    · have HB1 := Lib.hid (HC.out.2.2.trans (HB.out.mono HC.out.2.2.size))
      have ht4 : (3 : Int) ≤ t := by omega
      clear HB HC
      go_wp2_with fail
      refine (two_any wr).mono ?_; rintro e w1 ⟨g1, rfl, h1, b1⟩
      have H1 := Lib.hid (h1.alloc (.cells (ints [0, 0, 0]).toArray 3))
      have HL1 := Lib.hid (rdI_lit w1 3 [0, 0, 0] 3 (by omega) rfl (by simp [I64]))
      have hb1 := HB1.out.trans (b1.mono HB1.out.size)
      have B1 := Lib.hid (hb1.alloc hb1.size (.cells (ints [0, 0, 0]).toArray 3))
      clear h1 b1 hb1 HB1
      go_wp2_with fail
      refine (rest_any _ _ _ _ _ _ [2, 2] [0, 0, 0] 3 _ H1.out HL1.out (by simp [I64])).mono ?_; rintro e w2 ⟨A2, c2, rfl, h2, b2⟩
      have hk3 := kn_rest3
      obtain ⟨⟨x, xn, xe⟩, hx⟩ : ∃ x, restE [2, 2] 3 [0, 0, 0] = x := ⟨_, rfl⟩
      rw [hx] at hk3 h2 ⊢
      simp only at hk3 h2 ⊢
      subst hk3
      have B2 := Lib.hid (B1.out.trans (b2.mono B1.out.size))
      clear h2 b2 H1 HL1 B1 hx
      go_wp2_with fail
      refine (two_any w2).mono ?_; rintro e w3 ⟨g3, rfl, h3, b3⟩
      have H3 := Lib.hid h3
      have B3 := Lib.hid (B2.out.trans (b3.mono B2.out.size))
      clear h3 b3 B2
      go_wp2_with fail
      refine (oneS_any w3).mono ?_; rintro e w4 ⟨g4, rfl, h4, b4⟩
      have HD := Lib.hid (litD_rd w4 g3 g4 (H3.out.below b4) h4)
      have B4 := Lib.hid (B3.out.trans (b4.mono B3.out.size))
      clear h4 b4 B3 H3
      go_wp2_with fail
      go_loopw [14] (fun i wq => ∃ u : Nat, u ≤ 4 ∧ i = .int .i64 u ∧ Below (litD w4 g3 g4).heap.size (litD w4 g3 g4) wq) (fun i _ => 4 - (intOf i).toNat)
      case atStart => exact ⟨0, by omega, rfl, Below.refl _ _⟩
      case round =>
        obtain ⟨u, hu, rfl, hbel⟩ := hrel
        have HB := Lib.hid hbel
        clear hbel
        by_cases hlu : u < 4
        · obtain ⟨A, n, l, d, v, mo, a0, a1, a2, a3, hrl, hd, hce⟩ := HD.out.1 u hlu wr HB.out
          have HRL := Lib.hid hrl
          have HCE := Lib.hid hce
          have HS5 := Lib.hid HD.out.2.2
          have hszr := HB.out.size
          have hq1 : w4.heap.size + 1 + 1 + 1 < wr.heap.size := by have := HS5.out; omega
          have hq2 : w4.heap.size + 1 + 1 + 1 + 1 < wr.heap.size := by have := HS5.out; omega
          clear hrl hce
          go_wp2_with fail
          refine (counted_any A n n l d wr HRL.out hd).mono ?_; rintro e w6 ⟨rfl, b6⟩
          rw [HCE.out]
          have a2 := (b6.cell (p := ⟨w4.heap.size + 1 + 1 + 1, u, none⟩) hq1).trans a2
          have a3 := (b6.cell (p := ⟨w4.heap.size + 1 + 1 + 1 + 1, u, none⟩) hq2).trans a3
          have HBN := Lib.hid (HB.out.trans (b6.mono hszr))
          clear b6 a0 a1 HRL
          go_wp2
          go_roundw
          case rel => exact ⟨u + 1, by omega, by go_num, HBN.out⟩
          case measure => simp [intOf]; omega
        · have hb5 := HD.out.2.1.trans (HB.out.mono HD.out.2.1.size)
          have HB5 := Lib.hid (B4.out.trans (hb5.mono B4.out.size))
          have hu4 : (4 : Int) ≤ u := by omega
          clear hb5 HB HD B4
          go_wp2_with fail
          have HL := Lib.hid (rdI_lit wr 3 [4, 4] 2 (by omega) rfl (by simp [I64]))
          have HB6 := Lib.hid (HB5.out.alloc HB5.out.size (.cells (ints [4, 4]).toArray 3))
          refine (fairP_any _ 2 2 [4, 4] 4 2 _ HL.out (by simp [I64]) (by simp [I64])).mono ?_; rintro e w6 ⟨A6, c6, rfl, h6, b6⟩
          rw [kn_fst] at h6 ⊢
          simp only [List.length_cons, List.length_nil, Nat.reduceAdd] at h6 ⊢
          have H6 := Lib.hid h6.rd
          have B6 := Lib.hid (HB6.out.trans (b6.mono HB6.out.size))
          clear h6 b6 HB6 HB5 HL
          go_wp2_with fail
          have HL := Lib.hid (rdI_lit w6 3 [1, 1] 2 (by omega) rfl (by simp [I64]))
          have HB7 := Lib.hid (B6.out.alloc B6.out.size (.cells (ints [1, 1]).toArray 3))
          have H67 := Lib.hid (H6.out.alloc (.cells (ints [1, 1]).toArray 3))
          refine (fairP_any _ 2 2 [1, 1] 3 2 _ HL.out (by simp [I64]) (by simp [I64])).mono ?_; rintro e w7 ⟨A7, c7, rfl, h7, b7⟩
          have hk3 := kn_fst2
          obtain ⟨⟨x, xn, xm, xe⟩, hx⟩ : ∃ x, fairE [1, 1] 3 2 = x := ⟨_, rfl⟩
          rw [hx] at hk3 h7 ⊢
          simp only at hk3 h7 ⊢
          subst hk3
          have H7 := Lib.hid (H67.out.below b7)
          have B7 := Lib.hid (HB7.out.trans (b7.mono HB7.out.size))
          clear h7 b7 HB7 H67 HL H6 B6 hx
          go_wp2_with fail
          have HL := Lib.hid (rdI_lit w7 3 [1, 3] 2 (by omega) rfl (by simp [I64]))
          have H8 := Lib.hid (H7.out.alloc (.cells (ints [1, 3]).toArray 3))
          have B8 := Lib.hid (B7.out.alloc B7.out.size (.cells (ints [1, 3]).toArray 3))
          refine (eq_any A6 (some ⟨w7.heap.size, 0, none⟩) 2 2 c6 2 [1, 3] [1, 3] _ H8.out HL.out).mono ?_; rintro e w' ⟨rfl, k, rfl⟩
          rw [beq_self_eq_true]
          go_wp2
          go_ret
          exact ⟨rfl, below_drewN B8.out _⟩
end Go.Proofs.Ytcmacejpoihhlaa
