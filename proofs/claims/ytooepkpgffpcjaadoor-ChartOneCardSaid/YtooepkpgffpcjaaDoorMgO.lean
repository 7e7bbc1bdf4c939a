/- Walk: the program's reader of charts. Walk: chart.Read. Plain law: the chart of a partition is read as this partition; what is read is drawn as it was. -/
import Derived.Test.YtooepkpgffpcjaaDoorMgN
import Derived.Test.YtooepkpgffpcjaaDoorMgK
import Derived.Test.YtooepkpgffpcjaaDoorMgG
import Derived.Test.YtooepkpgffpcjaaDoorMgH
import Derived.Test.YtooepkpgffpcjaaDoorMgI
import Derived.Test.YtooepkpgffpcjaaDoorMgM
namespace Go.Proofs.YtooepkpgffpcjaaDoor
open Go.RowKit

/-- a slice of strings that reads as L -/
def RdS (w : World) (A : Option Addr) (n : Nat) (L : List (List UInt8)) : Prop := Rd w A n (strs L) ∧ L.length = n
theorem RdS.at_ {w : World} {A : Option Addr} {n k : Nat} {L : List (List UInt8)} (h : RdS w A n L) (hk : k < n) : ∃ ad S, A = some ad ∧ ad.block < w.heap.size ∧ Hid (L[k]? = some S) ∧ w.cell? (ad.add k) = some (.string ⟨S.toArray⟩) := by
  obtain ⟨ad, u, e, hb, hx, hc⟩ := h.1.at_ hk
  unfold strs at hx
  rw [List.getElem?_map] at hx
  obtain ⟨S, hS, rfl⟩ := Option.map_eq_some_iff.1 hx
  exact ⟨ad, S, e, hb, Lib.hid hS, hc⟩
theorem RdS.below {w w' : World} {A : Option Addr} {n : Nat} {L : List (List UInt8)} (h : RdS w A n L) (hb : Below w.heap.size w w') : RdS w' A n L := ⟨h.1.below hb, h.2⟩
theorem add0 (q j : Nat) : (⟨q, 0, none⟩ : Addr).add j = ⟨q, j, none⟩ := by unfold Addr.add; split <;> simp_all
theorem size_arr (S : List UInt8) : (⟨S.toArray⟩ : ByteArray).size = S.length := by simp [ByteArray.size]

def isSign (c : UInt8) : Bool := c == 111 || c == 124
theorem u8_is (c : UInt8) (k : Nat) (hk : k < 256) : ((c.toNat : Int) == (k : Int)) = (c == k.toUInt8) := by
  by_cases h : c = k.toUInt8
  · subst h
    simp
    omega
  · have h1 : ¬ c.toNat = k := fun e => h (UInt8.toNat_inj.1 (by rw [e]; simp; omega))
    rw [beq_eq_false_iff_ne.2 h, beq_eq_false_iff_ne.2 (by omega)]

set_option maxHeartbeats 1000000 in
theorem closure_any (s : ByteArray) (b i : Nat) (w : World) (hi : i < s.size) (hc : w.cell? ⟨b, 0, none⟩ = some (.int .i64 i)) (c : UInt8) (hsc : s[i] = c) :
    Calls Tryd.prog 106 #[.string s, .pointer (some ⟨b, 0, none⟩)] w fun e w' => e = .returned (.bool (isSign c)) ∧ w' = w := by
  have HV : Hid (isSign c = (((c.toNat : Int) == 111) || ((c.toNat : Int) == 124))) := Lib.hid (by rw [show (111 : Int) = ((111 : Nat) : Int) from rfl, show (124 : Int) = ((124 : Nat) : Int) from rfl, u8_is c 111 (by omega), u8_is c 124 (by omega)]; rfl)
  by_cases g1 : ((c.toNat : Int) == 111) = true
  · rw [g1] at HV
    go_enter Tryd.func106, Tryd.ntmps106
    go_wp2_with fail
    go_ret
    exact ⟨ret_bool HV.out.symm, rfl⟩
  · have g1 : ((c.toNat : Int) == 111) = false := by simpa using g1
    rw [g1] at HV
    go_enter Tryd.func106, Tryd.ntmps106
    go_wp2_with fail
    go_ret
    exact ⟨ret_bool HV.out.symm, rfl⟩

/-- the first of them with a packet's own sign at a place, or -1 -/
def idxS (L : List (List UInt8)) (i : Nat) : Int := match L.findIdx? (fun S => isSign (S.getD i 0)) with
  | some r => r
  | none => -1
theorem idxS_at {L : List (List UInt8)} {i k : Nat} {S : List UInt8} (hS : L[k]? = some S) (hq : isSign (S.getD i 0) = true) (h : ∀ j T, j < k → L[j]? = some T → isSign (T.getD i 0) = false) : idxS L i = k := by
  unfold idxS
  rw [findIdx?_at (q := fun S => isSign (S.getD i 0)) hS hq h]
theorem idxS_none {L : List (List UInt8)} {i : Nat} (h : ∀ j T, j < L.length → L[j]? = some T → isSign (T.getD i 0) = false) : idxS L i = -1 := by
  unfold idxS
  have : L.findIdx? (fun S => isSign (S.getD i 0)) = none := by
    rw [List.findIdx?_eq_none_iff]
    intro T hT
    obtain ⟨j, hj, e⟩ := List.getElem_of_mem hT
    exact h j T hj (by rw [List.getElem?_eq_getElem hj, e])
  rw [this]
theorem getD_arr (S : List UInt8) (i : Nat) (h : i < (⟨S.toArray⟩ : ByteArray).size) : (⟨S.toArray⟩ : ByteArray)[i] = S.getD i 0 := by
  have h2 : i < S.length := by rwa [size_arr] at h
  rw [List.getD_eq_getElem?_getD, List.getElem?_eq_getElem h2]
  rfl

set_option maxHeartbeats 1000000 in
theorem indexS_any (A : Option Addr) (n c b i : Nat) (L : List (List UInt8)) (w : World) (h : RdS w A n L) (hn : n ≤ 100000) (hi : ∀ S ∈ L, i < S.length) (hc : w.cell? ⟨b, 0, none⟩ = some (.int .i64 i)) :
    Calls Tryd.prog 105 #[.slice A n c, .func (.func 106) #[] #[.pointer (some ⟨b, 0, none⟩)]] w fun e w' => e = .returned (.int .i64 (idxS L i)) ∧ w' = w := by
  have HL := Lib.hid h.2
  have HI := Lib.hid hi
  clear hi
  go_enter Tryd.func105, Tryd.ntmps105
  go_wp2_with fail
  go_loop [8] (fun k8 => ∃ k : Nat, k ≤ n ∧ k8 = .int .i64 k ∧ (∀ j T, j < k → L[j]? = some T → isSign (T.getD i 0) = false)) (fun k8 => n - (intOf k8).toNat)
  case atStart => exact ⟨0, by omega, rfl, fun j _ hj => absurd hj (by omega)⟩
  case round =>
    obtain ⟨k, hk, rfl, hno⟩ := hrel
    have HN := Lib.hid hno
    clear hno
    by_cases hlt : k < n
    · obtain ⟨ad, S, rfl, _, hS, hcell⟩ := h.at_ hlt
      have hlen := HI.out S (List.mem_of_getElem? hS.out)
      have HC := fun W (hw : W.cell? ⟨b, 0, none⟩ = some (.int .i64 i)) => closure_any ⟨S.toArray⟩ b i W (by rw [size_arr]; exact hlen) hw (S.getD i 0) (getD_arr S i _)
      cases hq : isSign (S.getD i 0) with
      | true =>
        rw [hq] at HC
        have HCC := Lib.hid HC
        have HV := Lib.hid (idxS_at hS.out hq HN.out)
        clear HC hq
        go_wp2_with fail
        refine (HCC.out _ hc).mono ?_; rintro e w' ⟨rfl, rfl⟩
        go_wp2
        go_ret
        exact ⟨ret_int HV.out.symm, rfl⟩
      | false =>
        rw [hq] at HC
        have HCC := Lib.hid HC
        have HQ := Lib.hid hq
        clear HC hq
        go_wp2_with fail
        refine (HCC.out _ hc).mono ?_; rintro e w' ⟨rfl, rfl⟩
        go_wp2
        go_round
        case rel => exact ⟨k + 1, by omega, by go_num, fun j T hj hT => by
          by_cases e : j = k
          · subst e; rw [hS.out] at hT; injection hT with hT; subst hT; exact HQ.out
          · exact HN.out j T (by omega) hT⟩
        case measure => simp [intOf]; omega
    · have HV := Lib.hid (idxS_none (L := L) (i := i) (fun j T hj hT => HN.out j T (by have := HL.out; omega) hT))
      go_wp2
      go_ret
      exact ⟨ret_int HV.out.symm, rfl⟩
end Go.Proofs.YtooepkpgffpcjaaDoor

namespace Go.Proofs.YtooepkpgffpcjaaDoor
open Go.RowKit

/-! ### What it answers -/
/-- the program's reader -/
def readP (t : List UInt8) : List Int × Int :=
  if 400 < t.length then ([], 5) else
  let RL := cutNl (Lib.trimSuffix t [10])
  let wide := (RL.getD 0 []).length
  if wide % 2 = 0 ∨ 17 < wide then ([], 3) else
  if ∃ S ∈ RL, S.length ≠ wide then ([], 3) else
  match labsF RL ((wide + 1) / 2) with
  | none => ([], 3)
  | some L => if drawT (ofL (L.map en)) = t then (ofL (L.map en), 0) else ([], 3)
theorem rowF_idx (RL : List (List UInt8)) (i : Nat) : idxS RL (2 * i) = match rowF RL i with
  | some r => r
  | none => -1 := rfl
theorem labsF_none {RL : List (List UInt8)} {k : Nat} (h : labsF RL k = none) : ∀ m, k ≤ m → labsF RL m = none := by
  intro m
  induction m with
  | zero => intro hk; obtain rfl : k = 0 := by omega
            exact h
  | succ m ih =>
    intro hk
    by_cases e : k = m + 1
    · subst e; exact h
    · unfold labsF; rw [ih (by omega)]
theorem labsF_stop {RL : List (List UInt8)} {k : Nat} {L : List (Int × Int)} (h : labsF RL k = some L) (hr : rowF RL k = none) : labsF RL (k + 1) = none := by
  unfold labsF; rw [h]; simp only; unfold labF; rw [hr]; rfl
theorem labsF_go {RL : List (List UInt8)} {k r : Nat} {L : List (Int × Int)} {S : List UInt8} (h : labsF RL k = some L) (hr : rowF RL k = some r) (hS : RL[r]? = some S) : labsF RL (k + 1) = some (L ++ [((r : Int), (fromF S k : Int))]) := by
  unfold labsF; rw [h]; simp only; unfold labF; rw [hr]; simp only [Option.map_some]
  rw [show RL.getD r [] = S by rw [List.getD_eq_getElem?_getD, hS]; rfl]
theorem rowF_get {RL : List (List UInt8)} {i r : Nat} (h : rowF RL i = some r) : ∃ S, RL[r]? = some S := by
  unfold rowF at h
  obtain ⟨hr, _⟩ := List.findIdx?_eq_some_iff_getElem.1 h
  exact ⟨RL[r], List.getElem?_eq_getElem hr⟩
theorem walkF_le (S : List UInt8) : ∀ k x, walkF S k x ≤ max (2 * k) x := by
  intro k
  induction k with
  | zero => intro x; unfold walkF; omega
  | succ k ih =>
    intro x
    unfold walkF
    have key : ∀ y, y ≤ max (2 * k) x → walkF S k y ≤ max (2 * (k + 1)) x := fun y hy => by have := ih y; omega
    split
    · exact key _ (by split <;> omega)
    · omega
theorem fromF_le (S : List UInt8) (k : Nat) : fromF S k ≤ 2 * k := by
  unfold fromF
  split
  · have := walkF_le S k (2 * k); omega
  · omega
theorem cutNl_few (n : Nat) : ∀ l : List UInt8, l.length ≤ n → (cutNl l).length ≤ l.length + 1 := by
  induction n with
  | zero =>
    intro l hl
    obtain rfl : l = [] := List.length_eq_zero_iff.1 (by omega)
    decide
  | succ n ih =>
    intro l hl
    rcases first_nl l with h | ⟨pre, rest, rfl, h⟩
    · rw [cutNl_none h]; simp
    · rw [cutNl_hit h]
      have := ih rest (by simp at hl; omega)
      simp; omega
/-- 'append(s, p)' of a pair, that was laid in a new block first. -/
theorem wpList_appP (w : World) {ops : Array Oper} {rest : List Oper} {o : Oper} {a : Act} {Q : Exit → Act → World → Prop} (hgd : o.guard = none) (s x : Operand)
    (ho : o.op = .call { callee := .builtin .append, args := #[s, x], argTypes := #[102, 102] })
    {base n c : Nat} {A : Option Addr} {L : List Pr} {b : Pr} (t : TypeId) (hs : a.eval s = .slice A n c) (hx : a.eval x = .slice (some ⟨w.heap.size, 0, none⟩) 1 1) (hown : Own w base 105 2 A n c (prCells L)) (hnm : n + 1 ≤ 1000) (hbase : base ≤ w.heap.size)
    (h : ∀ A' c' w', Own w' base 105 2 A' (n + 1) c' (prCells (L ++ [b])) → w.grownBy w' (A.map (·.block)) → Below base w w' → wpList Tryd.prog ops Q rest (a.put o.dst (.slice A' (n + 1) c')) w') :
    wpList Tryd.prog ops Q (o :: rest) a (w.alloc (.cells #[.int .i64 b.1, .int .i64 b.2] t)) := by
  obtain ⟨i0, hi0, hz0, hz1, hz2⟩ := info_parts pairInfo
  refine wpList_plain hgd fun _ hK => ?_
  have hcells : ∀ j u, (prCells [b])[j]? = some u → (w.alloc (.cells #[.int .i64 b.1, .int .i64 b.2] t)).cell? ((⟨w.heap.size, 0, none⟩ : Addr).add j) = some u := by
    intro j u hu
    rw [show (⟨w.heap.size, 0, none⟩ : Addr).add j = ⟨w.heap.size, j, none⟩ by unfold Addr.add; split <;> simp_all, World.cell?_alloc_at _ _ _ _ rfl]
    simpa [prCells] using hu
  obtain ⟨v', w', hrun, h2, h3, _, _⟩ := run_append_own_at (P := Tryd.prog) (w.alloc (.cells #[.int .i64 b.1, .int .i64 b.2] t)) base 102 o.type 105 i0 _ 2 16 Tryd.underlying102 hi0 hz0 hz1 hz2 rfl (by omega) _ n (prCells L) (hown.alloc _).1 ⟨w.heap.size, 0, none⟩ 1 1 (prCells [b]) rfl hcells (prCells_one _) (by unfold maxLen; omega) (by omega) (by simp; omega)
  obtain ⟨A', c', rfl⟩ := slice_form h2
  rw [map_block_own] at h3
  have hg : w.grownBy w' (A.map (·.block)) := grown_trans (World.grownBy_alloc w _ _) h3
  unfold Oper.wp execOp
  simp only [ho, resolve, invoke, builtin, Sem.run_bind, Sem.run_pure, Result.andThen_ok, List.map_toArray, List.map_cons, List.map_nil, hs, hx, hrun]
  exact hK _ _ (h A' c' w' ⟨by rw [prCells_append]; exact h2, by omega⟩ hg (below_app hown hg hbase))
theorem IntsErr.noneB {w w' : World} {z : Int} (hb : Below w.heap.size w w') : IntsErr ([], z) w (.returned (.tuple #[.slice none 0 0, .int .i64 z])) w' := ⟨none, 0, rfl, OwnI.nil_ _ _ _, hb⟩
theorem ne111 {c : UInt8} (h : c ≠ 111) : ((c.toNat : Int) == 111) = false := by
  rw [beq_eq_false_iff_ne]
  intro e
  refine h (UInt8.toNat_inj.1 ?_)
  show c.toNat = 111
  omega
theorem str_ne {s t : ByteArray} (h : s ≠ t) : (s.toList == t.toList) = false := by
  rw [beq_eq_false_iff_ne]
  intro e
  rw [Lib.toList_data, Lib.toList_data] at e
  exact h (ByteArray.ext (Array.toList_inj.1 e))
def lenV : Value → Nat
  | .slice _ n _ => n
  | _ => 0

set_option maxHeartbeats 4000000 in
set_option maxRecDepth 100000 in
theorem read_any (s : ByteArray) (w : World) (hs : s.size ≤ 9223372036854775807) (hsg : Signs w) : Calls Tryd.prog 61 #[.string s] w (IntsErr (readP s.data.toList) w) := by
  have HV : Hid (readP s.data.toList = _) := Lib.hid (by unfold readP; rfl)
  by_cases hlong : 400 < s.size
  · have HE : Hid (readP s.data.toList = ([], 5)) := Lib.hid (by unfold readP; rw [if_pos (by simpa using hlong)])
    go_enter Tryd.func61, Tryd.ntmps61
    go_wp2
    go_ret2
    rw [HE.out]; exact IntsErr.none_ _ _
  · have HSZ : Hid (s.data.toList.length = s.size) := Lib.hid (by simp)
    go_enter Tryd.func61, Tryd.ntmps61
    go_wp2_with fail
    refine (trimSuffix_any s w hs).mono ?_; rintro e w' ⟨rfl, rfl⟩
    have hts : (Lib.trimSuffix s.data.toList [10]).length ≤ 400 := by
      unfold Lib.trimSuffix
      split
      · rw [List.length_take]; have := HSZ.out; omega
      · have := HSZ.out; omega
    go_wp2_with fail
    refine (split_any ⟨(Lib.trimSuffix s.data.toList [10]).toArray⟩ w' (by rw [size_arr]; omega)).mono ?_; rintro e w1 ⟨rfl, rfl⟩
    have hRS := (Rd.of_own (Own.lit w' 9 (strs (cutNl (Lib.trimSuffix s.data.toList [10]))).toArray (cutNl (Lib.trimSuffix s.data.toList [10])).length (by have := cutNl_few _ _ (Nat.le_refl (Lib.trimSuffix s.data.toList [10]).length); omega) (by simp [strs]) w'.heap.size (Nat.le_refl _)).1 (by have := cutNl_few _ _ (Nat.le_refl (Lib.trimSuffix s.data.toList [10]).length); omega))
    have hfew := cutNl_few _ _ (Nat.le_refl (Lib.trimSuffix s.data.toList [10]).length)
    have hone := cutNl_len (Lib.trimSuffix s.data.toList [10])
    simp only at hRS ⊢
    generalize cutNl (Lib.trimSuffix s.data.toList [10]) = RL at HV hRS hfew hone ⊢
    have HBE := Lib.hid ((Below.refl w'.heap.size w').alloc (Nat.le_refl _) (.cells (strs RL).toArray 9))
    obtain ⟨g, hg⟩ : ∃ g, w'.heap.size = g := ⟨_, rfl⟩
    obtain ⟨m, hm⟩ : ∃ m, RL.length = m := ⟨_, rfl⟩
    generalize w'.alloc (.cells (strs RL).toArray 9) = W at hRS HBE ⊢
    rw [hm] at hRS hfew hone ⊢
    have HRS : Hid (RdS W (some ⟨g, 0, none⟩) m RL) := Lib.hid ⟨by rw [← hg]; exact hRS, hm⟩
    have HG := Lib.hid hg
    rw [hg] at ⊢
    clear hRS hm hg
    obtain ⟨ad, S0, e, hgl, hS0, c0⟩ := HRS.out.at_ (show 0 < m by omega)
    injection e with e
    subst e
    rw [add0] at c0
    obtain ⟨s0, hs0⟩ : ∃ s0 : ByteArray, (⟨S0.toArray⟩ : ByteArray) = s0 := ⟨_, rfl⟩
    obtain ⟨wide, hwide⟩ : ∃ wide, S0.length = wide := ⟨_, rfl⟩
    have hsz0 : s0.size = wide := by rw [← hs0, size_arr, hwide]
    rw [hs0] at c0
    have HW0 : Hid ((RL.getD 0 []).length = wide) := Lib.hid (by rw [List.getD_eq_getElem?_getD, hS0.out]; exact hwide)
    rw [HW0.out] at HV
    clear hs0 hS0 hwide
    have HPOS := Lib.hid (show (Int.tmod (wide : Int) 2) = ((wide % 2 : Nat) : Int) from by rw [Int.tmod_eq_emod_of_nonneg (by omega)]; omega)
    by_cases hodd : wide % 2 = 0
    · have HE : Hid (readP s.data.toList = ([], 3)) := Lib.hid (by rw [HV.out, if_neg (by rw [HSZ.out]; omega), if_pos (.inl hodd)])
      have g1 : Int.tmod (wide : Int) 2 = 0 := by rw [HPOS.out, hodd]; rfl
      clear hodd
      go_wp2_with fail
      go_ret2
      rw [HE.out]; exact IntsErr.noneB HBE.out
    have g1 : Int.tmod (wide : Int) 2 = 1 := by rw [HPOS.out, show wide % 2 = 1 by omega]; rfl
    by_cases h17 : 17 < wide
    · have HE : Hid (readP s.data.toList = ([], 3)) := Lib.hid (by rw [HV.out, if_neg (by rw [HSZ.out]; omega), if_pos (.inr h17)])
      clear hodd
      go_wp2_with fail
      go_ret2
      rw [HE.out]; exact IntsErr.noneB HBE.out
    have HV1 := Lib.hid (HV.out.trans ((if_neg (by rw [HSZ.out]; omega)).trans (if_neg (by omega))))
    clear HV
    obtain ⟨n, hn⟩ : ∃ n, (wide + 1) / 2 = n := ⟨_, rfl⟩
    have HN := Lib.hid (show wide + 1 = 2 * n by omega)
    rw [hn] at HV1
    clear hn hodd
    go_wp2_with fail
    clear c0 hsz0
    go_loop [33] (fun i => ∃ k : Nat, k ≤ m ∧ i = .int .i64 k ∧ ∀ j T, j < k → RL[j]? = some T → T.length = wide) (fun i => m - (intOf i).toNat)
    case atStart => exact ⟨0, by omega, rfl, fun j _ hj => absurd hj (by omega)⟩
    case round =>
      obtain ⟨k, hk, rfl, hall⟩ := hrel
      have HA := Lib.hid hall
      clear hall
      by_cases hkm : k < m
      · obtain ⟨ad, S, e, _, hS, c0⟩ := HRS.out.at_ hkm
        injection e with e
        subst e
        rw [add0] at c0
        obtain ⟨s1, hs1⟩ : ∃ s1 : ByteArray, (⟨S.toArray⟩ : ByteArray) = s1 := ⟨_, rfl⟩
        have hsz1 : S.length = s1.size := by rw [← hs1, size_arr]
        rw [hs1] at c0
        have HSL := Lib.hid hsz1
        clear hsz1 hs1
        by_cases hw : s1.size = wide
        · go_wp2_with fail
          go_round
          case rel => exact ⟨k + 1, by omega, by go_num, fun j T hj hT => by
            by_cases e : j = k
            · subst e; rw [hS.out] at hT; injection hT with hT; subst hT; rw [HSL.out]; exact hw
            · exact HA.out j T (by omega) hT⟩
          case measure => simp [intOf]; omega
        · have HE : Hid (readP s.data.toList = ([], 3)) := Lib.hid (by rw [HV1.out, if_pos ⟨S, List.mem_of_getElem? hS.out, by rw [HSL.out]; exact hw⟩])
          have hw1 : (s1.size : Int) ≠ wide := by omega
          clear hw
          go_wp2_with fail
          go_ret2
          rw [HE.out]; exact IntsErr.noneB HBE.out
      · have hall : ∀ S ∈ RL, S.length = wide := fun S hS => by
          obtain ⟨j, hj, e⟩ := List.getElem_of_mem hS
          exact HA.out j S (by have := HRS.out.2; omega) (by rw [List.getElem?_eq_getElem hj, e])
        have HALL := Lib.hid hall
        have HV2 := Lib.hid (HV1.out.trans (if_neg (by rintro ⟨S, hS, h9⟩; exact h9 (hall S hS))))
        clear hall HV1 HA
        go_wp2_with fail
        have hn1 : 1 ≤ n := by have := HN.out; omega
        have hn9 : n ≤ 9 := by have := HN.out; omega
        have hm401 : m ≤ 401 := by omega
        clear hfew hts hgl HPOS g1 hkm hk h17
        go_loopw [8, 9] (fun o p wr => ∃ (k b : Nat) (L : List Pr) (A : Option Addr) (c : Nat), k ≤ n ∧ labsF RL k = some L ∧ L.length = k ∧ (∀ x ∈ L, Okp x) ∧ o = .slice A k c ∧ Own wr W.heap.size 105 2 A k c (prCells L) ∧ p = .pointer (some ⟨b, 0, none⟩) ∧ Blk wr b 3 #[.int .i64 ((2 * k : Nat) : Int)] ∧ W.heap.size ≤ b ∧ A.map (·.block) ≠ some b ∧ Below W.heap.size W wr) (fun o _ _ => 10 - lenV o)
        case atStart => exact ⟨0, W.heap.size, [], none, 0, by omega, rfl, rfl, by simp, rfl, Own.nil_ _ _ _ _, rfl, Blk.new _ _ _, Nat.le_refl _, by simp, (Below.refl _ _).alloc (Nat.le_refl _) _⟩
        case round =>
          obtain ⟨k, b, L, A, c, hk, hL, hLl, hok, rfl, hown, rfl, hblk, hb, hAb, hbel⟩ := hrel
          have HLB := Lib.hid hL
          have HLL := Lib.hid hLl
          have HOK := Lib.hid hok
          have HO := Lib.hid hown
          have HBK := Lib.hid hblk
          have HAB := Lib.hid hAb
          have HBL := Lib.hid hbel
          obtain ⟨a, ha⟩ : ∃ a, 2 * k = a := ⟨_, rfl⟩
          have HA2 := Lib.hid ha
          rw [ha] at HBK
          have cb : wr.cell? ⟨b, 0, none⟩ = some (.int .i64 a) := by rw [HBK.out.cell]; rfl
          have hRSr := HRS.out.below hbel
          have HRR := Lib.hid hRSr
          have hszr := hbel.size
          clear hL hLl hok hown hblk hAb hbel ha hRSr
          by_cases hkn : k < n
          · have haw : a < wide := by have := HN.out; have := HA2.out; omega
            have ha16 : a ≤ 16 := by have := HN.out; have := HA2.out; omega
            have HIX := Lib.hid (indexS_any (some ⟨g, 0, none⟩) m m b a RL wr HRR.out (by omega) (fun S hS => by rw [HALL.out S hS]; exact haw) cb)
            cases hr : rowF RL k with
            | none =>
              have hix : idxS RL a = -1 := by rw [← HA2.out, rowF_idx, hr]
              rw [hix] at HIX
              have HE : Hid (readP s.data.toList = ([], 3)) := Lib.hid (by rw [HV2.out, labsF_none (labsF_stop HLB.out hr) n (by omega)])
              clear hix hr
              go_wp2_with fail
              refine HIX.out.mono ?_; rintro e w2 ⟨rfl, rfl⟩
              go_wp2
              go_ret2
              rw [HE.out]; exact IntsErr.noneB (HBE.out.trans (HBL.out.mono HBE.out.size))
            | some r =>
              have hix : idxS RL a = r := by rw [← HA2.out, rowF_idx, hr]
              rw [hix] at HIX
              obtain ⟨S, hS⟩ := rowF_get hr
              have hrm : r < m := by have := (List.getElem?_eq_some_iff.1 hS).1; have := HRS.out.2; omega
              obtain ⟨ad, S', e, hgl, hS', c0⟩ := HRR.out.at_ hrm
              injection e with e
              subst e
              rw [add0] at c0
              obtain rfl : S = S' := by have := hS.symm.trans hS'.out; injection this
              obtain ⟨s1, hs1⟩ : ∃ s1 : ByteArray, (⟨S.toArray⟩ : ByteArray) = s1 := ⟨_, rfl⟩
              have hsz1 : s1.size = wide := by rw [← hs1, size_arr]; exact HALL.out S (List.mem_of_getElem? hS)
              have hat : ∀ (i : Nat) (h : i < s1.size), s1[i] = S.getD i 0 := fun i h => by subst hs1; exact getD_arr S i h
              rw [hs1] at c0
              have HAT := Lib.hid hat
              have HGO := Lib.hid (labsF_go HLB.out hr hS)
              have HFL := Lib.hid (fromF_le S k)
              have HFD : Hid (fromF S k = if S.getD a 0 = 111 then walkF S k a else a) := Lib.hid (by unfold fromF; rw [HA2.out])
              generalize fromF S k = F at HGO HFL HFD
              clear hix hr hS hs1 hat hS'
              go_wp2_with fail
              refine HIX.out.mono ?_; rintro e w2 ⟨rfl, hw2⟩
              rw [hw2]
              clear hw2
              go_wp2_with fail
              go_loopw [11, 12] (fun x q wq => ∃ j y d : Nat, j ≤ k ∧ x = .int .i64 y ∧ q = .int .i64 ((2 * j : Nat) : Int) ∧ y ≤ a ∧ F = (if S.getD a 0 = 111 then walkF S j y else y) ∧ wq = wr.drewN d) (fun _ q _ => (intOf q).toNat)
              case atStart => exact ⟨k, a, 0, Nat.le_refl _, rfl, by rw [HA2.out], Nat.le_refl _, HFD.out, rfl⟩
              case round =>
                obtain ⟨j, y, d, hj, rfl, rfl, hya, hF, rfl⟩ := hrel
                have HF := Lib.hid hF
                clear hF
                have c0d : (wr.drewN d).cell? ⟨g, r, none⟩ = some (.string s1) := c0
                have cbd : (wr.drewN d).cell? ⟨b, 0, none⟩ = some (.int .i64 a) := cb
                cases j with
                | zero =>
                  obtain rfl : F = y := by rw [HF.out]; split <;> rfl
                  go_wp2_with fail
                  go_quiet (fail)
                  have hszx : W.heap.size ≤ (wr.drewN d).heap.size := hszr
                  obtain ⟨wx, hwx⟩ : ∃ wx, (wr.drewN d).drewN nq = wx := ⟨_, rfl⟩
                  have HOX : Hid (Own wx W.heap.size 105 2 A k c (prCells L)) := Lib.hid (by rw [← hwx]; exact HO.out)
                  have HKX : Hid (Blk wx b 3 #[.int .i64 a]) := Lib.hid (by rw [← hwx]; exact HBK.out)
                  have HBX : Hid (Below W.heap.size W wx) := Lib.hid (by rw [← hwx]; exact below_drewN (below_drewN HBL.out _) _)
                  rw [hwx]
                  clear hwx hszx cbd c0d
                  have hszx := HBX.out.size
                  go_wp2_with (at_builtin; go_loud (refine wpList_appP wx rfl (.tmp 87) (.tmp 91) rfl (b := ((r : Int), (F : Int))) _ rfl rfl HOX.out (by omega) hszx ?_; intro A3 c3 w3 ho3 hg3 hb3; have HO3 := Lib.hid ho3; have HK3 := Lib.hid (HKX.out.grown hg3 (fun e => HAB.out e.symm)); have HB3 := Lib.hid (HBX.out.trans hb3); have cb3 : w3.cell? ⟨b, 0, none⟩ = some (.int .i64 a) := (by rw [HK3.out.cell]; rfl); clear ho3 hg3 hb3))
                  go_roundw
                  case rel => exact ⟨k + 1, w3.heap.size, L ++ [((r : Int), (F : Int))], A3, c3, by omega, HGO.out, by simp [HLL.out], fun x hx => by
                    rcases List.mem_append.1 hx with hx | hx
                    · exact HOK.out x hx
                    · simp at hx; subst hx; have := HFL.out; unfold Okp; simp only; omega, rfl, HO3.out.alloc _, rfl, by
                        have e : ((2 * (k + 1) : Nat) : Int) = (a : Int) + 2 := by have := HA2.out; omega
                        rw [e]; exact Blk.new _ _ _, HB3.out.size, fun e => by have := (HO3.out.block e).2; omega, HB3.out.alloc HB3.out.size _⟩
                  case measure => simp [lenV]; omega
                | succ j =>
                  have hal : a < s1.size := by omega
                  have hsa := HAT.out a hal
                  generalize hca : S.getD a 0 = ca at hsa HF
                  have HCA := Lib.hid hca
                  clear hca
                  obtain ⟨u, hu⟩ : ∃ u, 2 * (j + 1) = u + 2 := ⟨2 * j, by omega⟩
                  have HU := Lib.hid (show 2 * j = u by omega)
                  have hu17 : u + 2 ≤ 17 := by omega
                  rw [hu]
                  clear hu
                  have hpos : (0 : Int) < (u : Int) + 2 := by omega
                  by_cases h1 : ca = 111
                  · have g1 : ((ca.toNat : Int) == 111) = true := by rw [h1]; rfl
                    obtain ⟨v, hv⟩ : ∃ v, u + 1 = v := ⟨_, rfl⟩
                    have hu1 : v < s1.size := by have := HA2.out; have := HU.out; omega
                    have hsu := HAT.out v hu1
                    have he1 : (u : Int) + 2 - 1 = (v : Int) := by omega
                    have he2 : (u : Int) + 1 = (v : Int) := by omega
                    have HVU := Lib.hid hv
                    clear hv
                    generalize hcu : S.getD v 0 = cu at hsu
                    have HCU := Lib.hid hcu
                    clear hcu
                    have HWK : Hid (F = if cu = 45 then walkF S j (if S.getD u 0 = 111 then u else y) else y) := Lib.hid (by
                      rw [HF.out, if_pos h1]
                      show (if S.getD (2 * j + 1) 0 = 45 then walkF S j (if S.getD (2 * j) 0 = 111 then 2 * j else y) else y) = _
                      rw [HU.out, HVU.out, HCU.out])
                    have H1 := Lib.hid h1
                    by_cases h2 : cu = 45
                    · have g2 : ((cu.toNat : Int) == 45) = true := by rw [h2]; rfl
                      have hus : u < s1.size := by omega
                      have hsz := HAT.out u hus
                      generalize hcz : S.getD u 0 = cz at hsz HWK
                      have HCZ := Lib.hid hcz
                      rw [if_pos h2] at HWK
                      clear hcz
                      by_cases h3 : cz = 111
                      · have g3 : ((cz.toNat : Int) == 111) = true := by rw [h3]; rfl
                        rw [if_pos h3] at HWK
                        clear h1 h2 h3
                        go_wp2_with fail
                        go_quiet (fail)
                        go_wp2_with fail
                        go_roundw
                        case rel => exact ⟨j, u, d + nq, by omega, by go_num, by rw [HU.out], by have := HA2.out; have := HU.out; omega, by rw [if_pos H1.out]; exact HWK.out, rfl⟩
                        case measure => simp [intOf]; omega
                      · have g3 : ((cz.toNat : Int) == 111) = false := ne111 h3
                        rw [if_neg h3] at HWK
                        clear h1 h2 h3
                        go_wp2_with fail
                        go_quiet (fail)
                        go_wp2_with fail
                        go_roundw
                        case rel => exact ⟨j, y, d + nq, by omega, rfl, by rw [HU.out], hya, by rw [if_pos H1.out]; exact HWK.out, rfl⟩
                        case measure => simp [intOf]; omega
                    · have g2 : ((cu.toNat : Int) == 45) = false := beq_eq_false_iff_ne.2 fun e => h2 (UInt8.toNat_inj.1 (show cu.toNat = 45 by omega))
                      rw [if_neg h2] at HWK
                      obtain rfl : F = y := HWK.out
                      clear h1 h2
                      go_wp2_with fail
                      go_quiet (fail)
                      have hszx : W.heap.size ≤ (wr.drewN d).heap.size := hszr
                      obtain ⟨wx, hwx⟩ : ∃ wx, (wr.drewN d).drewN nq = wx := ⟨_, rfl⟩
                      have HOX : Hid (Own wx W.heap.size 105 2 A k c (prCells L)) := Lib.hid (by rw [← hwx]; exact HO.out)
                      have HKX : Hid (Blk wx b 3 #[.int .i64 a]) := Lib.hid (by rw [← hwx]; exact HBK.out)
                      have HBX : Hid (Below W.heap.size W wx) := Lib.hid (by rw [← hwx]; exact below_drewN (below_drewN HBL.out _) _)
                      rw [hwx]
                      clear hwx hszx cbd c0d
                      have hszx := HBX.out.size
                      go_wp2_with (at_builtin; go_loud (refine wpList_appP wx rfl (.tmp 87) (.tmp 91) rfl (b := ((r : Int), (F : Int))) _ rfl rfl HOX.out (by omega) hszx ?_; intro A3 c3 w3 ho3 hg3 hb3; have HO3 := Lib.hid ho3; have HK3 := Lib.hid (HKX.out.grown hg3 (fun e => HAB.out e.symm)); have HB3 := Lib.hid (HBX.out.trans hb3); have cb3 : w3.cell? ⟨b, 0, none⟩ = some (.int .i64 a) := (by rw [HK3.out.cell]; rfl); clear ho3 hg3 hb3))
                      go_roundw
                      case rel => exact ⟨k + 1, w3.heap.size, L ++ [((r : Int), (F : Int))], A3, c3, by omega, HGO.out, by simp [HLL.out], fun x hx => by
                        rcases List.mem_append.1 hx with hx | hx
                        · exact HOK.out x hx
                        · simp at hx; subst hx; have := HFL.out; unfold Okp; simp only; omega, rfl, HO3.out.alloc _, rfl, by
                            have e : ((2 * (k + 1) : Nat) : Int) = (a : Int) + 2 := by have := HA2.out; omega
                            rw [e]; exact Blk.new _ _ _, HB3.out.size, fun e => by have := (HO3.out.block e).2; omega, HB3.out.alloc HB3.out.size _⟩
                      case measure => simp [lenV]; omega
                  · have g1 : ((ca.toNat : Int) == 111) = false := ne111 h1
                    obtain rfl : F = y := by rw [HF.out, if_neg h1]
                    go_wp2_with fail
                    go_quiet (fail)
                    have hszx : W.heap.size ≤ (wr.drewN d).heap.size := hszr
                    obtain ⟨wx, hwx⟩ : ∃ wx, (wr.drewN d).drewN nq = wx := ⟨_, rfl⟩
                    have HOX : Hid (Own wx W.heap.size 105 2 A k c (prCells L)) := Lib.hid (by rw [← hwx]; exact HO.out)
                    have HKX : Hid (Blk wx b 3 #[.int .i64 a]) := Lib.hid (by rw [← hwx]; exact HBK.out)
                    have HBX : Hid (Below W.heap.size W wx) := Lib.hid (by rw [← hwx]; exact below_drewN (below_drewN HBL.out _) _)
                    rw [hwx]
                    clear hwx hszx cbd c0d
                    have hszx := HBX.out.size
                    go_wp2_with (at_builtin; go_loud (refine wpList_appP wx rfl (.tmp 87) (.tmp 91) rfl (b := ((r : Int), (F : Int))) _ rfl rfl HOX.out (by omega) hszx ?_; intro A3 c3 w3 ho3 hg3 hb3; have HO3 := Lib.hid ho3; have HK3 := Lib.hid (HKX.out.grown hg3 (fun e => HAB.out e.symm)); have HB3 := Lib.hid (HBX.out.trans hb3); have cb3 : w3.cell? ⟨b, 0, none⟩ = some (.int .i64 a) := (by rw [HK3.out.cell]; rfl); clear ho3 hg3 hb3))
                    go_roundw
                    case rel => exact ⟨k + 1, w3.heap.size, L ++ [((r : Int), (F : Int))], A3, c3, by omega, HGO.out, by simp [HLL.out], fun x hx => by
                      rcases List.mem_append.1 hx with hx | hx
                      · exact HOK.out x hx
                      · simp at hx; subst hx; have := HFL.out; unfold Okp; simp only; omega, rfl, HO3.out.alloc _, rfl, by
                          have e : ((2 * (k + 1) : Nat) : Int) = (a : Int) + 2 := by have := HA2.out; omega
                          rw [e]; exact Blk.new _ _ _, HB3.out.size, fun e => by have := (HO3.out.block e).2; omega, HB3.out.alloc HB3.out.size _⟩
                    case measure => simp [lenV]; omega
          · obtain rfl : k = n := by omega
            have haw : wide ≤ a := by have := HN.out; have := HA2.out; omega
            have hRP := RdP.of_own HO.out (by omega)
            have hmapl : (L.map en).length = k := by rw [List.length_map, HLL.out]
            have hck := chk_ofL (l := L.map en) (by omega) (by omega)
            have hol : (ofL (L.map en)).length = k := by rw [ofL_length, hmapl]
            have HVF : Hid (readP s.data.toList = if drawT (ofL (L.map en)) = s.data.toList then (ofL (L.map en), 0) else ([], 3)) := Lib.hid (by rw [HV2.out, HLB.out])
            have HNU := Lib.hid (number2_any A k c L wr hRP (by omega) HOK.out)
            generalize ofL (L.map en) = p at hck hol HVF HNU
            have HPL := Lib.hid hol
            have HCK := Lib.hid hck
            have HBX := Lib.hid (HBE.out.trans (HBL.out.mono HBE.out.size))
            clear hRP hmapl hck hol
            go_wp2_with fail
            refine HNU.out.mono ?_; rintro e w2 ⟨A2, c2, rfl, ho2, hb2⟩
            rw [HPL.out] at ho2 ⊢
            have HO2 := Lib.hid ho2
            have HB2 := Lib.hid (HBX.out.trans (hb2.mono HBX.out.size))
            have HS2 := Lib.hid (hsg.below HB2.out)
            clear ho2 hb2
            go_wp2_with fail
            refine (draw_any A2 k c2 p w2 HO2.out.rd HO2.out.cap HCK.out HS2.out).mono ?_; rintro e w3 ⟨rfl, hb3⟩
            have HO3 := Lib.hid ((HO2.out.below hb3).mono HBX.out.size)
            have HB3 := Lib.hid (HB2.out.trans (hb3.mono HB2.out.size))
            clear hb3 HO2 HB2 HS2
            by_cases hq : drawT p = s.data.toList
            · rw [if_pos hq] at HVF
              have hs3 : (⟨(drawT p).toArray⟩ : ByteArray) = s := by rw [hq]
              rw [hs3]
              clear hq hs3
              go_wp2_with fail
              go_ret2
              rw [HVF.out]
              exact ⟨A2, c2, by rw [HPL.out]; rfl, by rw [HPL.out]; exact HO3.out, HB3.out⟩
            · rw [if_neg hq] at HVF
              have hs3 := str_ne (show (⟨(drawT p).toArray⟩ : ByteArray) ≠ s from fun e => hq (by rw [← e]))
              generalize (⟨(drawT p).toArray⟩ : ByteArray) = t at hs3 ⊢
              clear hq
              go_wp2_with fail
              go_ret2
              rw [HVF.out]
              exact IntsErr.noneB HB3.out
end Go.Proofs.YtooepkpgffpcjaaDoor

namespace Go.Proofs.YtooepkpgffpcjaaDoor
open Go.RowKit

theorem trim_nl (x : List UInt8) : Lib.trimSuffix (x ++ [10]) [10] = x := by
  unfold Lib.trimSuffix
  have h : Lib.hasSuffix (x ++ [10]) [10] = true := by
    unfold Lib.hasSuffix
    rw [List.isSuffixOf_iff_suffix]
    exact ⟨x, rfl⟩
  rw [if_pos h]
  simp
theorem cutNl_text {l : List Int} (L : List Bar) (h0 : 1 ≤ l.length) (k : Nat) : cutNl (Lib.trimSuffix (textTo l L (k + 1)) [10]) = (List.range (k + 1)).map (fun (r : Nat) => rowTo l L ((r : Int) + 1) l.length) := by
  rw [textTo_succ, ← List.append_assoc, trim_nl]
  have hr := (rowTo_get (l := l) L ((k : Int) + 1) l.length (Nat.le_refl _) h0).2.2
  have h1 := rowsF_text (l := l) L h0 k
  have h2 : rowsF (textTo l L k ++ rowTo l L ((k : Int) + 1) l.length) = (((List.range k).map (fun (r : Nat) => rowTo l L ((r : Int) + 1) l.length)), rowTo l L ((k : Int) + 1) l.length) := by
    unfold rowsF at h1 ⊢
    rw [List.foldl_append, h1, rowsF_run _ hr]; simp
  unfold cutNl
  rw [h2, List.range_succ, List.map_append]; rfl
theorem most_bd {p : List Int} (h : chk p = 0) : 0 ≤ mostOf (barsTo p p.length) ∧ mostOf (barsTo p p.length) ≤ 9 := by
  obtain ⟨most, h9, _, hR, _⟩ := rows_are h
  have := hR.deep
  unfold levL at this
  rw [deep_most] at this
  omega
theorem draw_rows {p : List Int} (h : chk p = 0) : cutNl (Lib.trimSuffix (drawT p) [10]) = rowsL p ∧ (drawT p).length ≤ 400 := by
  have hn := chk_ok h
  have hm := most_bd h
  refine ⟨cutNl_text _ hn.1 _, ?_⟩
  have h1 := textTo_len p (barsTo p p.length) ((mostOf (barsTo p p.length)).toNat + 1)
  have h2 : ((mostOf (barsTo p p.length)).toNat + 1) * (2 * p.length + 1) ≤ 10 * 19 := Nat.mul_le_mul (by omega) (by omega)
  show (textTo p _ _).length ≤ 400
  omega
theorem draw_190 {p : List Int} (h : chk p = 0) : (drawT p).length ≤ 190 := by
  have hn := chk_ok h
  have hm := most_bd h
  have h1 := textTo_len p (barsTo p p.length) ((mostOf (barsTo p p.length)).toNat + 1)
  have h2 : ((mostOf (barsTo p p.length)).toNat + 1) * (2 * p.length + 1) ≤ 10 * 19 := Nat.mul_le_mul (by omega) (by omega)
  show (textTo p _ _).length ≤ 190
  omega
theorem readP_chart {p : List Int} (h : chk p = 0) : readP (drawT p) = (p, 0) := by
  obtain ⟨h1, h2⟩ := draw_rows h
  have hn := chk_ok h
  have hl : (rowsL p).length = (mostOf (barsTo p p.length)).toNat + 1 := by unfold rowsL; simp
  have hS : ∀ S ∈ rowsL p, S.length = 2 * p.length - 1 := by
    intro S hS
    obtain ⟨j, hj, e⟩ := List.getElem_of_mem hS
    exact (rowsL_get h (by rw [List.getElem?_eq_getElem hj, e])).len
  have h0 : ((rowsL p).getD 0 []).length = 2 * p.length - 1 := by
    obtain ⟨S, hS0⟩ : ∃ S, (rowsL p)[0]? = some S := ⟨(rowsL p)[0]'(by omega), List.getElem?_eq_getElem _⟩
    rw [List.getD_eq_getElem?_getD, hS0]
    exact hS S (List.mem_of_getElem? hS0)
  unfold readP
  rw [if_neg (by omega)]
  simp only
  rw [h1, h0, if_neg (by omega), if_neg (by rintro ⟨S, hm, hne⟩; exact hne (hS S hm)), show (2 * p.length - 1 + 1) / 2 = p.length by omega]
  obtain ⟨L, hL, _⟩ := labsF_chart h p.length (Nat.le_refl _)
  rw [hL]
  simp only
  have := labs_pat h hL
  have e : L.map en = L.map fun x => x.1 * 1000 + x.2 := rfl
  rw [e, this, if_pos rfl]
theorem labsF_len {RL : List (List UInt8)} : ∀ {n : Nat} {L : List (Int × Int)}, labsF RL n = some L → L.length = n := by
  intro n
  induction n with
  | zero => intro L h; unfold labsF at h; injection h with h; subst h; rfl
  | succ n ih =>
    intro L h
    unfold labsF at h
    split at h
    · cases h
    · rename_i l hl
      split at h
      · cases h
      · injection h with h
        subst h
        simp [ih hl]
/-- what the program's reader answers -/
theorem readP_says (t : List UInt8) : (∃ p, chk p = 0 ∧ drawT p = t ∧ readP t = (p, 0)) ∨ (readP t = ([], 3) ∧ t.length ≤ 400) ∨ (readP t = ([], 5) ∧ 400 < t.length) := by
  unfold readP
  by_cases h1 : 400 < t.length
  · rw [if_pos h1]; exact .inr (.inr ⟨rfl, h1⟩)
  rw [if_neg h1]
  simp only
  split
  · exact .inr (.inl ⟨rfl, by omega⟩)
  rename_i hw
  split
  · exact .inr (.inl ⟨rfl, by omega⟩)
  split
  · exact .inr (.inl ⟨rfl, by omega⟩)
  · rename_i L hL
    have hl := labsF_len hL
    by_cases h2 : drawT (ofL (L.map en)) = t
    · rw [if_pos h2]
      exact .inl ⟨_, chk_ofL (by rw [List.length_map]; omega) (by rw [List.length_map]; omega), h2, rfl⟩
    · rw [if_neg h2]; exact .inr (.inl ⟨rfl, by omega⟩)
theorem drawT_inj {p q : List Int} (hp : chk p = 0) (hq : chk q = 0) (h : drawT p = drawT q) : p = q := by
  have h1 := readP_chart hp
  rw [h, readP_chart hq] at h1
  injection h1 with h1
  exact h1.symm
end Go.Proofs.YtooepkpgffpcjaaDoor
