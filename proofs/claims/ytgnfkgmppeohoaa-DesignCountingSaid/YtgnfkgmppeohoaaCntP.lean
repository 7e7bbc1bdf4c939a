/- Walks: Counted and Rest of the program: what counting tells. -/
import Derived.Test.YtgnfkgmppeohoaaChance
import Derived.Test.YtgnfkgmppeohoaaCntL
import Derived.Test.YtgnfkgmppeohoaaOf
namespace Go.Proofs.Ytgnfkgmppeohoaa
open Go.RowKit

/-- three numbers, and new memory -/
def Num3M (v : Int × Int × Int) (w : World) (e : Ending) (w' : World) : Prop := e = .returned (.tuple #[.int .i64 v.1, .int .i64 v.2.1, .int .i64 v.2.2]) ∧ Below w.heap.size w w'
theorem int_max0 (v : Int) : (if 0 < v then v else 0) = max 0 v := by split <;> omega
theorem countedE_bad {c : List Int} {d : Int} (h : chkS c d ≠ 0) : countedE c d = (0, 0, chkS c d) := by unfold countedE; rw [if_pos h]
theorem countedE_ok {c : List Int} {d : Int} (h : chkS c d = 0) : countedE c d = (cntV (mostN c d) d, mostN c d, 0) := by unfold countedE; rw [if_neg (by omega)]
theorem cntV_sure {m d : Int} (h : m = d) : cntV m d = 1 := by unfold cntV; rw [if_pos h]
theorem cntV_never {m d : Int} (h : m ≠ d) (h0 : m = 0) : cntV m d = 2 := by unfold cntV; rw [if_neg h, if_pos h0]
theorem cntV_open {m d : Int} (h : m ≠ d) (h0 : m ≠ 0) : cntV m d = 3 := by unfold cntV; rw [if_neg h, if_neg h0]

set_option maxHeartbeats 1000000 in
set_option maxRecDepth 100000 in
theorem counted_any (A : Option Addr) (n c : Nat) (l : List Int) (d : Int) (w : World) (h : RdI w A n l) (hd : I64 d) : Calls Try.prog 40 #[.agg #[.slice A n c, .int .i64 d]] w (Num3M (countedE l d) w) := by
  have hlen := h.len
  go_enter Try.func40, Try.ntmps40
  go_upto_region 1 with fail
  have HA := Lib.hid (h.alloc (.cells #[.slice A n c, .int .i64 d] 24))
  have HB := Lib.hid ((Below.refl _ w).alloc (Nat.le_refl _) (.cells #[.slice A n c, .int .i64 d] 24))
  have HX := Lib.hid (Blk.new w 24 #[.slice A n c, .int .i64 d])
  clear h
  generalize w.alloc (.cells #[.slice A n c, .int .i64 d] 24) = W at HA HB HX ⊢
  have c0 : W.cell? ⟨w.heap.size, 0, none⟩ = some (.slice A n c) := by rw [HX.out.cell]; rfl
  have c1 : W.cell? ⟨w.heap.size, 1, none⟩ = some (.int .i64 d) := by rw [HX.out.cell]; rfl
  go_wp2_with fail
  refine (checkS_any A n c l d W HA.out hd).mono ?_; rintro e w2 ⟨rfl, hb⟩
  have HA2 := Lib.hid (HA.out.below hb)
  have HX2 := Lib.hid (HX.out.below hb)
  have HB2 := Lib.hid (HB.out.trans (hb.mono HB.out.size))
  have c02 : w2.cell? ⟨w.heap.size, 0, none⟩ = some (.slice A n c) := by rw [HX2.out.cell]; rfl
  have c12 : w2.cell? ⟨w.heap.size, 1, none⟩ = some (.int .i64 d) := by rw [HX2.out.cell]; rfl
  clear hb HX c0 c1 HX2
  by_cases hz : chkS l d = 0
  · have HV := Lib.hid (countedE_ok hz)
    have hk := chkS_ok hz
    have hmb := mostN_bd hz
    have hks := okCounts_mem hk.2.2.1
    have hmm := mxC_mem (l := l) (by omega) (fun v hv => by have := hks v hv; omega)
    have hm9 := hks _ hmm
    obtain ⟨M, hM⟩ : ∃ M, mostN l d = M := ⟨_, rfl⟩
    have hM2 : M = max 0 (d - sumI l + mxC l) := hM.symm
    obtain ⟨s, hse⟩ : ∃ s, sumI l = s := ⟨_, rfl⟩
    obtain ⟨x, hxe⟩ : ∃ x, mxC l = x := ⟨_, rfl⟩
    have HQ : Hid (∀ W', RdI W' A n l → Calls Try.prog 80 #[.slice A n c] W' (Num s W')) := Lib.hid (fun W' h' => by rw [← hse]; exact sumD_any A n c l W' h' (fun x hx => by have := hks x hx; omega) (by omega))
    have HMX : Hid (∀ W', RdI W' A n l → Calls Try.prog 96 #[.slice A n c] W' (Num x W')) := Lib.hid (fun W' h' => by
      match l, hlen, hk, hks, hxe, h' with
      | a :: r, _, _, hks, hxe, h' =>
        rw [← hxe, ← mxC_mx r (by have := hks a (by simp); omega)]
        exact (max_any A n c a r W' h').mono fun e w' h => ⟨h.1, h.2.symm⟩)
    rw [hM] at HV hmb
    rw [hxe] at hm9 hM2
    rw [hse] at hk hM2
    have hb : 1 ≤ d ∧ d ≤ 9 ∧ d ≤ s ∧ s ≤ 54 ∧ 1 ≤ x ∧ x ≤ 9 := ⟨by omega, by omega, by omega, by omega, by omega, by omega⟩
    have hd1 := hb.1
    have hd9 := hb.2.1
    have hw1 : IntKind.i64.wrap (d - s) = d - s := IntWalk.i64_in _ (by omega)
    have hw2 : IntKind.i64.wrap (d - s + x) = d - s + x := IntWalk.i64_in _ (by omega)
    have HM3 : Hid (max 0 (d - s + x) = M) := Lib.hid hM2.symm
    clear hk hks hmm hm9 hM hM2 hse hxe hb hlen
    rw [hz]
    clear hz
    go_upto_region 4 with fail
    go_quiet (first
      | (go_at_call 80; exact Calls.quiet_of_same (HQ.out _ (HA2.out.drewN _)))
      | (go_at_call 96; exact Calls.quiet_of_same (HMX.out _ (HA2.out.drewN _))))
    rw [HM3.out]
    clear hw1 hw2 HM3 HQ HMX
    have c13 : (w2.drewN nq).cell? ⟨w.heap.size, 1, none⟩ = some (.int .i64 d) := c12
    have HB3 := Lib.hid (below_drewN HB2.out nq)
    generalize w2.drewN nq = w3 at c13 HB3 ⊢
    by_cases h1 : M = d
    · subst h1
      rw [cntV_sure rfl] at HV
      go_wp2
      go_ret3
      rw [HV.out]; exact ⟨rfl, HB3.out⟩
    · by_cases h2 : M = 0
      · rw [cntV_never h1 h2] at HV
        subst h2
        have g1 : ((0 : Int) == d) = false := by simpa using h1
        clear h1
        go_wp2
        go_ret3
        rw [HV.out]; exact ⟨rfl, HB3.out⟩
      · rw [cntV_open h1 h2] at HV
        have g1 : (M == d) = false := by simpa using h1
        have g2 : (M == 0) = false := by simpa using h2
        clear h1 h2
        go_wp2
        go_ret3
        rw [HV.out]; exact ⟨rfl, HB3.out⟩
  · have HV := Lib.hid (countedE_bad hz)
    have g : (chkS l d != 0) = true := by simpa using hz
    clear hz
    generalize chkS l d = z at g HV ⊢
    go_wp2
    go_ret3
    rw [HV.out]; exact ⟨rfl, HB2.out⟩

/-! ### The least of some numbers -/
def mn (a : Int) (l : List Int) : Int := l.foldl min a
theorem mn_snoc (a : Int) (l : List Int) (v : Int) : mn a (l ++ [v]) = min (mn a l) v := by simp [mn]
theorem mn_neg (a : Int) (l : List Int) : decide (mn a l < 0) = negB (a :: l) := by
  unfold mn negB
  induction l generalizing a with
  | nil => rw [List.foldl_nil, List.any_cons, List.any_nil, Bool.or_false]
  | cons x l ih =>
    rw [List.foldl_cons, ih]
    simp only [List.any_cons]
    by_cases h1 : a < 0 <;> by_cases h2 : x < 0
    · rw [decide_eq_true h1, decide_eq_true h2, decide_eq_true (show min a x < 0 by omega)]; simp
    · rw [decide_eq_true h1, decide_eq_false h2, decide_eq_true (show min a x < 0 by omega)]; simp
    · rw [decide_eq_false h1, decide_eq_true h2, decide_eq_true (show min a x < 0 by omega)]; simp
    · rw [decide_eq_false h1, decide_eq_false h2, decide_eq_false (show ¬ min a x < 0 by omega)]; simp

set_option maxHeartbeats 400000 in
theorem min_any (A : Option Addr) (n c : Nat) (a : Int) (l : List Int) (w : World) (h : RdI w A n (a :: l)) :
    Calls Try.prog 109 #[.slice A n c] w fun e w' => e = .returned (.int .i64 (mn a l)) ∧ w = w' := by
  have hlen := h.len
  have hbd := h.bd
  have hn : 1 ≤ n := by rw [← hlen]; simp
  obtain ⟨ad, v, rfl, _, hv, _, hcell⟩ := h.at_ (show 0 < n by omega)
  obtain rfl : a = v := by simpa using hv.out
  rw [Addr.add_zero'] at hcell
  have HL := Lib.hid hlen; clear hlen hv
  go_enter Try.func109, Try.ntmps109
  go_wp2
  go_loop [3, 4] (fun nx i => ∃ (k : Nat), 1 ≤ k ∧ k ≤ n ∧ i = .int .i64 k ∧ nx = .int .i64 (mn a (l.take (k - 1)))) (fun _ i => n - (intOf i).toNat)
  case atStart => exact ⟨1, by omega, by omega, rfl, rfl⟩
  case round =>
    obtain ⟨k, hk1, hk, rfl, rfl⟩ := hrel
    by_cases hlt : k < n
    · obtain ⟨ad', v, e, _, hv, _, hcell⟩ := h.at_ hlt
      injection e with e; subst e
      have HB : Hid (mn a (l.take k) = min (mn a (l.take (k - 1))) v) := by
        obtain ⟨j, rfl⟩ : ∃ j, k = j + 1 := ⟨k - 1, by omega⟩
        have hv' : l[j]? = some v := by simpa using hv.out
        show mn a (l.take (j + 1)) = _
        rw [take_of_get hv', mn_snoc]; rfl
      obtain ⟨x, hx⟩ : ∃ x, x = mn a (l.take (k - 1)) := ⟨_, rfl⟩
      rw [← hx] at HB ⊢
      clear hx
      go_wp2
      go_round
      case rel => exact ⟨k + 1, by omega, by omega, by go_num, by rw [Nat.add_sub_cancel, HB.out]⟩
      case measure => simp [intOf]; omega
    · have HR : Hid (mn a (l.take (k - 1)) = mn a l) := by rw [List.take_of_length_le (by have := HL.out; simp at this; omega)]; rfl
      go_wp2
      go_ret
      exact ⟨ret_int HR.out, rfl⟩

/-! ### What may come next -/
/-- numbers, a number and an error -/
def IntsNumErr (x : List Int × Int × Int) (w : World) (e : Ending) (w' : World) : Prop :=
  ∃ A c, e = .returned (.tuple #[.slice A x.1.length c, .int .i64 x.2.1, .int .i64 x.2.2]) ∧ OwnI w' w.heap.size 3 A x.1.length c x.1 ∧ Below w.heap.size w w'
theorem IntsNumErr.none_ {w w' : World} {x : List Int × Int × Int} {z : Int} (h : x = ([], 0, z)) (hb : Below w.heap.size w w') : IntsNumErr x w (.returned (.tuple #[.slice none 0 0, .int .i64 0, .int .i64 z])) w' := by
  subst h; exact ⟨none, 0, rfl, OwnI.nil_ _ _ _, hb⟩
theorem RdI.of_blk {w : World} {g n : Nat} {t : TypeId} {l : List Int} (h : Blk w g t (ints l).toArray) (hn : l.length = n) (h4 : n ≤ 1000000) (hl : ∀ v ∈ l, I64 v) : RdI w (some ⟨g, 0, none⟩) n l :=
  ⟨⟨by simp [hn], by omega, fun _ => ⟨_, rfl, h.lt, fun j u hu => by
    show w.cell? (Addr.add ⟨g, 0, none⟩ j) = some u
    rw [show Addr.add ⟨g, 0, none⟩ j = ⟨g, j, none⟩ by unfold Addr.add; by_cases h0 : j = 0 <;> simp [h0]]
    rw [h.cell]; simpa using hu⟩⟩, hl⟩
theorem restE_chk {c seen : List Int} {d : Int} (h : chkS c d ≠ 0) : restE c d seen = ([], 0, chkS c d) := by unfold restE; rw [if_pos h]
theorem restE_full {c seen : List Int} {d : Int} (h : chkS c d = 0) (h1 : d < seen.length) : restE c d seen = ([], 0, 8) := by unfold restE; rw [if_neg (by omega), if_pos h1]
theorem restE_missing {c seen : List Int} {d : Int} (h : chkS c d = 0) (h1 : ¬d < seen.length) (h2 : inK c seen = false) : restE c d seen = ([], 0, 7) := by unfold restE; rw [if_neg (by omega), if_neg h1, if_pos h2]
theorem restE_over {c seen : List Int} {d : Int} (h : chkS c d = 0) (h1 : ¬d < seen.length) (h2 : inK c seen = true) (h3 : negB (restTo c seen seen.length) = true) : restE c d seen = ([], 0, 14) := by
  unfold restE; rw [if_neg (by omega), if_neg h1, if_neg (by rw [h2]; simp), if_pos h3]
theorem restE_all {c seen : List Int} {d : Int} (h : chkS c d = 0) (h2 : inK c seen = true) (h3 : negB (restTo c seen seen.length) = false) (h4 : (seen.length : Int) = d) : restE c d seen = ([], 0, 0) := by
  unfold restE; rw [if_neg (by omega), if_neg (by omega), if_neg (by rw [h2]; simp), if_neg (by rw [h3]; simp), if_pos h4]
theorem restE_some {c seen : List Int} {d : Int} (h : chkS c d = 0) (h1 : (seen.length : Int) < d) (h2 : inK c seen = true) (h3 : negB (restTo c seen seen.length) = false) :
    restE c d seen = (kindsOf (restTo c seen seen.length) 6, if (kindsOf (restTo c seen seen.length) 6).length = 1 then d - seen.length else 0, 0) := by
  unfold restE; rw [if_neg (by omega), if_neg (by omega), if_neg (by rw [h2]; simp), if_neg (by rw [h3]; simp), if_neg (by omega)]
theorem restTo_bd {c seen : List Int} (h6 : c.length ≤ 6) (hc : okCounts c = true) (j : Nat) : ∀ v ∈ restTo c seen j, -(j : Int) ≤ v ∧ v ≤ 9 := by
  intro v hv
  obtain ⟨m, hm, rfl⟩ := List.getElem_of_mem hv
  have hm6 : m < (pad6 c).length := by unfold restTo at hm; rwa [leftTo_len] at hm
  have hg := left_get (seen := seen) j m hm6
  have hk := (pad6_kinds h6 hc).at_ m
  have e : (leftTo (pad6 c) seen j).getD m 0 = (restTo c seen j)[m] := getD_of_get (List.getElem?_eq_getElem hm)
  rw [e] at hg
  have hle : (seen.take j).countP (fun k => k.toNat == m) ≤ j := Nat.le_trans (List.countP_le_length) (by simp; omega)
  omega
theorem restTo_len {c seen : List Int} (h6 : c.length ≤ 6) (j : Nat) : (restTo c seen j).length = 6 := by unfold restTo; rw [leftTo_len, pad6_len h6]
theorem restTo_succ {c seen : List Int} {j : Nat} {k : Int} (h : seen[j]? = some k) : restTo c seen (j + 1) = restStep (restTo c seen j) k := leftTo_succ h

set_option maxHeartbeats 2000000 in
set_option maxRecDepth 100000 in
theorem rest_any (A B : Option Addr) (n c m e0 : Nat) (l seen : List Int) (d : Int) (w : World) (h : RdI w A n l) (hs : RdI w B m seen) (hd : I64 d) : Calls Try.prog 55 #[.agg #[.slice A n c, .int .i64 d], .slice B m e0] w (IntsNumErr (restE l d seen) w) := by
  have hlen := h.len
  have hslen := hs.len
  have hmbd := hs.bd
  go_enter Try.func55, Try.ntmps55
  go_upto_region 1 with fail
  have HA := Lib.hid (h.alloc (.cells #[.slice A n c, .int .i64 d] 24))
  have HS := Lib.hid (hs.alloc (.cells #[.slice A n c, .int .i64 d] 24))
  have HB := Lib.hid ((Below.refl _ w).alloc (Nat.le_refl _) (.cells #[.slice A n c, .int .i64 d] 24))
  have HX := Lib.hid (Blk.new w 24 #[.slice A n c, .int .i64 d])
  clear h hs
  generalize w.alloc (.cells #[.slice A n c, .int .i64 d] 24) = W at HA HB HX HS ⊢
  have c0 : W.cell? ⟨w.heap.size, 0, none⟩ = some (.slice A n c) := by rw [HX.out.cell]; rfl
  have c1 : W.cell? ⟨w.heap.size, 1, none⟩ = some (.int .i64 d) := by rw [HX.out.cell]; rfl
  go_wp2_with fail
  refine (checkS_any A n c l d W HA.out hd).mono ?_; rintro e w2 ⟨rfl, hb⟩
  have HA2 := Lib.hid (HA.out.below hb)
  have HS2 := Lib.hid (HS.out.below hb)
  have HX2 := Lib.hid (HX.out.below hb)
  have HB2 := Lib.hid (HB.out.trans (hb.mono HB.out.size))
  have c02 : w2.cell? ⟨w.heap.size, 0, none⟩ = some (.slice A n c) := by rw [HX2.out.cell]; rfl
  have c12 : w2.cell? ⟨w.heap.size, 1, none⟩ = some (.int .i64 d) := by rw [HX2.out.cell]; rfl
  clear hb HX c0 c1 HA HS HB
  by_cases hz : chkS l d = 0
  · have hk := chkS_ok hz
    have HZ := Lib.hid hz
    have HOK := Lib.hid hk.2.2.1
    have hn1 : 1 ≤ n := by omega
    have hn6 : n ≤ 6 := by omega
    have hd1 : 1 ≤ d := by omega
    have hd9 : d ≤ 9 := by omega
    have HLN := Lib.hid hlen
    have HSL := Lib.hid hslen
    clear hk hlen hslen
    rw [hz]
    clear hz
    by_cases hfull : d < (m : Int)
    · have HV := Lib.hid (restE_full (seen := seen) HZ.out (by rw [HSL.out]; exact hfull))
      go_wp2
      go_ret3
      exact IntsNumErr.none_ HV.out HB2.out
    · have hmd : (m : Int) ≤ d := by omega
      have HNF : Hid (¬ d < (seen.length : Int)) := Lib.hid (by rw [HSL.out]; exact hfull)
      clear hfull
      go_wp2_with fail
      refine (leftOf_any A n c l w2 HA2.out hn6 hn1).mono ?_; rintro e w3 ⟨rfl, hb⟩
      have HA3 := Lib.hid (HA2.out.below hb)
      have HS3 := Lib.hid (HS2.out.below hb)
      have HX3 := Lib.hid (HX2.out.below hb)
      have HB3 := Lib.hid (HB2.out.trans (hb.mono HB2.out.size))
      clear hb HX2 c02 c12 HA2 HS2 HB2
      have h6 := pad6_len (c := l) (by rw [HLN.out]; exact hn6)
      have hsz6 := left_size h6
      have hold : zero6.size = (ints (pad6 l)).toArray.size := by rw [ints6_size h6]; rfl
      have hnew := Lib.hid (Blk.new w3 94 zero6)
      have HY4 : Hid (Blk ((w3.alloc (.cells zero6 94)).setRow w3.heap.size (ints (pad6 l)).toArray) w3.heap.size 94 (ints (restTo l seen 0)).toArray) := Lib.hid (setRow_heap _ _ _ _ _ _ hnew.out)
      have HB4 := Lib.hid (below_setRow ((Below.refl _ w3).alloc (Nat.le_refl _) (.cells zero6 94)) (Nat.le_refl _) (ints (pad6 l)).toArray)
      go_upto_region 7 with (refine wpList_store_row rfl _ (.tmp 8) (.tmp 25) rfl w3.heap.size (ints (pad6 l)).toArray rfl rfl _ _ hnew.out hsz6 hold ints_one ?_)
      generalize hW4 : (w3.alloc (.cells zero6 94)).setRow w3.heap.size (ints (pad6 l)).toArray = w4 at HY4 HB4
      unfold zero6 at hW4
      rw [hW4]
      obtain ⟨g, hg⟩ : ∃ g, w3.heap.size = g := ⟨_, rfl⟩
      have hgl : w.heap.size ≤ g := by rw [← hg]; exact HB3.out.size
      rw [hg] at HY4 HB4
      have HG := Lib.hid hg
      rw [hg]
      clear hW4 hnew hold hsz6 h6 hg
      have hfd : decide (d < (m : Int)) = false := decide_eq_false (by omega)
      have hm9 : m ≤ 9 := by omega
      have HBD : Hid (∀ j, ∀ v ∈ restTo l seen j, -(j : Int) ≤ v ∧ v ≤ 9) := Lib.hid (fun j => restTo_bd (by rw [HLN.out]; exact hn6) HOK.out j)
      have HRL : Hid (∀ j, (restTo l seen j).length = 6) := Lib.hid (fun j => restTo_len (by rw [HLN.out]; exact hn6) j)
      rw [hfd]
      go_wp2_with fail
      go_loopw [4, 5, 28] (fun s4 s5 i wr => s4 = .slice none 0 0 ∧ s5 = .int .i64 0 ∧ ∃ j : Nat, j ≤ m ∧ i = .int .i64 j ∧ inK l (seen.take j) = true ∧ Blk wr g 94 (ints (restTo l seen j)).toArray ∧ Below g w3 wr) (fun _ _ i _ => m - (intOf i).toNat)
      case atStart => exact ⟨rfl, rfl, 0, by omega, rfl, rfl, HY4.out, HB4.out⟩
      case round =>
        obtain ⟨rfl, rfl, j, hj, rfl, hin, hblk, hbel⟩ := hrel
        have HIN := Lib.hid hin
        have HY := Lib.hid hblk
        have HBE := Lib.hid hbel
        have hbel3 : Below w3.heap.size w3 wr := by rw [HG.out]; exact hbel
        have HS4 := Lib.hid (HS3.out.below hbel3)
        have HX4 := Lib.hid (HX3.out.below hbel3)
        have hgw : g ≤ wr.heap.size := by have := hbel3.size; rw [HG.out] at this; exact this
        have k0 : wr.cell? ⟨w.heap.size, 0, none⟩ = some (.slice A n c) := by rw [HX4.out.cell]; rfl
        have k1 : wr.cell? ⟨w.heap.size, 1, none⟩ = some (.int .i64 d) := by rw [HX4.out.cell]; rfl
        have HB4 := Lib.hid (HB3.out.trans (hbel3.mono HB3.out.size))
        clear hin hblk hbel hbel3 HY4
        by_cases hlt : j < m
        · obtain ⟨ad, v, rfl, _, hv, _, hcell⟩ := HS4.out.at_ hlt
          by_cases hr : v < 0 ∨ (n : Int) - 1 < v
          · have HV := Lib.hid (restE_missing HZ.out (by have := HNF.out; omega) (inK_no (List.mem_of_getElem? hv.out) (by rw [HLN.out]; exact hr)))
            have HW := Lib.hid (within_no hr)
            clear hr
            go_wp2_with fail
            refine (withinD_any v 0 ((n : Int) - 1) wr).mono ?_; rintro e w' ⟨rfl, rfl⟩
            rw [HW.out]
            go_wp2
            go_ret3
            exact IntsNumErr.none_ HV.out HB4.out
          · have hv0 : 0 ≤ v := by omega
            have hvn : v ≤ (n : Int) - 1 := by omega
            have HW := Lib.hid (within_yes hv0 hvn)
            have HT : Hid (inK l (seen.take (j + 1)) = true) := Lib.hid (by rw [inK_take hv.out, HIN.out, HLN.out]; simp; omega)
            obtain ⟨k, rfl⟩ : ∃ k : Nat, v = k := ⟨v.toNat, by omega⟩
            clear hr
            obtain ⟨x, hx⟩ : ∃ x, (restTo l seen j)[k]? = some x := ⟨_, get_getD (by rw [HRL.out]; omega)⟩
            have hxb := HBD.out j x (List.mem_of_getElem? hx)
            have q0 : wr.cell? ⟨g, k, none⟩ = some (.int .i64 x) := by rw [HY.out.cell, ints_arr_get hx]
            have q1 := HY.out.frozen k
            have HN : Hid (restTo l seen (j + 1) = (restTo l seen j).set k (x - 1)) := Lib.hid (by rw [restTo_succ hv.out]; unfold restStep; rw [Int.toNat_natCast, getD_of_get hx])
            have hk6 : k < 6 := by omega
            have hk6i : (k : Int) < 6 := by omega
            have hx1 : -9 ≤ x := by omega
            have hx9 : x ≤ 9 := by omega
            clear hx hxb
            go_wp2_with fail
            refine (withinD_any k 0 ((n : Int) - 1) wr).mono ?_; rintro e w' ⟨rfl, rfl⟩
            rw [HW.out]
            go_wp2
            go_roundw
            case rel => exact ⟨rfl, rfl, j + 1, by omega, by go_num, HT.out, by rw [HN.out, ← ints_arr_set]; exact HY.out.set_ _ _, HBE.out.setCell (p := ⟨g, k, none⟩) (Nat.le_refl _) _⟩
            case measure => simp [intOf]; omega
        · obtain rfl : j = m := by omega
          have HI : Hid (inK l seen = true) := Lib.hid (by have := HIN.out; rwa [List.take_of_length_le (by rw [HSL.out]; omega)] at this)
          obtain ⟨R, hR⟩ : ∃ R, restTo l seen j = R := ⟨_, rfl⟩
          have hbdR := HBD.out j
          have hRL := HRL.out j
          rw [hR] at hbdR hRL HY
          have HBR : Hid (∀ v ∈ R, -9 ≤ v ∧ v ≤ 9) := Lib.hid (fun v hv => by have := hbdR v hv; omega)
          have HRR := Lib.hid (show restTo l seen seen.length = R by rw [HSL.out, hR])
          obtain ⟨a, r, har⟩ : ∃ a r, R = a :: r := by
            match R, hRL with
            | a :: r, _ => exact ⟨a, r, rfl⟩
          have HRD : Hid (RdI wr (some ⟨g, 0, none⟩) 6 (a :: r)) := Lib.hid (by rw [← har]; exact RdI.of_blk HY.out hRL (by omega) (fun v hv => I64.small (by have := HBR.out v hv; omega)))
          have hng : decide (mn a r < 0) = negB R := by rw [har]; exact mn_neg a r
          obtain ⟨y, hy⟩ : ∃ y, mn a r = y := ⟨_, rfl⟩
          rw [hy] at hng
          have HMN : Hid (Calls Try.prog 109 #[.slice (some ⟨g, 0, none⟩) 6 6] wr fun e w' => e = .returned (.int .i64 y) ∧ wr = w') := Lib.hid (by rw [← hy]; exact min_any (some ⟨g, 0, none⟩) 6 6 a r wr HRD.out)
          have HRL6 := Lib.hid hRL
          clear hbdR hRL hy har HRD hR HIN HRL HBD
          by_cases hn0 : negB R = true
          · have HV := Lib.hid (restE_over HZ.out (by have := HNF.out; omega) HI.out (by rw [HRR.out]; exact hn0))
            have hy0 : y < 0 := by rw [hn0] at hng; exact of_decide_eq_true hng
            clear hng hn0
            go_wp2_with fail
            refine HMN.out.mono ?_; rintro e w' ⟨rfl, rfl⟩
            go_wp2
            go_ret3
            exact IntsNumErr.none_ HV.out HB4.out
          · have hn1' : negB R = false := by simpa using hn0
            have hy0 : 0 ≤ y := by rw [hn1'] at hng; have := of_decide_eq_false hng; omega
            have HNG := Lib.hid hn1'
            clear hng hn0 hn1'
            by_cases hjd : (j : Int) = d
            · have HV := Lib.hid (restE_all HZ.out HI.out (by rw [HRR.out]; exact HNG.out) (by rw [HSL.out]; exact hjd))
              go_wp2_with fail
              refine HMN.out.mono ?_; rintro e w' ⟨rfl, rfl⟩
              rw [← hjd] at k1
              go_wp2
              go_ret3
              exact IntsNumErr.none_ HV.out HB4.out
            · have HV := Lib.hid (restE_some HZ.out (by rw [HSL.out]; omega) HI.out (by rw [HRR.out]; exact HNG.out))
              rw [HRR.out, HSL.out] at HV
              have hjd2 : (j : Int) < d := by omega
              have gj : ((j : Int) == d) = false := by simpa using hjd
              have hszR := left_size HRL6.out
              clear hjd
              go_wp2_with fail
              refine HMN.out.mono ?_; rintro e w' ⟨rfl, rfl⟩
              go_wp2_with (first | (refine wpList_load_row rfl _ (.tmp 8) rfl g rfl _ _ _ _ HY.out Try.underlying94 rfl hszR ?_))
              obtain ⟨wm, rfl⟩ : ∃ wm, wm = wr := ⟨_, rfl⟩
              go_loopw [4, 54] (fun s i w9 => ∃ (k : Nat) (A' : Option Addr) (c' : Nat), k ≤ 6 ∧ i = .int .i64 k ∧ s = .slice A' (kindsOf R k).length c' ∧ OwnI w9 wm.heap.size 3 A' (kindsOf R k).length c' (kindsOf R k) ∧ Below wm.heap.size wm w9) (fun _ i _ => 6 - (intOf i).toNat)
              case atStart => exact ⟨0, none, 0, by omega, rfl, rfl, OwnI.nil_ _ _ _, Below.refl _ _⟩
              case round =>
                obtain ⟨k, A', c', hk, rfl, rfl, hown, hbel9⟩ := hrel
                have HO := Lib.hid hown
                have HB9 := Lib.hid hbel9
                have hkl := kindsOf_len R k
                have hsz9 := hbel9.size
                clear hown hbel9
                by_cases hlt6 : k < 6
                · obtain ⟨v, hv⟩ : ∃ v, R[k]? = some v := ⟨_, get_getD (by rw [HRL6.out]; exact hlt6)⟩
                  have q := run_index_left hv hlt6
                  have hvb := HBR.out v (List.mem_of_getElem? hv)
                  by_cases hv0 : 0 < v
                  · have HN : Hid (kindsOf R (k + 1) = kindsOf R k ++ [(k : Int)]) := Lib.hid (by rw [kindsOf_succ, getD_of_get hv, if_pos hv0])
                    have HNL : Hid ((kindsOf R (k + 1)).length = (kindsOf R k).length + 1) := Lib.hid (by rw [HN.out]; simp)
                    generalize kindsOf R k = K at HO HN hkl HNL ⊢
                    clear hv
                    go_wp2_with (at_builtin; go_must (refine wpList_appI1 _ rfl (.tmp 60) (.tmp 62) rfl _ rfl rfl HO.out (v := (k : Int)) (I64.small (by omega)) (by omega) hsz9 ?_); intro A2 c2 w' kk; have KK := Lib.hid kk; clear kk)
                    go_roundw
                    case rel => exact ⟨k + 1, A2, c2, by omega, by go_num, by rw [HNL.out], by rw [HNL.out, HN.out]; exact KK.out.own, HB9.out.trans KK.out.below⟩
                    case measure => simp [intOf]; omega
                  · have HN : Hid (kindsOf R (k + 1) = kindsOf R k) := Lib.hid (by rw [kindsOf_succ, getD_of_get hv, if_neg hv0])
                    have hv0' : v ≤ 0 := by omega
                    clear hv hv0
                    generalize kindsOf R k = K at HO HN hkl ⊢
                    go_wp2
                    go_roundw
                    case rel => exact ⟨k + 1, A', c', by omega, by go_num, by rw [HN.out], by rw [HN.out]; exact HO.out, HB9.out⟩
                    case measure => simp [intOf]; omega
                · obtain rfl : k = 6 := by omega
                  have z1 : wr.cell? ⟨w.heap.size, 1, none⟩ = some (.int .i64 d) := by
                    have hlt9 := (HX4.out.lt)
                    exact (HB9.out.cell (p := ⟨w.heap.size, 1, none⟩) hlt9).trans k1
                  have HBF := Lib.hid (HB4.out.trans (HB9.out.mono HB4.out.size))
                  have HOF := Lib.hid (HO.out.mono HB4.out.size)
                  generalize kindsOf R 6 = K at HO HOF HV hkl ⊢
                  by_cases hK1 : K.length = 1
                  · rw [if_pos hK1] at HV
                    rw [hK1] at HOF ⊢
                    have HK1 := Lib.hid hK1
                    clear hK1 hkl HO
                    go_wp2
                    go_ret3
                    rw [HV.out]
                    exact ⟨A', c', (by rw [HK1.out]; rfl), (by rw [HK1.out]; exact HOF.out), HBF.out⟩
                  · rw [if_neg hK1] at HV
                    have gk : ((K.length : Int) == 1) = false := by simp; omega
                    clear HO
                    go_wp2
                    go_ret3
                    rw [HV.out]
                    exact ⟨A', c', rfl, HOF.out, HBF.out⟩
  · have HV := Lib.hid (restE_chk (seen := seen) hz)
    have g : (chkS l d != 0) = true := by simpa using hz
    clear hz
    generalize chkS l d = z at g HV ⊢
    go_wp2
    go_ret3
    exact IntsNumErr.none_ HV.out HB2.out
end Go.Proofs.Ytgnfkgmppeohoaa
