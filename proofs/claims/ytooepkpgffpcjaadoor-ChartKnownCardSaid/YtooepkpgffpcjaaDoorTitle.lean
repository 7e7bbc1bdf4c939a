/- Walks: Title and Find: the program's. -/
import Derived.Test.YtooepkpgffpcjaaDoorTitled
import Derived.Test.YtooepkpgffpcjaaDoorCover
import Derived.Test.YtooepkpgffpcjaaDoorRanks
import Derived.Test.YtooepkpgffpcjaaDoorAwake
namespace Go.Proofs.YtooepkpgffpcjaaDoor
open Go.RowKit

/-- where a title stands first, or -1 -/
def idxT (L : List (List UInt8)) (t : List UInt8) : Int := if t ∈ L then (L.idxOf t : Int) else -1
theorem idxT_at {L : List (List UInt8)} {t : List UInt8} {k : Nat} (hk : L[k]? = some t) (h : ∀ j, j < k → L[j]? ≠ some t) : idxT L t = k := by
  unfold idxT
  have hx : t ∈ L := List.mem_of_getElem? hk
  have h1 := List.idxOf_lt_length_of_mem hx
  have h2 : L[L.idxOf t]? = some t := by rw [List.getElem?_eq_getElem h1, List.getElem_idxOf h1]
  rw [if_pos hx]
  rcases Nat.lt_trichotomy (L.idxOf t) k with h3 | h3 | h3
  · exact absurd h2 (h _ h3)
  · rw [h3]
  · have := List.not_of_lt_findIdx (p := (· == t)) (xs := L) (i := k) h3
    obtain ⟨_, e⟩ := List.getElem?_eq_some_iff.1 hk
    simp [e] at this
theorem idxT_none {L : List (List UInt8)} {t : List UInt8} (h : ∀ j, j < L.length → L[j]? ≠ some t) : idxT L t = -1 := by
  unfold idxT
  rw [if_neg]
  intro hm
  obtain ⟨j, hj, e⟩ := List.getElem_of_mem hm
  exact h j hj (by rw [List.getElem?_eq_getElem hj, e])
theorem str_iff (s t : ByteArray) : (s.toList == t.toList) = decide (s.data.toList = t.data.toList) := by
  rw [Lib.toList_data, Lib.toList_data]
  by_cases h : s.data.toList = t.data.toList
  · rw [decide_eq_true h, h]; exact beq_self_eq_true _
  · rw [decide_eq_false h]; exact beq_eq_false_iff_ne.2 h

set_option maxHeartbeats 1000000 in
theorem indexStr_any (A : Option Addr) (m c : Nat) (L : List (List UInt8)) (t : ByteArray) (w : World) (h : RdS w A m L) (hm : m ≤ 100000) :
    Calls Tryd.prog 113 #[.slice A m c, .string t] w fun e w' => e = .returned (.int .i64 (idxT L t.data.toList)) ∧ w' = w := by
  have HL := Lib.hid h.2
  go_enter Tryd.func113, Tryd.ntmps113
  go_wp2
  go_loop [8] (fun i => ∃ k : Nat, k ≤ m ∧ i = .int .i64 k ∧ (∀ j, j < k → L[j]? ≠ some t.data.toList)) (fun i => m - (intOf i).toNat)
  case atStart => exact ⟨0, by omega, rfl, fun j hj => absurd hj (by omega)⟩
  case round =>
    obtain ⟨k, hk, rfl, hno⟩ := hrel
    have HN := Lib.hid hno
    clear hno
    by_cases hlt : k < m
    · obtain ⟨ad, S, rfl, _, hS, hcell⟩ := h.at_ hlt
      obtain ⟨s, hs⟩ : ∃ s : ByteArray, (⟨S.toArray⟩ : ByteArray) = s := ⟨_, rfl⟩
      have HSS : Hid (s.data.toList = S) := Lib.hid (by rw [← hs])
      rw [hs] at hcell
      have hq := str_iff t s
      have hq2 := str_iff s t
      clear hs
      by_cases he : t.data.toList = s.data.toList
      · rw [decide_eq_true he] at hq
        rw [decide_eq_true he.symm] at hq2
        have HI := Lib.hid (idxT_at (L := L) (t := t.data.toList) (k := k) (by rw [hS.out, ← HSS.out, he]) HN.out)
        clear he
        go_wp2
        go_ret
        exact ⟨ret_int HI.out.symm, rfl⟩
      · rw [decide_eq_false he] at hq
        rw [decide_eq_false (fun e => he e.symm)] at hq2
        have HE := Lib.hid he
        clear he
        go_wp2
        go_round
        case rel => exact ⟨k + 1, by omega, by go_num, fun j hj => by
          by_cases e : j = k
          · subst e; rw [hS.out]; intro e; injection e with e; exact HE.out (by rw [HSS.out]; exact e.symm)
          · exact HN.out j (by omega)⟩
        case measure => simp [intOf]; omega
    · have HI := Lib.hid (idxT_none (L := L) (t := t.data.toList) (fun j hj => HN.out j (by have := HL.out; omega)))
      go_wp2
      go_ret
      exact ⟨ret_int HI.out.symm, rfl⟩

/-- Title's answer -/
def titleE (L : List (List UInt8)) (p : List Int) : List UInt8 × Int :=
  if chk p ≠ 0 then ([], chk p) else if 5 < p.length then ([], 8) else if titledE L p.length ≠ 0 then ([], titledE L p.length) else (L.getD (rnk p).toNat [], 0)
theorem TextErr.mk_ {w w' : World} {x : List UInt8 × Int} {z : Int} (h : x = ([], z)) (hb : Below w.heap.size w w') : TextErr x w (.returned (.tuple #[.string ⟨#[]⟩, .int .i64 z])) w' := ⟨by rw [h], hb⟩
theorem titled_len {L : List (List UInt8)} {n : Int} (h : titledE L n = 0) : (L.length : Int) = (countE n).1 := by
  unfold titledE at h
  by_cases e : (L.length : Int) = (countE n).1
  · exact e
  · rw [if_pos e] at h; omega

set_option maxHeartbeats 1000000 in
set_option maxRecDepth 100000 in
theorem title_any (A B : Option Addr) (m c n d : Nat) (L : List (List UInt8)) (p : List Int) (w : World) (h : RdS w A m L) (hp : RdI w B n p) (hm : m ≤ 100000) (hL : ∀ S ∈ L, S.length ≤ 1000) :
    Calls Tryd.prog 69 #[.slice A m c, .slice B n d] w (TextErr (titleE L p) w) := by
  have HC := Lib.hid (check_any B n d p w hp)
  have hlen := hp.len
  by_cases h0 : chk p = 0
  · by_cases h5 : 5 < n
    · have HV := Lib.hid (show titleE L p = ([], 8) by unfold titleE; rw [if_neg (by omega), if_pos (by omega)])
      rw [h0] at HC
      clear h0 hlen
      go_enter Tryd.func69, Tryd.ntmps69
      go_wp2_with fail
      refine HC.out.mono ?_; rintro e w' ⟨rfl, rfl⟩
      go_wp2
      go_ret2
      exact TextErr.mk_ HV.out (Below.refl _ _)
    · have HT := Lib.hid (titled_any A m c L (n : Int) w h hm hL)
      have HR := Lib.hid (fun W (hW : RdI W B n p) => rank_any B n d p W hW h0)
      have hrk := rnk_lt h0 (by omega)
      by_cases ht : titledE L (n : Int) = 0
      · have hml : (m : Int) = countR n := by
          have := titled_len ht
          unfold countE at this
          rw [if_neg (by have := (chk_ok h0).1; omega), Int.toNat_natCast] at this
          have := h.2
          omega
        rw [hlen] at hrk
        obtain ⟨r, hr⟩ : ∃ r : Nat, rnk p = r := ⟨(rnk p).toNat, by omega⟩
        have hrm : r < m := by omega
        have HV := Lib.hid (show titleE L p = (L.getD r [], 0) by unfold titleE; rw [if_neg (by omega), if_neg (by omega), hlen, if_neg (by omega), hr, Int.toNat_natCast])
        rw [h0] at HC
        rw [ht] at HT
        rw [hr] at HR
        clear h0 hlen hrk hr ht hml
        go_enter Tryd.func69, Tryd.ntmps69
        go_wp2_with fail
        refine HC.out.mono ?_; rintro e w' ⟨rfl, rfl⟩
        go_wp2_with fail
        refine HT.out.mono ?_; rintro e w1 ⟨rfl, b1⟩
        have HB1 := Lib.hid b1
        have HS1 := Lib.hid (h.below b1)
        have HP1 := Lib.hid (hp.below b1)
        clear b1
        go_wp2_with fail
        refine (HR.out w1 HP1.out).mono ?_; rintro e w2 ⟨rfl, b2⟩
        have HB2 := Lib.hid (HB1.out.trans (b2.mono HB1.out.size))
        obtain ⟨ad, S, rfl, _, hS, hcell⟩ := (HS1.out.below b2).at_ hrm
        clear b2
        go_wp2
        go_ret2
        refine ⟨?_, HB2.out⟩
        rw [HV.out, List.getD_eq_getElem?_getD, hS.out]; rfl
      · have HV := Lib.hid (show titleE L p = ([], titledE L (n : Int)) by unfold titleE; rw [if_neg (by omega), if_neg (by omega), hlen, if_pos ht])
        generalize titledE L (n : Int) = z at HT HV ht
        have g1 : (z == 0) = false := by simpa using ht
        have g2 : (z != 0) = true := by simpa using ht
        rw [h0] at HC
        clear h0 hlen hrk ht
        go_enter Tryd.func69, Tryd.ntmps69
        go_wp2_with fail
        refine HC.out.mono ?_; rintro e w' ⟨rfl, rfl⟩
        go_wp2_with fail
        refine HT.out.mono ?_; rintro e w1 ⟨rfl, b1⟩
        have HB1 := Lib.hid b1
        clear b1
        go_wp2
        go_ret2
        exact TextErr.mk_ HV.out HB1.out
  · have HV := Lib.hid (show titleE L p = ([], chk p) by unfold titleE; rw [if_pos h0])
    generalize chk p = z at HC h0 HV
    have g1 : (z == 0) = false := by simpa using h0
    have g2 : (z != 0) = true := by simpa using h0
    clear h0 hlen
    go_enter Tryd.func69, Tryd.ntmps69
    go_wp2_with fail
    refine HC.out.mono ?_; rintro e w' ⟨rfl, rfl⟩
    go_wp2
    go_ret2
    exact TextErr.mk_ HV.out (Below.refl _ _)

/-- Find's answer -/
def findE (L : List (List UInt8)) (n : Int) (t : List UInt8) : List Int × Int :=
  if n < 1 ∨ 5 < n then ([], 2) else if titledE L n ≠ 0 then ([], titledE L n) else if idxT L t < 0 then ([], 7) else unrankE n (idxT L t)
set_option maxHeartbeats 1000000 in
set_option maxRecDepth 100000 in
theorem find_any (A : Option Addr) (m c : Nat) (L : List (List UInt8)) (n : Int) (t : ByteArray) (w : World) (h : RdS w A m L) (hm : m ≤ 100000) (hL : ∀ S ∈ L, S.length ≤ 1000) :
    Calls Tryd.prog 71 #[.slice A m c, .int .i64 n, .string t] w (IntsErr (findE L n t.data.toList) w) := by
  have HW := Lib.hid (within_any n 1 5 w)
  by_cases hn : n < 1 ∨ 5 < n
  · have HV := Lib.hid (show findE L n t.data.toList = ([], 2) by unfold findE; rw [if_pos hn])
    have hb : (decide (1 ≤ n) && decide (n ≤ 5)) = false := by
      rcases hn with h1 | h1
      · rw [decide_eq_false (show ¬ 1 ≤ n by omega)]; rfl
      · rw [decide_eq_false (show ¬ n ≤ 5 by omega)]; simp
    rw [hb] at HW
    clear hn hb
    go_enter Tryd.func71, Tryd.ntmps71
    go_wp2_with fail
    refine HW.out.mono ?_; rintro e w' ⟨rfl, rfl⟩
    go_wp2
    go_ret2
    rw [HV.out]; exact IntsErr.none_ _ _
  · have hb : (decide (1 ≤ n) && decide (n ≤ 5)) = true := by rw [decide_eq_true (show 1 ≤ n by omega), decide_eq_true (show n ≤ 5 by omega)]; rfl
    rw [hb] at HW
    have HT := Lib.hid (titled_any A m c L n w h hm hL)
    have HV0 := Lib.hid (show findE L n t.data.toList = if titledE L n ≠ 0 then ([], titledE L n) else if idxT L t.data.toList < 0 then ([], 7) else unrankE n (idxT L t.data.toList) by unfold findE; rw [if_neg hn])
    by_cases ht : titledE L n = 0
    · have HV1 := Lib.hid (HV0.out.trans (if_neg (by omega)))
      rw [ht] at HT
      have HI := Lib.hid (fun W (hW : RdS W A m L) => indexStr_any A m c L t W hW hm)
      generalize idxT L t.data.toList = i at HV1 HI
      clear ht hb hn HV0
      by_cases hi : i < 0
      · have HV := Lib.hid (HV1.out.trans (if_pos hi))
        go_enter Tryd.func71, Tryd.ntmps71
        go_wp2_with fail
        refine HW.out.mono ?_; rintro e w' ⟨rfl, rfl⟩
        go_wp2_with fail
        refine HT.out.mono ?_; rintro e w1 ⟨rfl, b1⟩
        have HB1 := Lib.hid b1
        have HS1 := Lib.hid (h.below b1)
        clear b1
        go_wp2_with fail
        refine (HI.out w1 HS1.out).mono ?_; rintro e w2 ⟨rfl, rfl⟩
        go_wp2
        go_ret2
        rw [HV.out]; exact ⟨none, 0, rfl, OwnI.nil_ _ _ _, HB1.out⟩
      · have HV := Lib.hid (HV1.out.trans (if_neg hi))
        have hi0 : 0 ≤ i := by omega
        clear hi
        go_enter Tryd.func71, Tryd.ntmps71
        go_wp2_with fail
        refine HW.out.mono ?_; rintro e w' ⟨rfl, rfl⟩
        go_wp2_with fail
        refine HT.out.mono ?_; rintro e w1 ⟨rfl, b1⟩
        have HB1 := Lib.hid b1
        have HS1 := Lib.hid (h.below b1)
        clear b1
        go_wp2_with fail
        refine (HI.out w1 HS1.out).mono ?_; rintro e w2 ⟨rfl, rfl⟩
        go_wp2_with fail
        refine (unrank_any n i w2).mono ?_; rintro e w3 ⟨A3, c3, rfl, h3, b3⟩
        have HO := Lib.hid (h3.mono HB1.out.size)
        have HB3 := Lib.hid (HB1.out.trans (b3.mono HB1.out.size))
        clear h3 b3
        go_wp2
        go_ret2
        rw [HV.out]; exact ⟨A3, c3, rfl, HO.out, HB3.out⟩
    · have HV := Lib.hid (HV0.out.trans (if_pos ht))
      generalize titledE L n = z at HT HV ht
      have g1 : (z == 0) = false := by simpa using ht
      have g2 : (z != 0) = true := by simpa using ht
      clear ht hb hn HV0
      go_enter Tryd.func71, Tryd.ntmps71
      go_wp2_with fail
      refine HW.out.mono ?_; rintro e w' ⟨rfl, rfl⟩
      go_wp2_with fail
      refine HT.out.mono ?_; rintro e w1 ⟨rfl, b1⟩
      have HB1 := Lib.hid b1
      clear b1
      go_wp2
      go_ret2
      rw [HV.out]; exact ⟨none, 0, rfl, OwnI.nil_ _ _ _, HB1.out⟩
end Go.Proofs.YtooepkpgffpcjaaDoor
