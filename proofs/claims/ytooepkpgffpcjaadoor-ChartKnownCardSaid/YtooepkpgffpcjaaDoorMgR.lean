/- Walk: titled: the error of titles, the program's. Walks: Title and Find: the program's. -/
import Derived.Test.YtooepkpgffpcjaaDoorMgF
import Derived.Test.YtooepkpgffpcjaaDoorMgQ
import Derived.Test.YtooepkpgffpcjaaDoorMgC
import Derived.Maps.OwnSet
import Derived.StringKeys
import Derived.Test.YtooepkpgffpcjaaDoorMgE
import Derived.Test.YtooepkpgffpcjaaDoorMgL
import Derived.Test.YtooepkpgffpcjaaDoorMgJ
namespace Go.Proofs.YtooepkpgffpcjaaDoor
open Go.RowKit Go.Shelf

/-! ### What it answers -/
def lowers : List UInt8 := [97, 98, 99, 100, 101, 102, 103, 104, 105, 106, 107, 108, 109, 110, 111, 112, 113, 114, 115, 116, 117, 118, 119, 120, 121, 122]
/-- a title: 1 to 20 small letters -/
def okTitle (t : List UInt8) : Bool := decide (1 ≤ t.length) && decide (t.length ≤ 20) && t.all fun c => lowers.contains c
def titledGo (seen : List (List UInt8)) : List (List UInt8) → Int
  | [] => 0
  | t :: r => if okTitle t = false then 3 else if t ∈ seen then 9 else titledGo (seen ++ [t]) r
def titledE (L : List (List UInt8)) (n : Int) : Int := if (L.length : Int) ≠ (countE n).1 then 3 else titledGo [] L
theorem titledGo_at {L : List (List UInt8)} {k : Nat} {t : List UInt8} (ht : L[k]? = some t) : titledGo (L.take k) (L.drop k) = if okTitle t = false then 3 else if t ∈ L.take k then 9 else titledGo (L.take (k + 1)) (L.drop (k + 1)) := by
  obtain ⟨hk, e⟩ := List.getElem?_eq_some_iff.1 ht
  rw [List.drop_eq_getElem_cons hk, e]
  unfold titledGo
  rw [take_of_get ht]
  cases h : L.drop (k + 1) <;> rfl

/-! ### strings.Trim leaves nothing just if all are such -/
theorem dropWhile_head {α : Type} {q : α → Bool} : ∀ {l : List α} {y : α} {r : List α}, l.dropWhile q = y :: r → q y = false
  | [], _, _, h => by simp at h
  | a :: l, y, r, h => by
    rw [List.dropWhile_cons] at h
    split at h
    · exact dropWhile_head h
    · rename_i hq
      injection h with h1 h2
      subst h1
      simpa using hq
theorem dropWhile_all {α : Type} {q : α → Bool} {l : List α} (h : ∀ x ∈ l, q x = true) : l.dropWhile q = [] := by
  induction l with
  | nil => rfl
  | cons a l ih => rw [List.dropWhile_cons, if_pos (h a (by simp))]; exact ih fun x hx => h x (by simp [hx])
theorem dropWhile_none {α : Type} {q : α → Bool} {l : List α} (h : l.dropWhile q = []) : ∀ x ∈ l, q x = true := by
  induction l with
  | nil => intro x hx; cases hx
  | cons a l ih =>
    rw [List.dropWhile_cons] at h
    split at h
    · rename_i hq
      intro x hx
      rcases List.mem_cons.1 hx with rfl | hx
      · exact hq
      · exact ih h x hx
    · cases h
theorem trimS_nil (l cs : List UInt8) : (Lib.trimS l cs).isEmpty = l.all fun c => cs.contains c := by
  unfold Lib.trimS Lib.trimLeftS Lib.trimRightS
  by_cases h : ∀ x ∈ l, cs.contains x = true
  · rw [dropWhile_all (l := l.reverse) fun x hx => h x (by simpa using hx)]
    have : (l.all fun c => cs.contains c) = true := List.all_eq_true.2 h
    rw [this]; rfl
  · have h2 : (l.all fun c => cs.contains c) = false := by
      cases e : l.all fun c => cs.contains c with
      | false => rfl
      | true => exact absurd (List.all_eq_true.1 e) h
    rw [h2]
    cases e : l.reverse.dropWhile (cs.contains ·) with
    | nil => exact absurd (fun x hx => dropWhile_none e x (by simpa using hx)) h
    | cons y r =>
      have hy := dropWhile_head e
      cases e2 : (y :: r).reverse.dropWhile (cs.contains ·) with
      | nil =>
        have := dropWhile_none e2 y (by simp)
        rw [hy] at this; cases this
      | cons _ _ => rfl
theorem trim_any (s : ByteArray) (w : World) (hs : s.size ≤ 9223372036854775807) :
    Calls Tryd.prog 126 #[.string s, .string ⟨lowers.toArray⟩] w fun e w' => e = .returned (.string ⟨(Lib.trimS s.data.toList lowers).toArray⟩) ∧ Below w.heap.size w w' :=
  Any.strings_Trim_laid lays160 (by kernel_rfl) s ⟨lowers.toArray⟩ w hs (by decide) (ascii_of_all (by decide))

/-! ### The map -/
def MapS (w : World) (b n : Nat) (D : DataW Unit) : Prop := w.ownsMap Tryd.prog 9 (plainElem Tryd.prog 4) b n D
def MetS (D : DataW Unit) (S : List (List UInt8)) : Prop := Maps.Tidy D ∧ ∀ x : List UInt8, D.atKey (.string x) (.lit (.bool false)) = .lit (.bool (decide (x ∈ S)))
theorem MetS.nil_ : MetS (.map []) [] := ⟨Maps.tidy_empty, fun _ => rfl⟩
theorem MetS.put {D : DataW Unit} {S : List (List UInt8)} (h : MetS D S) (x : List UInt8) : MetS (D.put (.string x) (.lit (.bool true))) (S ++ [x]) := by
  obtain ⟨ht, hh⟩ := h
  have hk : WideAt.IsKeyLit (.string x) := trivial
  refine ⟨ht.put hk _, fun y => ?_⟩
  by_cases e : y = x
  · subst e
    rw [Maps.atKey_put_same ht.isMap hk]; simp
  · have hne : (Lit.string y) ≠ (Lit.string x) := fun h => e (by injection h)
    rw [Maps.atKey_put_other hne, hh y]; simp [e]
theorem lawStr : Maps.Keyed Tryd.prog 9 := Maps.string_keyed Tryd.underlying9
theorem zeroBool (w : World) : (zeroValue 4).run Tryd.prog w = .ok (.bool false) w := by kernel_rfl
theorem plainBool {P : Program} {e : TypeId} (he : P.underlying e = some .bool) {v : Value} {q : Bool} {ps : List MemPlace} (h : plainElem (H := Unit) P e v = some (.lit (.bool q), ps)) : v = .bool q := by
  unfold plainElem at h
  rw [he] at h
  cases v <;> simp at h
  rw [h.1]
theorem lookS {w : World} {b n : Nat} {D : DataW Unit} {S : List (List UInt8)} (h : MapS w b n D) (hm : MetS D S) (s : ByteArray) (hs : s.size ≤ maxLen) :
    (Instr.lookup 128 (.map (some b)) (.string s) false).run Tryd.prog w = .ok (.bool (decide (s.data.toList ∈ S))) w := by
  obtain ⟨v, ps, hrun, hv⟩ := World.ownsMap.lookup (t := 128) (e := 4) h lawStr Tryd.underlying128 (zeroBool w) (plainElem_bool Tryd.underlying4 false) (WideMaps.keyOf_string_mk Tryd.underlying9 hs)
  rw [hm.2] at hv
  rw [hrun, plainBool Tryd.underlying4 hv]

theorem strs_bd {L : List (List UInt8)} {k : Nat} {S : List UInt8} {M : Nat} (h : ∀ S ∈ L, S.length ≤ M) (hS : L[k]? = some S) : S.length ≤ M := h S (List.mem_of_getElem? hS)
set_option maxHeartbeats 2000000 in
set_option maxRecDepth 100000 in
theorem titled_any (A : Option Addr) (m c : Nat) (L : List (List UInt8)) (n : Int) (w : World) (h : RdS w A m L) (hm : m ≤ 100000) (hL : ∀ S ∈ L, S.length ≤ 1000) :
    Calls Tryd.prog 111 #[.slice A m c, .int .i64 n] w fun e w' => e = .returned (.int .i64 (titledE L n)) ∧ Below w.heap.size w w' := by
  have HLL := Lib.hid h.2
  have HL1 := Lib.hid hL
  have HR := Lib.hid h
  clear hL h
  obtain ⟨cn, hcn⟩ : ∃ x, countE n = x := ⟨_, rfl⟩
  have HC : Hid (∀ W, Calls Tryd.prog 39 #[.int .i64 n] W (IntErr cn W)) := Lib.hid (fun W => by rw [← hcn]; exact count_any n W)
  by_cases hne : (m : Int) = cn.1
  · have HV : Hid (titledE L n = titledGo [] L) := Lib.hid (by unfold titledE; rw [if_neg (by rw [HLL.out, hcn]; omega)])
    clear hcn
    have hmm := @run_makeMap Tryd.prog
    go_enter Tryd.func111, Tryd.ntmps111
    go_wp2_with fail
    refine (HC.out w).mono ?_; rintro e w1 ⟨rfl, b1⟩
    have HB1 := Lib.hid b1
    clear b1
    obtain ⟨g, hg⟩ : ∃ g, w1.heap.size = g := ⟨_, rfl⟩
    have HG := Lib.hid hg
    clear hg
    go_wp2_with fail
    rw [HG.out]
    go_loopw [22] (fun i wr => ∃ k : Nat, k ≤ m ∧ i = .int .i64 k ∧ titledGo [] L = titledGo (L.take k) (L.drop k) ∧ ∃ D, MapS wr g k D ∧ MetS D (L.take k) ∧ Below w1.heap.size w1 wr ∧ g < wr.heap.size) (fun i _ => m - (intOf i).toNat)
    case atStart => exact ⟨0, by omega, rfl, rfl, .map [], by rw [← HG.out]; exact World.ownsMap_made _ _ _ _, MetS.nil_, (Below.refl _ _).alloc (Nat.le_refl _) _, by have := HG.out; simp; omega⟩
    case round =>
      obtain ⟨k, hk, rfl, hgo, D, hmap, hmet, hbel, hgl⟩ := hrel
      have HGO := Lib.hid hgo
      have HMP := Lib.hid hmap
      have HMT := Lib.hid hmet
      have HB := Lib.hid (HB1.out.trans (hbel.mono HB1.out.size))
      have HB0 := Lib.hid hbel
      clear hgo hmap hmet hbel
      by_cases hkm : k < m
      · obtain ⟨ad, S, rfl, _, hS, hcell⟩ := (HR.out.below HB.out).at_ hkm
        have hl1 := strs_bd HL1.out hS.out
        have HTA := Lib.hid (HV.out.trans (HGO.out.trans (titledGo_at hS.out)))
        obtain ⟨s, hs⟩ : ∃ s : ByteArray, (⟨S.toArray⟩ : ByteArray) = s := ⟨_, rfl⟩
        have HSS : Hid (s.data.toList = S ∧ s.size = S.length) := Lib.hid ⟨by rw [← hs], by rw [← hs, size_arr]⟩
        rw [hs] at hcell
        have hss : s.size ≤ 1000 := by rw [HSS.out.2]; exact hl1
        clear hs hl1
        by_cases h1 : s.size < 1
        · have HE : Hid (titledE L n = 3) := Lib.hid (by rw [HTA.out, if_pos (by unfold okTitle; rw [decide_eq_false (by rw [← HSS.out.2]; omega)]; rfl)])
          go_wp2_with fail
          go_ret
          exact ⟨by rw [HE.out]; rfl, HB.out⟩
        by_cases h20 : 20 < s.size
        · have HE : Hid (titledE L n = 3) := Lib.hid (by rw [HTA.out, if_pos (by unfold okTitle; rw [decide_eq_false (show ¬ S.length ≤ 20 by rw [← HSS.out.2]; omega)]; simp)])
          go_wp2_with fail
          go_ret
          exact ⟨by rw [HE.out]; rfl, HB.out⟩
        have HTR := Lib.hid (trim_any s wr (by omega))
        have HOK : Hid (okTitle S = (S.all fun c => lowers.contains c)) := Lib.hid (by unfold okTitle; rw [decide_eq_true (show 1 ≤ S.length by rw [← HSS.out.2]; omega), decide_eq_true (show S.length ≤ 20 by rw [← HSS.out.2]; omega)]; rfl)
        have HTN := Lib.hid (trimS_nil S lowers)
        go_wp2_with fail
        refine HTR.out.mono ?_; rintro e w2 ⟨rfl, b2⟩
        have HMP2 : Hid (MapS w2 g k D) := Lib.hid (World.ownsMap.kept HMP.out (grown_of_below b2 none) (by simp))
        have HB2 := Lib.hid (HB.out.trans (b2.mono HB.out.size))
        have HB02 := Lib.hid (HB0.out.trans (b2.mono HB0.out.size))
        have hg2 : g < w2.heap.size := Nat.lt_of_lt_of_le hgl b2.size
        obtain ⟨tr, htr⟩ : ∃ tr : ByteArray, (⟨(Lib.trimS s.data.toList lowers).toArray⟩ : ByteArray) = tr := ⟨_, rfl⟩
        have hte : tr.toList.isEmpty = S.all fun c => lowers.contains c := by rw [← htr, Lib.toList_data, ← HTN.out, HSS.out.1]
        rw [htr]
        clear htr b2 HMP HB HB0 HTR HTN
        cases hal : S.all fun c => lowers.contains c with
        | false =>
          rw [hal] at hte HOK
          have HE : Hid (titledE L n = 3) := Lib.hid (by rw [HTA.out, if_pos HOK.out])
          clear hal
          go_wp2_with fail
          go_ret
          exact ⟨by rw [HE.out]; rfl, HB2.out⟩
        | true =>
          rw [hal] at hte HOK
          have HTB := Lib.hid (HTA.out.trans (if_neg (by rw [HOK.out]; simp)))
          have hlk := lookS HMP2.out HMT.out s (by unfold maxLen; omega)
          rw [HSS.out.1] at hlk
          clear hal HTA
          by_cases hin : S ∈ L.take k
          · rw [decide_eq_true hin] at hlk
            have HE : Hid (titledE L n = 9) := Lib.hid (by rw [HTB.out, if_pos hin])
            clear hin
            go_wp2_with fail
            go_ret
            exact ⟨by rw [HE.out]; rfl, HB2.out⟩
          · rw [decide_eq_false hin] at hlk
            have HTC := Lib.hid (HTB.out.trans (if_neg hin))
            have HPU := Lib.hid (HMT.out.put S)
            have HTK : Hid (L.take (k + 1) = L.take k ++ [S]) := Lib.hid (take_of_get hS.out)
            have HKY : Hid (keyOf Tryd.prog 9 (.string s) = some (.string S)) := Lib.hid (by rw [← HSS.out.1]; exact WideMaps.keyOf_string_mk Tryd.underlying9 (by unfold maxLen; omega))
            clear hin HTB
            go_wp2_with (at_mapUpdate; go_loud (refine wpList_mapUpdate_own _ rfl _ _ _ _ rfl 9 4 lawStr Tryd.underlying128 _ g k D rfl HMP2.out (by unfold maxLen; omega) _ _ _ rfl rfl HKY.out _ [] (plainElem_bool Tryd.underlying4 true) ?_; intro w3 hown3 hgrow3; have HO3 := Lib.hid hown3; have HG3 := Lib.hid hgrow3; clear hown3 hgrow3))
            go_roundw
            case rel => exact ⟨k + 1, by omega, by go_num, by rw [← HV.out]; exact HTC.out, _, HO3.out, by rw [HTK.out]; exact HPU.out, HB02.out.grown HG3.out HB02.out.size (fun j hj => by cases hj; have := HG.out; omega), Nat.lt_of_lt_of_le hg2 HG3.out.size⟩
            case measure => simp [intOf]; omega
      · obtain rfl : k = m := by omega
        have HE : Hid (titledE L n = 0) := Lib.hid (by rw [HV.out, HGO.out, List.drop_of_length_le (by rw [HLL.out]; omega)]; rfl)
        go_wp2
        go_ret
        exact ⟨by rw [HE.out]; rfl, HB.out⟩
  · have HV : Hid (titledE L n = 3) := Lib.hid (by unfold titledE; rw [if_pos (by rw [HLL.out, hcn]; omega)])
    clear hcn
    go_enter Tryd.func111, Tryd.ntmps111
    go_wp2_with fail
    refine (HC.out w).mono ?_; rintro e w1 ⟨rfl, b1⟩
    have HB1 := Lib.hid b1
    clear b1
    go_wp2
    go_ret
    exact ⟨by rw [HV.out]; rfl, HB1.out⟩
end Go.Proofs.YtooepkpgffpcjaaDoor

namespace Go.Proofs.YtooepkpgffpcjaaDoor
open Go.RowKit

/-- where a title stands first, or -1 -/
def idxT (L : List (List UInt8)) (t : List UInt8) : Int := if t ∈ L then (L.idxOf t : Int) else -1
theorem idxT_at {L : List (List UInt8)} {t : List UInt8} {k : Nat} (hk : L[k]? = some t) (h : ∀ j, j < k → L[j]? ≠ some t) : idxT L t = k := by
  unfold idxT
  have hx : t ∈ L := List.mem_of_getElem? hk
  have h1 := List.idxOf_lt_length_of_mem hx
  have h2 : L[L.idxOf t]? = some t := by rw [List.getElem?_eq_getElem h1, List.getElem_idxOf h1]
  rw [if_pos hx]
  rcases Nat.lt_trichotomy (L.idxOf t) k with h3 | h3 | h3
  · exact absurd h2 (h _ h3)
  · rw [h3]
  · have := List.not_of_lt_findIdx (p := (· == t)) (xs := L) (i := k) h3
    obtain ⟨_, e⟩ := List.getElem?_eq_some_iff.1 hk
    simp [e] at this
theorem idxT_none {L : List (List UInt8)} {t : List UInt8} (h : ∀ j, j < L.length → L[j]? ≠ some t) : idxT L t = -1 := by
  unfold idxT
  rw [if_neg]
  intro hm
  obtain ⟨j, hj, e⟩ := List.getElem_of_mem hm
  exact h j hj (by rw [List.getElem?_eq_getElem hj, e])
theorem str_iff (s t : ByteArray) : (s.toList == t.toList) = decide (s.data.toList = t.data.toList) := by
  rw [Lib.toList_data, Lib.toList_data]
  by_cases h : s.data.toList = t.data.toList
  · rw [decide_eq_true h, h]; exact beq_self_eq_true _
  · rw [decide_eq_false h]; exact beq_eq_false_iff_ne.2 h

set_option maxHeartbeats 1000000 in
theorem indexStr_any (A : Option Addr) (m c : Nat) (L : List (List UInt8)) (t : ByteArray) (w : World) (h : RdS w A m L) (hm : m ≤ 100000) :
    Calls Tryd.prog 113 #[.slice A m c, .string t] w fun e w' => e = .returned (.int .i64 (idxT L t.data.toList)) ∧ w' = w := by
  have HL := Lib.hid h.2
  go_enter Tryd.func113, Tryd.ntmps113
  go_wp2
  go_loop [8] (fun i => ∃ k : Nat, k ≤ m ∧ i = .int .i64 k ∧ (∀ j, j < k → L[j]? ≠ some t.data.toList)) (fun i => m - (intOf i).toNat)
  case atStart => exact ⟨0, by omega, rfl, fun j hj => absurd hj (by omega)⟩
  case round =>
    obtain ⟨k, hk, rfl, hno⟩ := hrel
    have HN := Lib.hid hno
    clear hno
    by_cases hlt : k < m
    · obtain ⟨ad, S, rfl, _, hS, hcell⟩ := h.at_ hlt
      obtain ⟨s, hs⟩ : ∃ s : ByteArray, (⟨S.toArray⟩ : ByteArray) = s := ⟨_, rfl⟩
      have HSS : Hid (s.data.toList = S) := Lib.hid (by rw [← hs])
      rw [hs] at hcell
      have hq := str_iff t s
      have hq2 := str_iff s t
      clear hs
      by_cases he : t.data.toList = s.data.toList
      · rw [decide_eq_true he] at hq
        rw [decide_eq_true he.symm] at hq2
        have HI := Lib.hid (idxT_at (L := L) (t := t.data.toList) (k := k) (by rw [hS.out, ← HSS.out, he]) HN.out)
        clear he
        go_wp2
        go_ret
        exact ⟨ret_int HI.out.symm, rfl⟩
      · rw [decide_eq_false he] at hq
        rw [decide_eq_false (fun e => he e.symm)] at hq2
        have HE := Lib.hid he
        clear he
        go_wp2
        go_round
        case rel => exact ⟨k + 1, by omega, by go_num, fun j hj => by
          by_cases e : j = k
          · subst e; rw [hS.out]; intro e; injection e with e; exact HE.out (by rw [HSS.out]; exact e.symm)
          · exact HN.out j (by omega)⟩
        case measure => simp [intOf]; omega
    · have HI := Lib.hid (idxT_none (L := L) (t := t.data.toList) (fun j hj => HN.out j (by have := HL.out; omega)))
      go_wp2
      go_ret
      exact ⟨ret_int HI.out.symm, rfl⟩

/-- Title's answer -/
def titleE (L : List (List UInt8)) (p : List Int) : List UInt8 × Int :=
  if chk p ≠ 0 then ([], chk p) else if 5 < p.length then ([], 8) else if titledE L p.length ≠ 0 then ([], titledE L p.length) else (L.getD (rnk p).toNat [], 0)
theorem TextErr.mk_ {w w' : World} {x : List UInt8 × Int} {z : Int} (h : x = ([], z)) (hb : Below w.heap.size w w') : TextErr x w (.returned (.tuple #[.string ⟨#[]⟩, .int .i64 z])) w' := ⟨by rw [h], hb⟩
theorem titled_len {L : List (List UInt8)} {n : Int} (h : titledE L n = 0) : (L.length : Int) = (countE n).1 := by
  unfold titledE at h
  by_cases e : (L.length : Int) = (countE n).1
  · exact e
  · rw [if_pos e] at h; omega

set_option maxHeartbeats 1000000 in
set_option maxRecDepth 100000 in
theorem title_any (A B : Option Addr) (m c n d : Nat) (L : List (List UInt8)) (p : List Int) (w : World) (h : RdS w A m L) (hp : RdI w B n p) (hm : m ≤ 100000) (hL : ∀ S ∈ L, S.length ≤ 1000) :
    Calls Tryd.prog 69 #[.slice A m c, .slice B n d] w (TextErr (titleE L p) w) := by
  have HC := Lib.hid (check_any B n d p w hp)
  have hlen := hp.len
  by_cases h0 : chk p = 0
  · by_cases h5 : 5 < n
    · have HV := Lib.hid (show titleE L p = ([], 8) by unfold titleE; rw [if_neg (by omega), if_pos (by omega)])
      rw [h0] at HC
      clear h0 hlen
      go_enter Tryd.func69, Tryd.ntmps69
      go_wp2_with fail
      refine HC.out.mono ?_; rintro e w' ⟨rfl, rfl⟩
      go_wp2
      go_ret2
      exact TextErr.mk_ HV.out (Below.refl _ _)
    · have HT := Lib.hid (titled_any A m c L (n : Int) w h hm hL)
      have HR := Lib.hid (fun W (hW : RdI W B n p) => rank_any B n d p W hW h0)
      have hrk := rnk_lt h0 (by omega)
      by_cases ht : titledE L (n : Int) = 0
      · have hml : (m : Int) = countR n := by
          have := titled_len ht
          unfold countE at this
          rw [if_neg (by have := (chk_ok h0).1; omega), Int.toNat_natCast] at this
          have := h.2
          omega
        rw [hlen] at hrk
        obtain ⟨r, hr⟩ : ∃ r : Nat, rnk p = r := ⟨(rnk p).toNat, by omega⟩
        have hrm : r < m := by omega
        have HV := Lib.hid (show titleE L p = (L.getD r [], 0) by unfold titleE; rw [if_neg (by omega), if_neg (by omega), hlen, if_neg (by omega), hr, Int.toNat_natCast])
        rw [h0] at HC
        rw [ht] at HT
        rw [hr] at HR
        clear h0 hlen hrk hr ht hml
        go_enter Tryd.func69, Tryd.ntmps69
        go_wp2_with fail
        refine HC.out.mono ?_; rintro e w' ⟨rfl, rfl⟩
        go_wp2_with fail
        refine HT.out.mono ?_; rintro e w1 ⟨rfl, b1⟩
        have HB1 := Lib.hid b1
        have HS1 := Lib.hid (h.below b1)
        have HP1 := Lib.hid (hp.below b1)
        clear b1
        go_wp2_with fail
        refine (HR.out w1 HP1.out).mono ?_; rintro e w2 ⟨rfl, b2⟩
        have HB2 := Lib.hid (HB1.out.trans (b2.mono HB1.out.size))
        obtain ⟨ad, S, rfl, _, hS, hcell⟩ := (HS1.out.below b2).at_ hrm
        clear b2
        go_wp2
        go_ret2
        refine ⟨?_, HB2.out⟩
        rw [HV.out, List.getD_eq_getElem?_getD, hS.out]; rfl
      · have HV := Lib.hid (show titleE L p = ([], titledE L (n : Int)) by unfold titleE; rw [if_neg (by omega), if_neg (by omega), hlen, if_pos ht])
        generalize titledE L (n : Int) = z at HT HV ht
        have g1 : (z == 0) = false := by simpa using ht
        have g2 : (z != 0) = true := by simpa using ht
        rw [h0] at HC
        clear h0 hlen hrk ht
        go_enter Tryd.func69, Tryd.ntmps69
        go_wp2_with fail
        refine HC.out.mono ?_; rintro e w' ⟨rfl, rfl⟩
        go_wp2_with fail
        refine HT.out.mono ?_; rintro e w1 ⟨rfl, b1⟩
        have HB1 := Lib.hid b1
        clear b1
        go_wp2
        go_ret2
        exact TextErr.mk_ HV.out HB1.out
  · have HV := Lib.hid (show titleE L p = ([], chk p) by unfold titleE; rw [if_pos h0])
    generalize chk p = z at HC h0 HV
    have g1 : (z == 0) = false := by simpa using h0
    have g2 : (z != 0) = true := by simpa using h0
    clear h0 hlen
    go_enter Tryd.func69, Tryd.ntmps69
    go_wp2_with fail
    refine HC.out.mono ?_; rintro e w' ⟨rfl, rfl⟩
    go_wp2
    go_ret2
    exact TextErr.mk_ HV.out (Below.refl _ _)

/-- Find's answer -/
def findE (L : List (List UInt8)) (n : Int) (t : List UInt8) : List Int × Int :=
  if n < 1 ∨ 5 < n then ([], 2) else if titledE L n ≠ 0 then ([], titledE L n) else if idxT L t < 0 then ([], 7) else unrankE n (idxT L t)
set_option maxHeartbeats 1000000 in
set_option maxRecDepth 100000 in
theorem find_any (A : Option Addr) (m c : Nat) (L : List (List UInt8)) (n : Int) (t : ByteArray) (w : World) (h : RdS w A m L) (hm : m ≤ 100000) (hL : ∀ S ∈ L, S.length ≤ 1000) :
    Calls Tryd.prog 71 #[.slice A m c, .int .i64 n, .string t] w (IntsErr (findE L n t.data.toList) w) := by
  have HW := Lib.hid (within_any n 1 5 w)
  by_cases hn : n < 1 ∨ 5 < n
  · have HV := Lib.hid (show findE L n t.data.toList = ([], 2) by unfold findE; rw [if_pos hn])
    have hb : (decide (1 ≤ n) && decide (n ≤ 5)) = false := by
      rcases hn with h1 | h1
      · rw [decide_eq_false (show ¬ 1 ≤ n by omega)]; rfl
      · rw [decide_eq_false (show ¬ n ≤ 5 by omega)]; simp
    rw [hb] at HW
    clear hn hb
    go_enter Tryd.func71, Tryd.ntmps71
    go_wp2_with fail
    refine HW.out.mono ?_; rintro e w' ⟨rfl, rfl⟩
    go_wp2
    go_ret2
    rw [HV.out]; exact IntsErr.none_ _ _
  · have hb : (decide (1 ≤ n) && decide (n ≤ 5)) = true := by rw [decide_eq_true (show 1 ≤ n by omega), decide_eq_true (show n ≤ 5 by omega)]; rfl
    rw [hb] at HW
    have HT := Lib.hid (titled_any A m c L n w h hm hL)
    have HV0 := Lib.hid (show findE L n t.data.toList = if titledE L n ≠ 0 then ([], titledE L n) else if idxT L t.data.toList < 0 then ([], 7) else unrankE n (idxT L t.data.toList) by unfold findE; rw [if_neg hn])
    by_cases ht : titledE L n = 0
    · have HV1 := Lib.hid (HV0.out.trans (if_neg (by omega)))
      rw [ht] at HT
      have HI := Lib.hid (fun W (hW : RdS W A m L) => indexStr_any A m c L t W hW hm)
      generalize idxT L t.data.toList = i at HV1 HI
      clear ht hb hn HV0
      by_cases hi : i < 0
      · have HV := Lib.hid (HV1.out.trans (if_pos hi))
        go_enter Tryd.func71, Tryd.ntmps71
        go_wp2_with fail
        refine HW.out.mono ?_; rintro e w' ⟨rfl, rfl⟩
        go_wp2_with fail
        refine HT.out.mono ?_; rintro e w1 ⟨rfl, b1⟩
        have HB1 := Lib.hid b1
        have HS1 := Lib.hid (h.below b1)
        clear b1
        go_wp2_with fail
        refine (HI.out w1 HS1.out).mono ?_; rintro e w2 ⟨rfl, rfl⟩
        go_wp2
        go_ret2
        rw [HV.out]; exact ⟨none, 0, rfl, OwnI.nil_ _ _ _, HB1.out⟩
      · have HV := Lib.hid (HV1.out.trans (if_neg hi))
        have hi0 : 0 ≤ i := by omega
        clear hi
        go_enter Tryd.func71, Tryd.ntmps71
        go_wp2_with fail
        refine HW.out.mono ?_; rintro e w' ⟨rfl, rfl⟩
        go_wp2_with fail
        refine HT.out.mono ?_; rintro e w1 ⟨rfl, b1⟩
        have HB1 := Lib.hid b1
        have HS1 := Lib.hid (h.below b1)
        clear b1
        go_wp2_with fail
        refine (HI.out w1 HS1.out).mono ?_; rintro e w2 ⟨rfl, rfl⟩
        go_wp2_with fail
        refine (unrank_any n i w2).mono ?_; rintro e w3 ⟨A3, c3, rfl, h3, b3⟩
        have HO := Lib.hid (h3.mono HB1.out.size)
        have HB3 := Lib.hid (HB1.out.trans (b3.mono HB1.out.size))
        clear h3 b3
        go_wp2
        go_ret2
        rw [HV.out]; exact ⟨A3, c3, rfl, HO.out, HB3.out⟩
    · have HV := Lib.hid (HV0.out.trans (if_pos ht))
      generalize titledE L n = z at HT HV ht
      have g1 : (z == 0) = false := by simpa using ht
      have g2 : (z != 0) = true := by simpa using ht
      clear ht hb hn HV0
      go_enter Tryd.func71, Tryd.ntmps71
      go_wp2_with fail
      refine HW.out.mono ?_; rintro e w' ⟨rfl, rfl⟩
      go_wp2_with fail
      refine HT.out.mono ?_; rintro e w1 ⟨rfl, b1⟩
      have HB1 := Lib.hid b1
      clear b1
      go_wp2
      go_ret2
      rw [HV.out]; exact ⟨none, 0, rfl, OwnI.nil_ _ _ _, HB1.out⟩
end Go.Proofs.YtooepkpgffpcjaaDoor
