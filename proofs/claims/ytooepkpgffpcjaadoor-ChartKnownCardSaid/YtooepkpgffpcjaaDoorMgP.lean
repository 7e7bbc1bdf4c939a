/- Walks: strings.TrimSuffix, strings.Split at a line feed; the pieces are the rows of a text. -/
import Derived.Test.YtooepkpgffpcjaaDoorMgF
import Derived.Test.YtooepkpgffpcjaaDoorMgL
namespace Go.Proofs.YtooepkpgffpcjaaDoor
open Go.RowKit Go.Shelf

/-! ### The pieces -/
/-- a text cut at its line feeds -/
def cutNl (l : List UInt8) : List (List UInt8) := (rowsF l).1 ++ [(rowsF l).2]
theorem rows_from (l : List UInt8) : ∀ (L : List (List UInt8)) (cur : List UInt8), l.foldl rowStep (L, cur) = (L ++ (l.foldl rowStep ([], cur)).1, (l.foldl rowStep ([], cur)).2) := by
  induction l with
  | nil => intro L cur; simp
  | cons c l ih =>
    intro L cur
    rw [List.foldl_cons, List.foldl_cons]
    unfold rowStep
    by_cases h : c = 10
    · rw [if_pos h, if_pos h]
      have e1 := ih (L ++ [cur]) []
      have e2 := ih ([] ++ [cur]) []
      unfold rowStep at e1 e2
      simp only at e1 e2 ⊢
      rw [e1, e2]
      simp
    · rw [if_neg h, if_neg h]
      exact ih L (cur ++ [c])
theorem cutNl_none {l : List UInt8} (h : ∀ c ∈ l, c ≠ 10) : cutNl l = [l] := by
  unfold cutNl rowsF
  rw [rowsF_run l h]; simp
theorem cutNl_hit {pre rest : List UInt8} (h : ∀ c ∈ pre, c ≠ 10) : cutNl (pre ++ 10 :: rest) = pre :: cutNl rest := by
  unfold cutNl rowsF
  rw [List.foldl_append, rowsF_run pre h, List.foldl_cons]
  have e : rowStep (([] : List (List UInt8)), [] ++ pre) 10 = ([pre], []) := by unfold rowStep; rw [if_pos rfl]; simp
  simp only [e]
  rw [rows_from rest [pre] []]
  simp
theorem first_nl (l : List UInt8) : (∀ c ∈ l, c ≠ 10) ∨ ∃ pre rest, l = pre ++ 10 :: rest ∧ ∀ c ∈ pre, c ≠ 10 := by
  induction l with
  | nil => exact .inl (by simp)
  | cons c l ih =>
    by_cases h : c = 10
    · subst h; exact .inr ⟨[], l, rfl, by simp⟩
    · rcases ih with ih | ⟨pre, rest, e, hp⟩
      · exact .inl fun x hx => by
          rcases List.mem_cons.1 hx with rfl | hx
          · exact h
          · exact ih x hx
      · refine .inr ⟨c :: pre, rest, by rw [e]; rfl, fun x hx => ?_⟩
        rcases List.mem_cons.1 hx with rfl | hx
        · exact h
        · exact hp x hx
theorem index_nl_none {l : List UInt8} (h : ∀ c ∈ l, c ≠ 10) : Lib.index l [10] = -1 := by
  induction l with
  | nil => rfl
  | cons c l ih =>
    have h1 := h c (by simp)
    have h2 := ih fun x hx => h x (by simp [hx])
    unfold Lib.index
    rw [h2]
    have : ([10] : List UInt8).isPrefixOf (c :: l) = false := by simp [List.isPrefixOf]; exact fun e => h1 e.symm
    rw [this]; rfl
theorem index_nl {pre rest : List UInt8} (h : ∀ c ∈ pre, c ≠ 10) : Lib.index (pre ++ 10 :: rest) [10] = pre.length := by
  induction pre with
  | nil => simp [Lib.index, List.isPrefixOf]
  | cons c pre ih =>
    have h1 := h c (by simp)
    have h2 := ih fun x hx => h x (by simp [hx])
    rw [List.cons_append]
    unfold Lib.index
    rw [h2]
    have : ([10] : List UInt8).isPrefixOf (c :: (pre ++ 10 :: rest)) = false := by simp [List.isPrefixOf]; exact fun e => h1 e.symm
    rw [this]
    have h3 : ((pre.length : Int) == -1) = false := beq_eq_false_iff_ne.2 (by omega)
    simp [h3]
theorem split_cut (n : Nat) : ∀ l : List UInt8, l.length ≤ n → Lib.splitK [10] 0 (Lib.count l [10]) l = cutNl l := by
  induction n with
  | zero =>
    intro l hl
    obtain rfl : l = [] := List.length_eq_zero_iff.1 (by omega)
    rfl
  | succ n ih =>
    intro l hl
    rcases first_nl l with h | ⟨pre, rest, rfl, h⟩
    · rw [cutNl_none h]
      have hc : Lib.count l [10] = 0 := by
        rw [Lib.count_one]
        exact List.count_eq_zero.2 fun hm => h 10 hm rfl
      rw [hc]; rfl
    · rw [cutNl_hit h]
      have hc : Lib.count (pre ++ 10 :: rest) [10] = Lib.count rest [10] + 1 := by
        rw [Lib.count_one, Lib.count_one, List.count_append, List.count_cons_self, List.count_eq_zero.2 (fun hm => h 10 hm rfl)]; omega
      rw [hc]
      unfold Lib.splitK
      rw [index_nl h]
      have h3 : ((pre.length : Int) == -1) = false := beq_eq_false_iff_ne.2 (by omega)
      rw [if_neg (by rw [h3]; simp), Int.toNat_natCast]
      have e1 : (pre ++ 10 :: rest).take (pre.length + 0) = pre := by simp
      have e2 : (pre ++ 10 :: rest).drop (pre.length + ([10] : List UInt8).length) = rest := by
        rw [show pre ++ 10 :: rest = (pre ++ [10]) ++ rest by simp]
        exact List.drop_left' (by simp)
      rw [e1, e2, ih rest (by simp at hl; omega)]
theorem cutNl_len (l : List UInt8) : 1 ≤ (cutNl l).length := by unfold cutNl; simp

/-! ### The two functions of the library -/
theorem trimSuffix_any (s : ByteArray) (w : World) (hs : s.size ≤ 9223372036854775807) :
    Calls Tryd.prog 104 #[.string s, .string ⟨#[10]⟩] w fun e w' => e = .returned (.string ⟨(Lib.trimSuffix s.data.toList [10]).toArray⟩) ∧ w' = w :=
  Any.strings_TrimSuffix lays102 s ⟨#[10]⟩ w hs

/-- the pieces, in a block of the callee's own -/
def Cut (L : List (List UInt8)) (w : World) (e : Ending) (w' : World) : Prop :=
  e = .returned (.slice (some ⟨w.heap.size, 0, none⟩) L.length L.length) ∧ w' = w.alloc (.cells (strs L).toArray 9)
theorem strs_split (s : ByteArray) : ((Lib.splitB ⟨#[10]⟩ 0 (Lib.countB s ⟨#[10]⟩) s).map Value.string) = strs (cutNl s.data.toList) := by
  have h := Lib.splitB_data ⟨#[10]⟩ 0 (Lib.countB s ⟨#[10]⟩) s
  have h2 : Lib.splitK [10] 0 (Lib.countB s ⟨#[10]⟩) s.data.toList = cutNl s.data.toList := split_cut _ s.data.toList (Nat.le_refl _)
  unfold strs
  rw [← h2, ← h, List.map_map]
  rfl
set_option maxHeartbeats 2000000 in
set_option maxRecDepth 100000 in
theorem split_any (s : ByteArray) (w : World) (hs : s.size < 4294967281) :
    Calls Tryd.prog 103 #[.string s, .string ⟨#[10]⟩] w (Cut (cutNl s.data.toList) w) := by
  have h1 : 1 ≤ (⟨#[10]⟩ : ByteArray).size := by decide
  have hle := Lib.countB_le ⟨#[10]⟩ h1 s.size s (Nat.le_refl _)
  have hlen := Lib.splitB_all ⟨#[10]⟩ h1 0 _ s rfl
  have hC : Calls Tryd.prog (lays146_ren.f 138) #[.string s, .string ⟨#[10]⟩] w fun e w' => e = .returned (.int .i64 (Lib.countB s ⟨#[10]⟩)) ∧ w' = w := by
    refine (Any.strings_Count_one (ρ := lays146_ren) { lays146 with } s 10 w).mono fun e w' ⟨he, hw⟩ => ⟨?_, hw⟩
    rw [he]
    show _ = Ending.returned (Value.int .i64 ((Lib.count s.data.toList [10] : Nat) : Int))
    rw [Lib.count_one]
    rfl
  have hI : ∀ (x : ByteArray) (c : Array Value), x.size ≤ s.size → Calls Tryd.prog (lays146_ren.f 143) #[.string x, .string ⟨#[10]⟩] (w.alloc (.cells c (lays146_ren.t 9))) fun e w' => e = .returned (.int .i64 (Lib.indexB x ⟨#[10]⟩)) ∧ w' = w.alloc (.cells c (lays146_ren.t 9)) := fun x c _ => by
    refine (Any.strings_Index_one (ρ := lays146_ren) { lays146 with } x 10 _).mono fun e w' ⟨he, hw⟩ => ⟨?_, hw⟩
    rw [he]
    show _ = Ending.returned (Value.int .i64 (Lib.index x.data.toList [10]))
    rw [Lib.index_one]
  have c := Any.strings_genSplit_core (ρ := lays146_ren) { lays146 with } (by kernel_rfl) s ⟨#[10]⟩ 0 (-1) (Lib.countB s ⟨#[10]⟩ + 1) w hs h1 (Nat.zero_le _) hI hC (by decide) (by decide) (by rw [if_pos (by decide)]; omega)
  rw [Nat.add_sub_cancel, hlen] at c
  have e2 : Lib.cellsOf (Lib.splitB ⟨#[10]⟩ 0 (Lib.countB s ⟨#[10]⟩) s) (Lib.countB s ⟨#[10]⟩ + 1) = (strs (cutNl s.data.toList)).toArray := by
    rw [← strs_split, ← hlen]; exact Lib.cellsOf_full _
  rw [e2] at c
  have e3 : Lib.countB s ⟨#[10]⟩ + 1 = (cutNl s.data.toList).length := by
    rw [← hlen, ← strs_length, ← strs_split, List.length_map]
  rw [e3] at c
  have HC := Lib.hid c
  generalize cutNl s.data.toList = L at HC ⊢
  clear c e2 e3 hI hC hlen hle
  go_enter Tryd.func103, Tryd.ntmps103
  go_wp2_with fail
  refine (show Calls Tryd.prog 123 _ _ _ from HC.out).mono ?_; rintro e w' ⟨rfl, hw⟩
  go_wp2
  go_ret
  exact ⟨rfl, rfl⟩
end Go.Proofs.YtooepkpgffpcjaaDoor
