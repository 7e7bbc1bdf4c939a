/- Walks: the reference's of and Of, and PartitionOf. -/
import Derived.Test.YtooepkpgffpcjaaDoorBox
namespace Go.Proofs.YtooepkpgffpcjaaDoor
open Go.RowKit

/-- the labels that were met, in the order in which they came first -/
def seenStep (s : List Int) (x : Int) : List Int := if x ∈ s then s else s ++ [x]
def seenOf (l : List Int) : List Int := l.foldl seenStep []
/-- the partition of labels: where each stands among those that were met -/
def ofL (l : List Int) : List Int := l.map fun x => ((seenOf l).idxOf x : Int)
theorem seenOf_snoc (l : List Int) (x : Int) : seenOf (l ++ [x]) = if x ∈ seenOf l then seenOf l else seenOf l ++ [x] := by unfold seenOf; rw [List.foldl_append]; rfl
theorem seen_fold (l : List Int) (s : List Int) : (∀ y ∈ s, y ∈ l.foldl seenStep s) ∧ ∀ y ∈ l, y ∈ l.foldl seenStep s := by
  induction l generalizing s with
  | nil => exact ⟨fun y h => h, by simp⟩
  | cons x l ih =>
    obtain ⟨h1, h2⟩ := ih (seenStep s x)
    refine ⟨fun y hy => h1 y (by unfold seenStep; split; exact hy; simp [hy]), fun y hy => ?_⟩
    rcases List.mem_cons.1 hy with rfl | hy
    · refine h1 y ?_
      unfold seenStep
      split
      · assumption
      · simp
    · exact h2 y hy
theorem mem_seenOf {l : List Int} {y : Int} (h : y ∈ l) : y ∈ seenOf l := (seen_fold l []).2 y h
theorem seenOf_sub (l : List Int) : ∀ y ∈ seenOf l, y ∈ l := by
  have key : ∀ (l s : List Int), ∀ y ∈ l.foldl seenStep s, y ∈ s ∨ y ∈ l := by
    intro l
    induction l with
    | nil => intro s y h; exact .inl h
    | cons x l ih =>
      intro s y h
      rcases ih _ y h with h | h
      · unfold seenStep at h
        split at h
        · exact .inl h
        · rcases List.mem_append.1 h with h | h
          · exact .inl h
          · exact .inr (by simp at h; simp [h])
      · exact .inr (List.mem_cons_of_mem _ h)
  intro y h
  rcases key l [] y h with h | h
  · cases h
  · exact h
theorem seenOf_len (l : List Int) : (seenOf l).length ≤ l.length := by
  have key : ∀ (l s : List Int), (l.foldl seenStep s).length ≤ s.length + l.length := by
    intro l
    induction l with
    | nil => intro s; simp
    | cons x l ih =>
      intro s
      refine Nat.le_trans (ih _) ?_
      unfold seenStep
      split <;> simp <;> omega
  have := key l []
  simpa [seenOf] using this
theorem idxOf_snoc {s : List Int} {x y : Int} (h : y ∈ s) : (s ++ [x]).idxOf y = s.idxOf y := by
  rw [List.idxOf_append, if_pos h]
theorem ofL_snoc (l : List Int) (x : Int) : ofL (l ++ [x]) = ofL l ++ [((seenOf l).idxOf x : Int)] := by
  unfold ofL
  rw [List.map_append, seenOf_snoc]
  split
  · rfl
  · rename_i hx
    congr 1
    · apply List.map_congr_left
      intro y hy
      rw [idxOf_snoc (mem_seenOf hy)]
    · simp only [List.map_cons, List.map_nil]
      congr 2
      rw [List.idxOf_append, if_neg hx]
      simp [List.idxOf_eq_length hx]
theorem ofL_length (l : List Int) : (ofL l).length = l.length := by simp [ofL]
theorem ofL_get_bd (l : List Int) : ∀ v ∈ ofL l, 0 ≤ v ∧ v < l.length := by
  intro v hv
  obtain ⟨x, hx, rfl⟩ := List.mem_map.1 hv
  have h1 := List.idxOf_lt_length_of_mem (mem_seenOf hx)
  have h2 := seenOf_len l
  omega
theorem ofL_I64 {l : List Int} (hl : l.length ≤ 1000) : ∀ v ∈ ofL l, I64 v := fun v hv => by
  have := ofL_get_bd l v hv
  exact I64.small (by omega)

/-- two slices that share no block -/
def Disj (A B : Option Addr) : Prop := ∀ k, A.map (·.block) = some k → B.map (·.block) ≠ some k
theorem Disj.nil_left (B : Option Addr) : Disj none B := fun k h => by cases h
theorem Disj.symm {A B : Option Addr} (h : Disj A B) : Disj B A := fun k h1 h2 => h k h2 h1
theorem Disj.ne {A B : Option Addr} (h : Disj A B) : A.map (·.block) = none ∨ A.map (·.block) ≠ B.map (·.block) := by
  cases e : A.map (·.block) with
  | none => exact .inl rfl
  | some k => exact .inr (fun e2 => h k e e2.symm)
theorem Apped.disj {w w' : World} {base n c' : Nat} {A A' B : Option Addr} {l : List Int} (h : Apped w w' base A A' n c' l) (hd : Disj A B) (hB : ∀ k, B.map (·.block) = some k → k < w.heap.size) : Disj A' B := by
  intro k h1 h2
  rcases h.at_ k h1 with e | e
  · exact hd k e h2
  · have := hB k h2; omega
theorem OwnI.block {w : World} {base n c : Nat} {e : TypeId} {A : Option Addr} {l : List Int} (h : OwnI w base e A n c l) : ∀ (k : Nat), A.map (·.block) = some k → k < w.heap.size := fun _ hk => (h.1.block hk).2

theorem idx_eq {s : List Int} {x : Int} {k : Nat} (hk : s[k]? = some x) (h : ∀ j, j < k → s[j]? ≠ some x) : s.idxOf x = k := by
  have hx : x ∈ s := List.mem_of_getElem? hk
  have h1 := List.idxOf_lt_length_of_mem hx
  have h2 : s[s.idxOf x]? = some x := by rw [List.getElem?_eq_getElem h1, List.getElem_idxOf h1]
  have hkl := (List.getElem?_eq_some_iff.1 hk).1
  rcases Nat.lt_trichotomy (s.idxOf x) k with h3 | h3 | h3
  · exact absurd h2 (h _ h3)
  · exact h3
  · have := List.not_of_lt_findIdx (p := (· == x)) (xs := s) (i := k) h3
    obtain ⟨_, e⟩ := List.getElem?_eq_some_iff.1 hk
    simp [e] at this
theorem idx_none {s : List Int} {x : Int} (h : ∀ j, j < s.length → s[j]? ≠ some x) : s.idxOf x = s.length ∧ x ∉ s := by
  have hx : x ∉ s := fun hm => by
    obtain ⟨j, hj, e⟩ := List.getElem_of_mem hm
    exact h j hj (by rw [List.getElem?_eq_getElem hj, e])
  exact ⟨List.idxOf_eq_length hx, hx⟩

/-- a list of numbers that is the callee's own -/
def Listed (l : List Int) (w : World) (e : Ending) (w' : World) : Prop :=
  ∃ A c, e = .returned (.slice A l.length c) ∧ OwnI w' w.heap.size 3 A l.length c l ∧ Below w.heap.size w w'

set_option maxHeartbeats 1000000 in
theorem refof_any (A : Option Addr) (n c : Nat) (l : List Int) (w : World) (h : RdI w A n l) (hn : n ≤ 1000) :
    Calls Tryd.prog 90 #[.slice A n c] w (Listed (ofL l) w) := by
  have HL := Lib.hid h.len
  go_enter Tryd.func90, Tryd.ntmps90
  go_wp2_with fail
  go_loopw [3, 4, 5] (fun o s i wr => ∃ k : Nat, k ≤ n ∧ i = .int .i64 k ∧ ∃ Ao co As cs, o = .slice Ao k co ∧ s = .slice As (seenOf (l.take k)).length cs ∧
      OwnI wr w.heap.size 3 Ao k co (ofL (l.take k)) ∧ OwnI wr w.heap.size 3 As (seenOf (l.take k)).length cs (seenOf (l.take k)) ∧ Disj Ao As ∧ Below w.heap.size w wr) (fun _ _ i _ => n - (intOf i).toNat)
  case atStart => exact ⟨0, by omega, rfl, none, 0, none, 0, rfl, rfl, OwnI.nil_ _ _ _, OwnI.nil_ _ _ _, Disj.nil_left _, Below.refl _ _⟩
  case round =>
    obtain ⟨k, hk, rfl, Ao, co, As, cs, rfl, rfl, hoo, hos, hdj, hbel⟩ := hrel
    have HO := Lib.hid hoo
    have HS := Lib.hid hos
    have HD := Lib.hid hdj
    have HB := Lib.hid hbel
    clear hoo hos hdj hbel
    by_cases hlt : k < n
    · obtain ⟨ad, v, rfl, had, hv, hv64, hcell⟩ := h.at_ hlt
      rw [← HB.out.cell (by rw [block_of_add]; exact had)] at hcell
      have HT := Lib.hid (take_of_get hv.out)
      have HSN := Lib.hid (seenOf_snoc (l.take k) v)
      have HON := Lib.hid (ofL_snoc (l.take k) v)
      have hsl : (seenOf (l.take k)).length ≤ k := Nat.le_trans (seenOf_len _) (List.length_take_le _ _)
      generalize seenOf (l.take k) = S at HS HSN HON hsl
      generalize ofL (l.take k) = O at HO HON
      obtain ⟨m, hm⟩ : ∃ m, m = S.length := ⟨_, rfl⟩
      rw [← hm] at HS hsl ⊢
      have HM := Lib.hid hm
      clear hm
      obtain ⟨wo, rfl⟩ : ∃ wo : World, wo = wr := ⟨_, rfl⟩
      go_wp2_with fail
      go_loopw [6] (fun i wq => ∃ j : Nat, j ≤ m ∧ i = .int .i64 j ∧ (∀ t, t < j → S[t]? ≠ some v) ∧ ∃ d, wq = wo.drewN d) (fun i _ => m - (intOf i).toNat)
      case atStart => exact ⟨0, by omega, rfl, fun t ht => absurd ht (by omega), 0, rfl⟩
      case round =>
        obtain ⟨j, hj, rfl, hno, d, rfl⟩ := hrel
        have HN := Lib.hid hno
        clear hno
        by_cases hjm : j < m
        · obtain ⟨bd, u, rfl, _, hu, _, hcell2⟩ := HS.out.rd.at_ hjm
          by_cases hne : u = v
          · subst hne
            have HI := Lib.hid (idx_eq hu.out HN.out)
            have g1 : ((j : Int) == (m : Int)) = false := by simp; omega
            have g2 : ((j : Int) == (S.length : Int)) = false := by rw [← HM.out]; exact g1
            have hsz := HB.out.size
            have hk1 : k < 1000 := by omega
            go_wp2_with fail
            go_quiet (fail)
            go_wp2_with (at_builtin; go_must (refine wpList_appI1 _ rfl (.tmp 41) (.tmp 43) rfl _ rfl rfl (HO.out.drewN _) (v := (j : Int)) (I64.small (by omega)) (by omega) hsz ?_); intro A' c' w' kk)
            have KK := Lib.hid kk
            clear kk
            have hvS : u ∈ S := List.mem_of_getElem? hu.out
            have HVS := Lib.hid hvS
            clear hvS
            go_wp2
            go_roundw
            case rel => exact ⟨k + 1, by omega, by go_num, A', c', _, cs, rfl, by rw [HT.out, HSN.out, if_pos HVS.out, HM.out], by rw [HT.out, HON.out, HI.out]; exact KK.out.own, by rw [HT.out, HSN.out, if_pos HVS.out, ← HM.out]; exact OwnI.grown (OwnI.drewN HS.out _) KK.out.grown HD.out.symm.ne, Apped.disj KK.out HD.out HS.out.block, (below_drewN HB.out _).trans KK.out.below⟩
            case measure => simp [intOf]; omega
          · have g1 : (u != v) = true := by simpa using hne
            have g2 : (u == v) = false := by simpa using hne
            have HNE := Lib.hid hne
            clear hne
            go_wp2_with fail
            go_quiet (fail)
            go_wp2
            go_roundw
            case rel => exact ⟨j + 1, by omega, by go_num, fun t ht => by
              by_cases e : t = j
              · subst e; rw [hu.out]; intro e; injection e with e; exact HNE.out e
              · exact HN.out t (by omega), _, rfl⟩
            case measure => simp [intOf]; omega
        · obtain rfl : m = j := by omega
          have g1 : decide ((m : Int) < (m : Int)) = false := by simp
          have hsz := HB.out.size
          have hm1 : m < 1000 := by omega
          have HI := Lib.hid (idx_none (s := S) (x := v) (by rw [← HM.out]; exact HN.out))
          go_wp2_with fail
          go_quiet (fail)
          go_wp2_with (first
            | (at_builtin; refine wpList_appI1 _ rfl (.tmp 34) (.tmp 39) rfl _ rfl rfl (HS.out.drewN _) hv64 (by omega) hsz ?_; intro A1 c1 w1 kk1; have ho1 := OwnI.grown (OwnI.drewN HO.out _) kk1.grown HD.out.ne; have hsz1 := ((below_drewN HB.out _).trans kk1.below).size; have KK1 := Lib.hid kk1; clear kk1; have HO1 := Lib.hid ho1; clear ho1)
            | (at_builtin; refine wpList_appI1 _ rfl (.tmp 41) (.tmp 43) rfl _ rfl rfl HO1.out (v := (m : Int)) (I64.small (by omega)) (by omega) hsz1 ?_; intro A2 c2 w2 kk2; have KK2 := Lib.hid kk2; clear kk2))
          go_roundw
          have HD1 : Hid (Disj A1 Ao) := Apped.disj KK1.out HD.out.symm HO.out.block
          case rel => exact ⟨k + 1, by omega, by go_num, A2, c2, A1, c1, rfl, by rw [HT.out, HSN.out, if_neg HI.out.2, List.length_append, HM.out]; rfl, by rw [HT.out, HON.out, HI.out.1, ← HM.out]; exact KK2.out.own, by rw [HT.out, HSN.out, if_neg HI.out.2, List.length_append, ← HM.out]; exact OwnI.grown KK1.out.own KK2.out.grown HD1.out.ne, Apped.disj KK2.out HD1.out.symm KK1.out.own.block, ((below_drewN HB.out _).trans KK1.out.below).trans KK2.out.below⟩
          case measure => simp [intOf]; omega
    · have HK : Hid (l.take k = l) := by rw [List.take_of_length_le (by have := HL.out; omega)]; rfl
      rw [HK.out] at HO
      obtain rfl : k = n := by omega
      go_wp2
      go_ret
      have hl2 : (ofL l).length = k := by rw [ofL_length, HL.out]
      refine ⟨Ao, co, ?_, ?_, HB.out⟩
      · rw [hl2]; rfl
      · rw [hl2]; exact HO.out

theorem snoc_ind {α : Type} {P : List α → Prop} (h0 : P []) (hs : ∀ l x, P l → P (l ++ [x])) (l : List α) : P l := by
  rw [← List.reverse_reverse l]
  induction l.reverse with
  | nil => exact h0
  | cons x r ih => rw [List.reverse_cons]; exact hs _ _ ih
theorem blk_snoc (l : List Int) (v : Int) : blk (l ++ [v]) = max (blk l) (v + 1) := by simp [blk]
theorem blk_ofL (l : List Int) : blk (ofL l) = (seenOf l).length := by
  induction l using snoc_ind with
  | h0 => rfl
  | hs l x ih =>
    rw [ofL_snoc, blk_snoc, ih, seenOf_snoc]
    split
    · rename_i hx
      have := List.idxOf_lt_length_of_mem hx
      omega
    · rename_i hx
      rw [List.idxOf_eq_length hx, List.length_append]
      simp; omega
theorem chkGo_snoc (l : List Int) (nx v : Int) (h : chkGo nx l = 0) (h0 : 0 ≤ v) (h9 : v < 9) (hv : v ≤ l.foldl (fun n v => max n (v + 1)) nx) : chkGo nx (l ++ [v]) = 0 := by
  induction l generalizing nx with
  | nil =>
    simp only [List.foldl_nil] at hv
    simp only [List.nil_append, chkGo]
    rw [if_neg (by omega), if_neg (by omega)]
  | cons a l ih =>
    simp only [chkGo] at h
    split at h
    · cases h
    · rename_i h1
      split at h
      · cases h
      · rename_i h2
        simp only [List.cons_append, chkGo]
        rw [if_neg h1, if_neg h2]
        refine ih _ h ?_
        simp only [List.foldl_cons] at hv
        rw [show (if a = nx then nx + 1 else nx) = max nx (a + 1) by split <;> omega]
        exact hv
theorem chkGo_ofL (l : List Int) (h : l.length ≤ 9) : chkGo 0 (ofL l) = 0 := by
  induction l using snoc_ind with
  | h0 => rfl
  | hs l x ih =>
    simp only [List.length_append, List.length_singleton] at h
    rw [ofL_snoc]
    have h1 : ((seenOf l).idxOf x) ≤ (seenOf l).length := List.idxOf_le_length
    have h2 := seenOf_len l
    have h3 : l.length < 9 := by simp at h; omega
    refine chkGo_snoc _ 0 _ (ih (by omega)) (by omega) (by omega) ?_
    show _ ≤ blk (ofL l)
    rw [blk_ofL]; omega
theorem chk_ofL {l : List Int} (h1 : 1 ≤ l.length) (h9 : l.length ≤ 9) : chk (ofL l) = 0 := by
  rw [chk_go (by rw [ofL_length]; omega) (by rw [ofL_length]; omega)]; exact chkGo_ofL l h9

/-- The answer of a function that gives a list of numbers and an error. -/
def IntsErr (x : List Int × Int) (w : World) (e : Ending) (w' : World) : Prop :=
  ∃ A c, e = .returned (.tuple #[.slice A x.1.length c, .int .i64 x.2]) ∧ OwnI w' w.heap.size 3 A x.1.length c x.1 ∧ Below w.heap.size w w'
/-- Of: the partition, and the error -/
def ofE (l : List Int) : List Int × Int := if l.length = 0 then ([], 6) else if 9 < l.length then ([], 8) else (ofL l, 0)
theorem IntsErr.none_ (w : World) (x : Int) : IntsErr ([], x) w (.returned (.tuple #[.slice none 0 0, .int .i64 x])) w := ⟨none, 0, rfl, OwnI.nil_ _ _ _, Below.refl _ _⟩

set_option maxHeartbeats 400000 in
theorem refOf_any (A : Option Addr) (n c : Nat) (l : List Int) (w : World) (h : RdI w A n l) : Calls Tryd.prog 37 #[.slice A n c] w (IntsErr (ofE l) w) := by
  have hlen := h.len
  have hbd := h.bd
  by_cases h0 : n = 0
  · have HC := Lib.hid (show ofE l = ([], 6) by unfold ofE; rw [if_pos (by omega)]); clear hlen
    subst h0
    go_enter Tryd.func37, Tryd.ntmps37
    go_wp2
    go_ret2
    rw [HC.out]; exact IntsErr.none_ _ _
  by_cases h9 : 9 < n
  · have HC := Lib.hid (show ofE l = ([], 8) by unfold ofE; rw [if_neg (by omega), if_pos (by omega)]); clear hlen
    have g0 : ((n : Int) == 0) = false := by simp; omega
    go_enter Tryd.func37, Tryd.ntmps37
    go_wp2
    go_ret2
    rw [HC.out]; exact IntsErr.none_ _ _
  · have HC := Lib.hid (show ofE l = (ofL l, 0) by unfold ofE; rw [if_neg (by omega), if_neg (by omega)]); clear hlen
    have g0 : ((n : Int) == 0) = false := by simp; omega
    have g9 : (n : Int) ≤ 9 := by omega
    go_enter Tryd.func37, Tryd.ntmps37
    go_wp2_with fail
    refine (refof_any A n c l w h (by omega)).mono ?_; rintro e w' ⟨A', c', rfl, hown, hbel⟩
    have HO := Lib.hid hown
    have HB := Lib.hid hbel
    clear hown hbel
    go_wp2
    go_ret2
    rw [HC.out]; exact ⟨A', c', rfl, HO.out, HB.out⟩

/-- What a function that turns the box g and makes memory leaves. -/
structure Spun (g : Nat) (w w' : World) : Prop where
  box : IsBox w' g
  grown : w.grownBy w' (some g)
theorem Step.spun {g : Nat} {w w' : World} (h : Step g w w') : Spun g w w' := ⟨h.box, h.grown⟩
theorem Spun.trans {g : Nat} {a b c : World} (h : Spun g a b) (k : Spun g b c) : Spun g a c := ⟨k.box, grown_trans h.grown k.grown⟩
theorem Spun.below {g : Nat} {w w' : World} (h : Spun g w w') {B : Nat} (hB : B ≤ g) (hw : B ≤ w.heap.size) : Below B w w' := (Below.refl _ _).grown h.grown hw (fun k hk => by injection hk with hk; omega)
theorem Spun.then_ {g : Nat} {a b c : World} (h : Spun g a b) (k : Below b.heap.size b c) : Spun g a c := ⟨h.box.below k, grown_trans h.grown (grown_of_below k _)⟩
theorem Spun.below_ {g : Nat} {a b c : World} (h : Spun g a b) (k : Below a.heap.size b c) (hg : g < a.heap.size) : Spun g a c := by
  refine ⟨?_, ⟨k.os.trans h.grown.os, k.tape.trans h.grown.tape, k.output.trans h.grown.output, Nat.le_trans h.grown.size k.size, fun i hi hr => (k.block i hi).trans (h.grown.block i hi hr)⟩⟩
  obtain ⟨x, hx⟩ := h.box
  exact ⟨x, (k.block g hg).trans hx⟩
/-- a partition of n packets of the callee's own, the box g turned -/
def Partition (n g : Nat) (w : World) (e : Ending) (w' : World) : Prop :=
  ∃ A c p, e = .returned (.slice A n c) ∧ chk p = 0 ∧ OwnI w' w.heap.size 3 A n c p ∧ Spun g w w'

set_option maxHeartbeats 1000000 in
theorem partitionOf_any (g n : Nat) (w : World) (h : IsBox w g) (hn1 : 1 ≤ n) (hn9 : n ≤ 9) :
    Calls Tryd.prog 22 #[.pointer (some ⟨g, 0, none⟩), .int .i64 n] w (Partition n g w) := by
  have H := Lib.hid h
  have HL := Lib.hid h.lt
  clear h
  go_enter Tryd.func22, Tryd.ntmps22
  go_wp2_with fail
  refine (any_any g 1 n w H.out (by omega) (by omega) (by omega) (by omega)).mono ?_; rintro e w1 ⟨k, rfl, hk0, hk1, hst⟩
  have hk9 : k ≤ 9 := by omega
  have HST := Lib.hid hst.spun
  have HSZ := Lib.hid hst.size
  clear hk1 hst
  go_wp2_with fail
  go_loopw [5, 7] (fun o i wr => ∃ (j : Nat) (L : List Int) (Ao : Option Addr) (co : Nat), j ≤ n ∧ i = .int .i64 j ∧ o = .slice Ao j co ∧ OwnI wr w.heap.size 3 Ao j co L ∧ Spun g w wr) (fun _ i _ => n - (intOf i).toNat)
  case atStart => exact ⟨0, [], none, 0, by omega, rfl, rfl, OwnI.nil_ _ _ _, HST.out⟩
  case round =>
    obtain ⟨j, L, Ao, co, hj, rfl, rfl, hown, hsp⟩ := hrel
    have HO := Lib.hid hown
    have HS := Lib.hid hsp
    clear hown hsp
    by_cases hlt : j < n
    · go_wp2_with fail
      refine (up_any g k wr HS.out.box (by omega) (by omega)).mono ?_; rintro e w2 ⟨v, rfl, hv0, hv1, hst⟩
      have hv9 : v ≤ 9 := by omega
      have HO2 : Hid (OwnI w2 w.heap.size 3 Ao j co L) := HO.out.grown hst.grown (by
        cases e : Ao.map (·.block) with
        | none => exact .inl rfl
        | some b => exact .inr (fun e2 => by injection e2 with e2; have := HO.out.1.block e; have := HL.out; omega))
      have HS2 := Lib.hid (HS.out.trans hst.spun)
      have hsz : w.heap.size ≤ w2.heap.size := HS2.out.grown.size
      clear hst hv1
      go_wp2_with (at_builtin; go_must (refine wpList_appI1 _ rfl (.tmp 18) (.tmp 22) rfl _ rfl rfl HO2.out (v := v) (I64.small (by omega)) (by omega) hsz ?_); intro A' c' w' kk; have KK := Lib.hid kk; clear kk)
      go_roundw
      case rel => exact ⟨j + 1, L ++ [v], A', c', by omega, by go_num, rfl, KK.out.own, HS2.out.below_ KK.out.below HL.out⟩
      case measure => simp [intOf]; omega
    · obtain rfl : n = j := by omega
      have hlen := HO.out.len
      have HC := Lib.hid (show ofE L = (ofL L, 0) by unfold ofE; rw [if_neg (by omega), if_neg (by omega)])
      have HK := Lib.hid (chk_ofL (l := L) (by omega) (by omega))
      have HLL := Lib.hid ((ofL_length L).trans hlen)
      clear hlen
      go_wp2_with fail
      refine (refOf_any Ao n co L wr HO.out.rd).mono ?_; rintro e w2 ⟨A', c', rfl, hown, hbel⟩
      rw [HC.out, HLL.out] at hown
      rw [HC.out, HLL.out]
      have HO3 := Lib.hid hown
      have HB3 := Lib.hid hbel
      clear hown hbel
      go_wp2
      go_ret
      exact ⟨A', c', ofL L, rfl, HK.out, HO3.out.mono HS.out.grown.size, HS.out.then_ HB3.out⟩
end Go.Proofs.YtooepkpgffpcjaaDoor
