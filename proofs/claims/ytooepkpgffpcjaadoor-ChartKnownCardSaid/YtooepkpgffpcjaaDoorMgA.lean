/- Words for memory: slices that read as lists; a block known whole; what a call leaves alone. Plain lemmas, no program. -/
import Derived.WalkKit
import Derived.WalkSpells
import Derived.WalkLawsBesides
import Derived.Lib.Hide
import Derived.Deep.AppendLies
import Derived.Deep.Draws
import Derived.Deep.QuietTactic
import Derived.BigQuiet
import Derived.StillTailTactics
import Derived.Deep.RegionHeld3
import Derived.Deep.RegionLaw
import Derived.Deep.LoopGhost
import Derived.Deep.DeepFit
import Derived.Deep.DeepMust
import Derived.Maps.AppendAt
namespace Go.Proofs.YtooepkpgffpcjaaDoor
open Go.RowKit

theorem block_of_add (a : Addr) (n : Nat) : (a.add n).block = a.block := by unfold Addr.add; split <;> rfl

/-- an int of Go's -/
def I64 (v : Int) : Prop := -9223372036854775808 ≤ v ∧ v ≤ 9223372036854775807
theorem I64.small {v : Int} (h : -1000000000000 ≤ v ∧ v ≤ 1000000000000) : I64 v := by unfold I64; omega

/-- The slice value '.slice A n c' reads as the cells xs. -/
def Rd (w : World) (A : Option Addr) (n : Nat) (xs : List Value) : Prop :=
  xs.length = n ∧ n ≤ 17592186044416 ∧ (0 < n → ∃ ad, A = some ad ∧ ad.block < w.heap.size ∧ ∀ j u, xs[j]? = some u → w.cell? (ad.add j) = some u)

def ints (l : List Int) : List Value := l.map (Value.int .i64)
@[simp] theorem ints_nil : ints [] = [] := rfl
theorem ints_cons (a : Int) (l : List Int) : ints (a :: l) = .int .i64 a :: ints l := rfl
theorem ints_append (a b : List Int) : ints (a ++ b) = ints a ++ ints b := by simp [ints]
@[simp] theorem ints_length (l : List Int) : (ints l).length = l.length := by simp [ints]
theorem ints_get (l : List Int) (j : Nat) : (ints l)[j]? = l[j]?.map (Value.int .i64) := by simp [ints]
theorem ints_oneCell' (l : List Int) : ∀ u ∈ ints l, u.oneCell' = true := by
  intro u hu; simp only [ints, List.mem_map] at hu; obtain ⟨x, _, rfl⟩ := hu; rfl

/-- The slice value '.slice A n c' reads as the numbers l, each of them an int. -/
def RdI (w : World) (A : Option Addr) (n : Nat) (l : List Int) : Prop := Rd w A n (ints l) ∧ ∀ v ∈ l, I64 v

section
variable {w w' : World} {n : Nat} {A : Option Addr} {xs : List Value} {l : List Int}
theorem Rd.none_ : Rd w A 0 [] := ⟨rfl, by omega, fun h => absurd h (by omega)⟩
theorem Rd.keep (h : Rd w A n xs) (hs : w.heap.size ≤ w'.heap.size) (hk : ∀ p : Addr, p.block < w.heap.size → A.map (·.block) = some p.block → w'.cell? p = w.cell? p) : Rd w' A n xs :=
  ⟨h.1, h.2.1, fun hn => by
    obtain ⟨ad, e, hb, hc⟩ := h.2.2 hn
    refine ⟨ad, e, by omega, fun j u hu => (hk _ (by rw [block_of_add]; exact hb) (by rw [e, block_of_add]; rfl)).trans (hc j u hu)⟩⟩
theorem Rd.below (h : Rd w A n xs) (hb : Below w.heap.size w w') : Rd w' A n xs := h.keep hb.size fun _ hp _ => hb.cell hp
theorem Rd.drew (h : Rd w A n xs) : Rd w.drew A n xs := h
theorem Rd.drewN (h : Rd w A n xs) (k : Nat) : Rd (w.drewN k) A n xs := h
theorem Rd.alloc (h : Rd w A n xs) (o : Obj) : Rd (w.alloc o) A n xs := h.keep (by simp) fun p hp _ => World.cell?_alloc_lt w o p (by omega)
theorem Rd.grown {row : Option Nat} (h : Rd w A n xs) (hg : w.grownBy w' row) (hr : ∀ g, row = some g → A.map (·.block) ≠ some g) : Rd w' A n xs :=
  h.keep hg.size fun p hp hA => World.cell?_of_block (hg.block p.block hp (fun e => hr p.block e.symm hA))
theorem Rd.setCell (h : Rd w A n xs) {p : Addr} (hp : A.map (·.block) ≠ some p.block) (u : Value) : Rd (w.setCell p u) A n xs :=
  h.keep (by simp [World.setCell]) fun q _ hA => World.cell?_setCell_other w p q u (fun e => by subst e; exact hp hA)
theorem Rd.at_ {k : Nat} (h : Rd w A n xs) (hk : k < n) : ∃ ad u, A = some ad ∧ ad.block < w.heap.size ∧ xs[k]? = some u ∧ w.cell? (ad.add k) = some u := by
  obtain ⟨ad, e, hb, hc⟩ := h.2.2 (by omega)
  have hl : k < xs.length := by have := h.1; omega
  exact ⟨ad, xs[k], e, hb, List.getElem?_eq_getElem hl, hc k _ (List.getElem?_eq_getElem hl)⟩
theorem Rd.of_own {base : Nat} {e : TypeId} {c : Nat} (h : w.ownsRow base e 1 (.slice A n c) n xs) (hn : n ≤ 17592186044416) : Rd w A n xs := by
  refine ⟨by simpa using h.1, hn, fun hp => ?_⟩
  obtain ⟨g, cap, hv, _, hlt⟩ := h.form hp
  have hA : A = some ⟨g, 0, none⟩ := by injection hv
  subst hA
  exact ⟨_, rfl, hlt, h.cells (g := g) rfl⟩

theorem RdI.len (h : RdI w A n l) : l.length = n := by simpa using h.1.1
theorem RdI.bd (h : RdI w A n l) : n ≤ 17592186044416 := h.1.2.1
theorem RdI.below (h : RdI w A n l) (hb : Below w.heap.size w w') : RdI w' A n l := ⟨h.1.below hb, h.2⟩
theorem RdI.drew (h : RdI w A n l) : RdI w.drew A n l := h
theorem RdI.drewN (h : RdI w A n l) (k : Nat) : RdI (w.drewN k) A n l := h
theorem RdI.alloc (h : RdI w A n l) (o : Obj) : RdI (w.alloc o) A n l := ⟨h.1.alloc o, h.2⟩
theorem RdI.grown {row : Option Nat} (h : RdI w A n l) (hg : w.grownBy w' row) (hr : ∀ g, row = some g → A.map (·.block) ≠ some g) : RdI w' A n l := ⟨h.1.grown hg hr, h.2⟩
theorem RdI.setCell (h : RdI w A n l) {p : Addr} (hp : A.map (·.block) ≠ some p.block) (u : Value) : RdI (w.setCell p u) A n l := ⟨h.1.setCell hp u, h.2⟩
theorem RdI.of_own {base : Nat} {e : TypeId} {c : Nat} (h : w.ownsRow base e 1 (.slice A n c) n (ints l)) (hn : n ≤ 17592186044416) (hl : ∀ v ∈ l, I64 v) : RdI w A n l := ⟨Rd.of_own h hn, hl⟩
theorem RdI.nil_ : RdI w A 0 [] := ⟨Rd.none_, by simp⟩
/-- In a round: where the k-th number lies. -/
theorem RdI.at_ {k : Nat} (h : RdI w A n l) (hk : k < n) : ∃ ad v, A = some ad ∧ ad.block < w.heap.size ∧ Hid (l[k]? = some v) ∧ I64 v ∧ w.cell? (ad.add k) = some (.int .i64 v) := by
  obtain ⟨ad, u, e, hb, hx, hc⟩ := h.1.at_ hk
  rw [ints_get] at hx
  obtain ⟨v, hv, rfl⟩ := Option.map_eq_some_iff.1 hx
  exact ⟨ad, v, e, hb, hv, h.2 v (List.mem_of_getElem? hv), hc⟩
end

theorem drop_of_get {α : Type} {l : List α} {k : Nat} {v : α} (h : l[k]? = some v) : l.drop k = v :: l.drop (k + 1) := by
  obtain ⟨hk, rfl⟩ := List.getElem?_eq_some_iff.1 h
  exact List.drop_eq_getElem_cons hk
theorem take_of_get {α : Type} {l : List α} {k : Nat} {v : α} (h : l[k]? = some v) : l.take (k + 1) = l.take k ++ [v] := by
  rw [List.take_add_one, h]; rfl
theorem getD_of_get {α : Type} {l : List α} {k : Nat} {v d : α} (h : l[k]? = some v) : l.getD k d = v := by
  rw [List.getD_eq_getElem?_getD, h]; rfl

theorem int_max (a b : Int) : Value.int .i64 (if a < b then b else a) = Value.int .i64 (max a b) := by congr 1; split <;> omega
theorem int_min (a b : Int) : Value.int .i64 (if b < a then b else a) = Value.int .i64 (min a b) := by congr 1; split <;> omega
theorem ret_int {k : IntKind} {a b : Int} (h : a = b) : Ending.returned (.int k a) = .returned (.int k b) := by rw [h]
theorem ret_bool {a b : Bool} (h : a = b) : Ending.returned (.bool a) = .returned (.bool b) := by rw [h]
theorem ret_ints2 {k k' : IntKind} {a b a' b' : Int} (h : a = b) (h' : a' = b') : Ending.returned (.tuple #[.int k a, .int k' a']) = .returned (.tuple #[.int k b, .int k' b']) := by rw [h, h']

/-- What is owned stays owned where nothing that lies in memory is turned. -/
theorem own_below {w w' : World} {base n : Nat} {e : TypeId} {size : Nat} {v : Value} {xs : List Value} (h : w.ownsRow base e size v n xs) (hb : Below w.heap.size w w') : w'.ownsRow base e size v n xs := by
  obtain ⟨h1, h2⟩ := h
  refine ⟨h1, ?_⟩
  rcases h2 with h2 | ⟨g, cap, cur, hv, hg, hh, r⟩
  · exact .inl h2
  · have hlt : g < w.heap.size := by
      rcases Nat.lt_or_ge g w.heap.size with h | h
      · exact h
      · rw [Array.getElem?_eq_none h] at hh; cases hh
    exact .inr ⟨g, cap, cur, hv, hg, by rw [hb.block g hlt]; exact hh, r⟩

/-- Block g is just the cells cs. -/
def Blk (w : World) (g : Nat) (t : TypeId) (cs : Array Value) : Prop := w.heap[g]? = some (.cells cs t (0, 0))

section
variable {w w' : World} {g : Nat} {t : TypeId} {cs : Array Value}
theorem Blk.lt (h : Blk w g t cs) : g < w.heap.size := by
  rcases Nat.lt_or_ge g w.heap.size with hlt | hge
  · exact hlt
  · unfold Blk at h; rw [Array.getElem?_eq_none hge] at h; cases h
theorem Blk.cell (h : Blk w g t cs) (i : Nat) : w.cell? ⟨g, i, none⟩ = cs[i]? := cell_of_row w g i cs t (0, 0) h
theorem Blk.frozen (h : Blk w g t cs) (i : Nat) : w.frozen? ⟨g, i, none⟩ = false := by
  unfold Blk at h
  simp [World.frozen?, h]
theorem Blk.new (w : World) (t : TypeId) (cs : Array Value) : Blk (w.alloc (.cells cs t)) w.heap.size t cs := heap_alloc_new w _
theorem Blk.drew (h : Blk w g t cs) : Blk w.drew g t cs := h
theorem Blk.drewN (h : Blk w g t cs) (n : Nat) : Blk (w.drewN n) g t cs := h
theorem Blk.alloc (h : Blk w g t cs) (o : Obj) : Blk (w.alloc o) g t cs := (Below.heap_alloc w o g h.lt).trans h
theorem Blk.set_ (h : Blk w g t cs) (i : Nat) (u : Value) : Blk (w.setCell ⟨g, i, none⟩ u) g t (cs.setIfInBounds i u) := by
  unfold Blk at h ⊢
  simp [World.setCell, Array.getElem?_modify, h]
theorem Blk.far (h : Blk w g t cs) {p : Addr} (hp : g ≠ p.block) (u : Value) : Blk (w.setCell p u) g t cs := (Below.heap_setCell w p u g hp).trans h
theorem Blk.below (h : Blk w g t cs) (hb : Below w.heap.size w w') : Blk w' g t cs := (hb.block g h.lt).trans h
theorem Blk.grown {row : Option Nat} (h : Blk w g t cs) (hb : w.grownBy w' row) (hg : some g ≠ row) : Blk w' g t cs := (hb.block g h.lt hg).trans h
end
theorem grown_set (w : World) (g i : Nat) (u : Value) : w.grownBy (w.setCell ⟨g, i, none⟩ u) (some g) :=
  ⟨rfl, rfl, rfl, by simp [World.setCell], fun k _ hk => Below.heap_setCell w _ u k (fun e => hk (by rw [e]))⟩
theorem grown_trans {a b c : World} {row : Option Nat} (h : a.grownBy b row) (k : b.grownBy c row) : a.grownBy c row :=
  ⟨k.os.trans h.os, k.tape.trans h.tape, k.output.trans h.output, Nat.le_trans h.size k.size, fun i hi hr => (k.block i (Nat.lt_of_lt_of_le hi h.size) hr).trans (h.block i hi hr)⟩
theorem grown_of_below {a b : World} (h : Below a.heap.size a b) (row : Option Nat) : a.grownBy b row := ⟨h.os, h.tape, h.output, h.size, fun k hk _ => h.block k hk⟩

/-- The slice value '.slice A n c' is the call's own: elements of type e, 'size' cells each, xs; its block has a number from base on. -/
def Own (w : World) (base : Nat) (e : TypeId) (size : Nat) (A : Option Addr) (n c : Nat) (xs : List Value) : Prop :=
  w.ownsRow base e size (.slice A n c) n xs ∧ n ≤ 17592186044416
def OwnI (w : World) (base : Nat) (e : TypeId) (A : Option Addr) (n c : Nat) (l : List Int) : Prop := Own w base e 1 A n c (ints l) ∧ ∀ v ∈ l, I64 v

theorem map_block_own {A : Option Addr} {n c : Nat} : (Value.slice A n c).ownBlock = A.map (·.block) := by cases A <;> rfl

section
variable {w w' : World} {base n c size : Nat} {e : TypeId} {A : Option Addr} {xs : List Value} {l : List Int}
theorem Own.nil_ (w : World) (base : Nat) (e : TypeId) (size : Nat) : Own w base e size none 0 0 [] := ⟨World.ownsRow_nil _ _ _ _, by omega⟩
theorem OwnI.nil_ (w : World) (base : Nat) (e : TypeId) : OwnI w base e none 0 0 [] := ⟨Own.nil_ _ _ _ _, by simp⟩
theorem Own.below (h : Own w base e size A n c xs) (hb : Below w.heap.size w w') : Own w' base e size A n c xs := ⟨own_below h.1 hb, h.2⟩
theorem Own.alloc (h : Own w base e size A n c xs) (o : Obj) : Own (w.alloc o) base e size A n c xs := ⟨h.1.alloc o, h.2⟩
theorem Own.drew (h : Own w base e size A n c xs) : Own w.drew base e size A n c xs := h
theorem Own.drewN (h : Own w base e size A n c xs) (k : Nat) : Own (w.drewN k) base e size A n c xs := h
theorem Own.grown {row : Option Nat} (h : Own w base e size A n c xs) (hg : w.grownBy w' row) (hr : A.map (·.block) = none ∨ A.map (·.block) ≠ row) : Own w' base e size A n c xs :=
  ⟨h.1.kept hg (by rw [map_block_own]; exact hr), h.2⟩
theorem Own.block (h : Own w base e size A n c xs) {k : Nat} (hk : A.map (·.block) = some k) : base ≤ k ∧ k < w.heap.size := h.1.lt k (by rw [map_block_own]; exact hk)
theorem Own.form (h : Own w base e size A n c xs) (hn : 0 < n) : ∃ g, A = some ⟨g, 0, none⟩ ∧ base ≤ g ∧ g < w.heap.size := by
  obtain ⟨g, cap, hv, hb, hlt⟩ := h.1.form hn
  have hA : A = some ⟨g, 0, none⟩ := by injection hv
  exact ⟨g, hA, hb, hlt⟩
theorem Own.rd (h : Own w base e 1 A n c xs) : Rd w A n xs := Rd.of_own h.1 h.2
theorem Own.len (h : Own w base e size A n c xs) : xs.length = n * size := h.1.1
theorem Own.cellAt {g : Nat} (h : Own w base e size (some ⟨g, 0, none⟩) n c xs) (j : Nat) (hj : j < n * size) : w.cell? ⟨g, j, none⟩ = xs[j]? := h.1.cellAt j hj
theorem Own.frozenAt {g : Nat} (h : Own w base e size (some ⟨g, 0, none⟩) n c xs) (j : Nat) : w.frozen? ⟨g, j, none⟩ = false := h.1.frozenAt j
theorem Own.stored {g : Nat} (h : Own w base e size (some ⟨g, 0, none⟩) n c xs) (j : Nat) (u : Value) : Own (w.setCell ⟨g, j, none⟩ u) base e size (some ⟨g, 0, none⟩) n c (xs.set j u) := ⟨(h.1.stored j u).1, h.2⟩
theorem Own.far {p : Addr} (h : Own w base e size A n c xs) (hp : A.map (·.block) ≠ some p.block) (u : Value) : Own (w.setCell p u) base e size A n c xs := by
  obtain ⟨b, o, sp⟩ := p
  refine h.grown (row := some b) ⟨rfl, rfl, rfl, by simp [World.setCell], fun k _ hk => Below.heap_setCell w _ u k (fun e => hk (by rw [e]))⟩ (.inr hp)

theorem OwnI.below (h : OwnI w base e A n c l) (hb : Below w.heap.size w w') : OwnI w' base e A n c l := ⟨h.1.below hb, h.2⟩
theorem OwnI.alloc (h : OwnI w base e A n c l) (o : Obj) : OwnI (w.alloc o) base e A n c l := ⟨h.1.alloc o, h.2⟩
theorem OwnI.drew (h : OwnI w base e A n c l) : OwnI w.drew base e A n c l := h
theorem OwnI.drewN (h : OwnI w base e A n c l) (k : Nat) : OwnI (w.drewN k) base e A n c l := h
theorem OwnI.grown {row : Option Nat} (h : OwnI w base e A n c l) (hg : w.grownBy w' row) (hr : A.map (·.block) = none ∨ A.map (·.block) ≠ row) : OwnI w' base e A n c l := ⟨h.1.grown hg hr, h.2⟩
theorem OwnI.far {p : Addr} (h : OwnI w base e A n c l) (hp : A.map (·.block) ≠ some p.block) (u : Value) : OwnI (w.setCell p u) base e A n c l := ⟨h.1.far hp u, h.2⟩
theorem OwnI.len (h : OwnI w base e A n c l) : l.length = n := by simpa using h.1.len
theorem OwnI.bd (h : OwnI w base e A n c l) : n ≤ 17592186044416 := h.1.2
theorem OwnI.rd (h : OwnI w base e A n c l) : RdI w A n l := ⟨h.1.rd, h.2⟩
theorem OwnI.form (h : OwnI w base e A n c l) (hn : 0 < n) : ∃ g, A = some ⟨g, 0, none⟩ ∧ base ≤ g ∧ g < w.heap.size := h.1.form hn
theorem OwnI.cellAt {g : Nat} (h : OwnI w base e (some ⟨g, 0, none⟩) n c l) {j : Nat} {v : Int} (hj : l[j]? = some v) : w.cell? ⟨g, j, none⟩ = some (.int .i64 v) := by
  have hlt : j < n := by have := (List.getElem?_eq_some_iff.1 hj).1; rw [h.len] at this; exact this
  rw [h.1.cellAt j (by omega), ints_get, hj]; rfl
theorem OwnI.frozenAt {g : Nat} (h : OwnI w base e (some ⟨g, 0, none⟩) n c l) (j : Nat) : w.frozen? ⟨g, j, none⟩ = false := h.1.frozenAt j
theorem OwnI.stored {g : Nat} (h : OwnI w base e (some ⟨g, 0, none⟩) n c l) (j : Nat) {u : Int} (hu : I64 u) : OwnI (w.setCell ⟨g, j, none⟩ (.int .i64 u)) base e (some ⟨g, 0, none⟩) n c (l.set j u) := by
  refine ⟨?_, fun v hv => ?_⟩
  · have := h.1.stored j (.int .i64 u)
    rwa [show (ints l).set j (.int .i64 u) = ints (l.set j u) by simp [ints, List.map_set]] at this
  · rcases List.mem_or_eq_of_mem_set hv with h1 | rfl
    · exact h.2 v h1
    · exact hu
theorem Own.mono {base' : Nat} (h : Own w base e size A n c xs) (hb : base' ≤ base) : Own w base' e size A n c xs := by
  obtain ⟨⟨h1, h2⟩, h3⟩ := h
  refine ⟨⟨h1, ?_⟩, h3⟩
  rcases h2 with h2 | ⟨g, cap, cur, hv, hg, r⟩
  · exact .inl h2
  · exact .inr ⟨g, cap, cur, hv, by omega, r⟩
theorem OwnI.mono {base' : Nat} (h : OwnI w base e A n c l) (hb : base' ≤ base) : OwnI w base' e A n c l := ⟨h.1.mono hb, h.2⟩
end

theorem Rd.one (w : World) (t : TypeId) (v : Value) : Rd (w.alloc (.cells #[v] t)) (some ⟨w.heap.size, 0, none⟩) 1 [v] :=
  ⟨rfl, by omega, fun _ => ⟨_, rfl, by simp, fun j u hu => by
    match j, hu with
    | 0, hu => simp at hu; subst hu; rw [Addr.add_zero', World.cell?_alloc_at _ _ _ _ rfl]; rfl⟩⟩

section
variable {P : Program} (w : World)
theorem run_app_nil (base : Nat) (t ty e : TypeId) (i : TypeInfo) (size : Nat) (ht : P.underlying t = some (.slice e)) (hi : P.info? e = some i)
    (v : Value) (n : Nat) (xs : List Value) (hown : w.ownsRow base e size v n xs) (c : Nat) : (Builtin.append_ #[t, t] ty #[v, .slice none 0 c]).run P w = .ok v w := by
  rcases hown.2 with ⟨rfl, rfl⟩ | ⟨g, cap, cur, rfl, _, _, hnc, _⟩
  · simp [Builtin.append_, run_underlying ht, sizeOf, typeInfo, hi, Builtin.lenOf, Builtin.firstCells]
  · simp [Builtin.append_, run_underlying ht, sizeOf, typeInfo, hi, Builtin.lenOf, Builtin.firstCells, hnc, storeCells]

theorem slice_form {w : World} {base : Nat} {e : TypeId} {size : Nat} {v : Value} {n : Nat} {xs : List Value} (h : w.ownsRow base e size v n xs) : ∃ A c, v = .slice A n c := by
  rcases h.2 with ⟨rfl, rfl⟩ | ⟨g, cap, cur, rfl, _⟩
  · exact ⟨_, _, rfl⟩
  · exact ⟨_, _, rfl⟩

/-- 'append', the source m elements that read as news (m may be 0). -/
theorem run_app (base : Nat) (t ty e : TypeId) (i : TypeInfo) (z : Value) (bytes : Nat) (ht : P.underlying t = some (.slice e)) (hi : P.info? e = some i) (hz : i.zero = some z)
    (hsize : i.size = 1) (hby : i.bytes = bytes) (hzs : z.cells.size = 1) (hb1 : bytes ≤ 1000)
    (A : Option Addr) (n c : Nat) (xs : List Value) (hown : Own w base e 1 A n c xs)
    (B : Option Addr) (m d : Nat) (news : List Value) (hr : Rd w B m news) (h1 : ∀ u ∈ news, u.oneCell' = true)
    (hnm : n + m ≤ 1000000) (hbase : base ≤ w.heap.size) :
    ∃ A' c' w', (Builtin.append_ #[t, t] ty #[.slice A n c, .slice B m d]).run P w = .ok (.slice A' (n + m) c') w' ∧ Own w' base e 1 A' (n + m) c' (xs ++ news) ∧ w.grownBy w' (A.map (·.block)) ∧
      (A'.map (·.block) = A.map (·.block) ∨ A'.map (·.block) = some w.heap.size) := by
  have h63 : n + m ≤ maxLen := by unfold maxLen; omega
  have hbytes : (n + m) * bytes ≤ 140737488355328 := Nat.le_trans (Nat.mul_le_mul hnm hb1) (by decide)
  rcases B with _ | ad
  · have hm : m = 0 := by
      rcases Nat.eq_zero_or_pos m with h0 | h0
      · exact h0
      · obtain ⟨ad, h, _⟩ := hr.2.2 h0
        cases h
    subst hm
    have hn : news = [] := List.eq_nil_of_length_eq_zero (by simpa using hr.1)
    subst hn
    exact ⟨A, c, w, run_app_nil w base t ty e i 1 ht hi _ n xs hown.1 d, by simpa using hown, World.grownBy.refl w _, .inl rfl⟩
  · have hcells : ∀ j u, news[j]? = some u → w.cell? (ad.add j) = some u := by
      intro j u hu
      rcases Nat.eq_zero_or_pos m with h0 | h0
      · subst h0
        have hn : news = [] := List.eq_nil_of_length_eq_zero (by simpa using hr.1)
        subst hn
        simp at hu
      · obtain ⟨ad', h, _, hc⟩ := hr.2.2 h0
        injection h with h
        subst h
        exact hc j u hu
    obtain ⟨v', w', hrun, h2, h3, _, h5⟩ := run_append_own_at (P := P) w base t ty e i z 1 bytes ht hi hz hsize hby hzs (by omega) _ n xs hown.1 ad m d news (by simpa using hr.1) hcells h1 h63 hbytes hbase
    obtain ⟨A', c', rfl⟩ := slice_form h2
    rw [map_block_own] at h3 h5
    rw [map_block_own] at h5
    exact ⟨A', c', w', hrun, ⟨h2, by omega⟩, h3, h5⟩

theorem wp_app {o : Oper} {a : Act} {K : Act → World → Prop} {Q : Exit → Act → World → Prop} (s x : Operand) (t : TypeId)
    (ho : o.op = .call { callee := .builtin .append, args := #[s, x], argTypes := #[t, t] })
    (base : Nat) (e : TypeId) (i : TypeInfo) (z : Value) (bytes : Nat) (ht : P.underlying t = some (.slice e)) (hi : P.info? e = some i) (hz : i.zero = some z)
    (hsize : i.size = 1) (hby : i.bytes = bytes) (hzs : z.cells.size = 1) (hb1 : bytes ≤ 1000)
    (A : Option Addr) (n c : Nat) (xs : List Value) (hs : a.eval s = .slice A n c) (hown : Own w base e 1 A n c xs)
    (B : Option Addr) (m d : Nat) (news : List Value) (hx : a.eval x = .slice B m d) (hr : Rd w B m news) (h1 : ∀ u ∈ news, u.oneCell' = true)
    (hnm : n + m ≤ 1000000) (hbase : base ≤ w.heap.size)
    (h : ∀ A' c' w', Own w' base e 1 A' (n + m) c' (xs ++ news) → w.grownBy w' (A.map (·.block)) → (A'.map (·.block) = A.map (·.block) ∨ A'.map (·.block) = some w.heap.size) → K (a.put o.dst (.slice A' (n + m) c')) w') : o.wp P a w K Q := by
  obtain ⟨A', c', w', hrun, h2, h3, h4⟩ := run_app (P := P) w base t o.type e i z bytes ht hi hz hsize hby hzs hb1 A n c xs hown B m d news hr h1 hnm hbase
  unfold Oper.wp execOp
  simp only [ho, resolve, invoke, builtin, Sem.run_bind, Sem.run_pure, Result.andThen_ok, List.map_toArray, List.map_cons, List.map_nil, hs, hx, hrun]
  exact h A' c' w' h2 h3 h4

theorem wpList_app {ops : Array Oper} {rest : List Oper} {o : Oper} {a : Act} {Q : Exit → Act → World → Prop} (hgd : o.guard = none) (s x : Operand) (t : TypeId)
    (ho : o.op = .call { callee := .builtin .append, args := #[s, x], argTypes := #[t, t] })
    (base : Nat) (e : TypeId) (i : TypeInfo) (z : Value) (bytes : Nat) (ht : P.underlying t = some (.slice e)) (hi : P.info? e = some i) (hz : i.zero = some z)
    (hsize : i.size = 1) (hby : i.bytes = bytes) (hzs : z.cells.size = 1) (hb1 : bytes ≤ 1000)
    (A : Option Addr) (n c : Nat) (xs : List Value) (hs : a.eval s = .slice A n c) (hown : Own w base e 1 A n c xs)
    (B : Option Addr) (m d : Nat) (news : List Value) (hx : a.eval x = .slice B m d) (hr : Rd w B m news) (h1 : ∀ u ∈ news, u.oneCell' = true)
    (hnm : n + m ≤ 1000000) (hbase : base ≤ w.heap.size)
    (h : ∀ A' c' w', Own w' base e 1 A' (n + m) c' (xs ++ news) → w.grownBy w' (A.map (·.block)) → (A'.map (·.block) = A.map (·.block) ∨ A'.map (·.block) = some w.heap.size) → wpList P ops Q rest (a.put o.dst (.slice A' (n + m) c')) w') : wpList P ops Q (o :: rest) a w :=
  wpList_plain hgd fun _ hK => wp_app w s x t ho base e i z bytes ht hi hz hsize hby hzs hb1 A n c xs hs hown B m d news hx hr h1 hnm hbase fun A' c' w' h2 h3 h4 => hK _ _ (h A' c' w' h2 h3 h4)

theorem step_app {ops : Array Oper} {o : Oper} {a : Act} {K : Act → World → Prop} {Q : Exit → Act → World → Prop} {E : Prop} (hgd : o.guard = none) (s x : Operand) (t : TypeId)
    (ho : o.op = .call { callee := .builtin .append, args := #[s, x], argTypes := #[t, t] })
    (base : Nat) (e : TypeId) (i : TypeInfo) (z : Value) (bytes : Nat) (ht : P.underlying t = some (.slice e)) (hi : P.info? e = some i) (hz : i.zero = some z)
    (hsize : i.size = 1) (hby : i.bytes = bytes) (hzs : z.cells.size = 1) (hb1 : bytes ≤ 1000)
    (A : Option Addr) (n c : Nat) (xs : List Value) (hs : a.eval s = .slice A n c) (hown : Own w base e 1 A n c xs)
    (B : Option Addr) (m d : Nat) (news : List Value) (hx : a.eval x = .slice B m d) (hr : Rd w B m news) (h1 : ∀ u ∈ news, u.oneCell' = true)
    (hnm : n + m ≤ 1000000) (hbase : base ≤ w.heap.size)
    (h : ∀ A' c' w', Own w' base e 1 A' (n + m) c' (xs ++ news) → w.grownBy w' (A.map (·.block)) → (A'.map (·.block) = A.map (·.block) ∨ A'.map (·.block) = some w.heap.size) → K (a.put o.dst (.slice A' (n + m) c')) w') :
    if Region.wanted o (yielded ops a.tmps) = true then Oper.wp P o a w K Q else E := by
  have hw : Region.wanted o (yielded ops a.tmps) = true := by simp [Region.wanted, hgd]
  rw [if_pos hw]
  exact wp_app w s x t ho base e i z bytes ht hi hz hsize hby hzs hb1 A n c xs hs hown B m d news hx hr h1 hnm hbase h
end

theorem Own.lit (w : World) (e : TypeId) (cs : Array Value) (n : Nat) (hn : n ≤ 1000000) (hs : cs.size = n) (base : Nat) (hb : base ≤ w.heap.size) :
    Own (w.alloc (.cells cs e)) base e 1 (some ⟨w.heap.size, 0, none⟩) n n cs.toList :=
  ⟨World.ownsRow_lit w cs n hb (by unfold maxLen; omega) (by omega), by omega⟩
theorem OwnI.lit (w : World) (e : TypeId) (l : List Int) (n : Nat) (hn : n ≤ 1000000) (hs : l.length = n) (base : Nat) (hb : base ≤ w.heap.size) (hl : ∀ v ∈ l, I64 v) :
    OwnI (w.alloc (.cells (ints l).toArray e)) base e (some ⟨w.heap.size, 0, none⟩) n n l := by
  refine ⟨?_, hl⟩
  have := Own.lit w e (ints l).toArray n hn (by simpa using hs) base hb
  simpa using this
theorem RdI.one (w : World) (t : TypeId) (v : Int) (hv : I64 v) : RdI (w.alloc (.cells #[.int .i64 v] t)) (some ⟨w.heap.size, 0, none⟩) 1 [v] :=
  ⟨Rd.one w t _, by simpa using hv⟩
/-- What an append into a row from base on leaves alone: all below base. -/
theorem below_app {w w' : World} {base size n c : Nat} {e : TypeId} {A : Option Addr} {xs : List Value} (h : Own w base e size A n c xs) (hg : w.grownBy w' (A.map (·.block))) (hb : base ≤ w.heap.size) : Below base w w' :=
  (Below.refl _ _).grown hg hb fun _ hk => (h.block hk).1

/-- A cell that is written, and written back: the world is as it was. -/
theorem setCell_back (w : World) (g j : Nat) (u v : Value) (h : w.cell? ⟨g, j, none⟩ = some v) : (w.setCell ⟨g, j, none⟩ u).setCell ⟨g, j, none⟩ v = w := by
  have hh : ((w.setCell ⟨g, j, none⟩ u).setCell ⟨g, j, none⟩ v).heap = w.heap := by
    apply Array.ext_getElem?
    intro i
    by_cases hi : i = g
    · subst hi
      simp only [World.cell?] at h
      cases hb : w.heap[i]? with
      | none => rw [hb] at h; simp at h
      | some o =>
        rw [hb] at h
        cases o <;> simp at h
        rename_i c e fr
        have hlt : j < c.size := (Array.getElem?_eq_some_iff.1 h).1
        have hset : c.setIfInBounds j v = c := by
          apply Array.ext_getElem?
          intro k
          by_cases hk : j = k
          · subst hk; rw [h]; simp [hlt]
          · simp [hk]
        simp [World.setCell, Array.getElem?_modify, hb, hset]
    · rw [Below.heap_setCell _ _ _ _ (by simpa using hi), Below.heap_setCell _ _ _ _ (by simpa using hi)]
  cases w
  simp only [World.setCell] at hh ⊢
  simp only [hh]

def bools (t : List Bool) : List Value := t.map Value.bool
@[simp] theorem bools_length (l : List Bool) : (bools l).length = l.length := by simp [bools]
theorem bools_get (l : List Bool) (j : Nat) : (bools l)[j]? = l[j]?.map Value.bool := by simp [bools]
theorem bools_set (l : List Bool) (j : Nat) (u : Bool) : (bools l).set j (.bool u) = bools (l.set j u) := by simp [bools, List.map_set]

theorem foldl_range_succ {α : Type} (f : α → Nat → α) (a : α) (k : Nat) : (List.range (k + 1)).foldl f a = f ((List.range k).foldl f a) k := by
  rw [List.range_succ, List.foldl_append]; rfl
end Go.Proofs.YtooepkpgffpcjaaDoor
