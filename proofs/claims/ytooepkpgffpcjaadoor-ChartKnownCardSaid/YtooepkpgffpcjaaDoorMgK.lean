/- What the rows of this seat need: an argument that is a slice of numbers, the signs as the program's text lays them, a world for the witness. -/
import Derived.Test.YtooepkpgffpcjaaDoorCards
import Derived.Test.YtooepkpgffpcjaaDoorTie
import Derived.Test.YtooepkpgffpcjaaDoorMgB
import Derived.WalkKit
import Derived.ProofKit
import Derived.OpenShut
import Derived.SizedLaws
import Derived.Deep.DeepHandedRow
import Derived.Lib.LaidTab
namespace Go.Proofs.YtooepkpgffpcjaaDoor
open Go.ChangeShapes Go.WideShapes Go.ChangeAt Go.RowKit

theorem ownK : ownKnob Tryd.prog.godebug = none := by kernel_rfl
theorem laidOutK : laidOutB Tryd.prog = true := by kernel_rfl
theorem cellsInt : Tryd.prog.cellsOf 3 = 1 := by kernel_rfl
theorem bytesInt : Tryd.prog.bytesOf 3 = 8 := by kernel_rfl
theorem wf_I64 {n : Int} (h : (Lit.int .i64 n).wf = true) : I64 n := by
  simpa [Lit.wf, IntKind.min, IntKind.max, IntKind.signed, IntKind.bits, I64] using h

set_option maxRecDepth 100000 in
/-- an argument that is a slice of numbers -/
theorem arg_ints {H : Type} {enc : TypeId × Value → H} {W : World} {base : Nat} {v : Value} {d : DataW H} {p : List MemPlace} {ts : List TypeId} {ds : List (DataW H)} {j : Nat}
    (hval : Value.okWide Tryd.prog W .any base 22 v) (h : DataW.Trod enc Tryd.prog W 0 (fun _ => true) true 22 v d p)
    (hsz : (DataW.weightsEach Tryd.prog ts ds).all (· ≤ reachBytes) = true) (ht : ts[j]? = some 22) (hd : ds[j]? = some d) :
    ∃ A n c l, v = .slice A n c ∧ RdI W A n l ∧ n ≤ c := by
  obtain ⟨a0, len, cap, rfl⟩ := okWide_slice Tryd.underlying22 hval
  obtain ⟨fuel, hf⟩ := h
  rcases open_ints Tryd.underlying22 Tryd.underlying3 cellsInt hf with ⟨hcs, hx⟩ | ⟨a, len', cap', zs, hcs, _, hl, hm, hz, hx, hcell, hwz⟩
  · simp only [Value.cells] at hcs
    injection hcs with hcs
    injection hcs with e1 e2 e3
    subst e1 e2 e3
    exact ⟨none, 0, 0, [], rfl, RdI.nil_, Nat.le_refl _⟩
  · simp only [Value.cells] at hcs
    injection hcs with hcs
    injection hcs with e1 e2 e3
    subst e1 e2 e3
    simp only [if_true] at hz
    have hd' : ds[j]? = some (.slice (lits .i64 (zs.take len)) (lits .i64 (zs.drop len))) := by rw [hd]; congr 1; injection hx
    have hb := sized_slice hsz ht hd' Tryd.underlying22
    rw [bytesInt] at hb
    simp only [lits, List.length_map, List.length_take, List.length_drop, hz] at hb
    have hb2 : cap * 8 ≤ 140737488351232 := by
      refine Nat.le_trans ?_ hb
      rw [Nat.min_eq_left hl]
      omega
    refine ⟨some a, len, cap, zs.take len, rfl, ⟨⟨by simp; omega, by omega, fun hn => ?_⟩, fun v hv => wf_I64 (hwz v (List.mem_of_mem_take hv))⟩, hl⟩
    have h0 := hcell 0 (by omega)
    refine ⟨a, rfl, ?_, fun i u hu => ?_⟩
    · have := World.block_lt_of_cell? W _ h0
      rwa [block_of_add] at this
    · rw [ints_get] at hu
      obtain ⟨x, hx, rfl⟩ := Option.map_eq_some_iff.1 hu
      have hi : i < len := by have := (List.getElem?_eq_some_iff.1 hx).1; simp at this; omega
      rw [List.getElem?_take, if_pos hi] at hx
      rw [hcell i (by omega), getD_of_get hx]
theorem gSigns : Tryd.prog.globalNamed "aloeswood/chart.signs" = some 0 := by kernel_rfl
theorem gSignsT : (Tryd.prog.globals[0]?).map (·.type) = some 130 := by kernel_rfl
theorem cellsS3 : Tryd.prog.cellsOf 130 = 6 := by kernel_rfl
theorem cellsS2 : Tryd.prog.cellsOf 129 = 2 := by kernel_rfl
theorem cellsS1 : Tryd.prog.cellsOf 5 = 1 := by kernel_rfl

/-- an array of rows that reads as these rows: each row reads as itself -/
theorem rows_of {H : Type} {enc : TypeId × Value → H} {P : Program} {w : World} {base : Nat} {sp : Nat → Bool} {held : Bool} {fuel : Nat} {t e : TypeId} {n m : Nat} {cs : List Value} {ds : List (DataW H)} {p : List MemPlace}
    (ht : P.underlying t = some (.array n e)) (hce : P.cellsOf e = m) (h : DataW.trod enc P w base sp held fuel t cs = some (.agg ds, p)) :
    ∀ i d, ds[i]? = some d → ∃ f' p', DataW.trod enc P w base sp held f' e ((cs.drop (i * m)).take m) = some (d, p') := by
  cases fuel with
  | zero => simp [DataW.trod] at h
  | succ fuel =>
    simp only [DataW.trod, ht, hce] at h
    split at h
    · obtain ⟨xs, hm, hx⟩ := Option.map_eq_some_iff.1 h
      injection hx with hx1 hx2
      injection hx1 with hx1
      subst hx1
      intro i d hd
      simp only [List.getElem?_map, Option.map_eq_some_iff] at hd
      obtain ⟨y, hy, rfl⟩ := hd
      have hl := Lib.mapM_length hm
      have hi : i < n := by
        have := (List.getElem?_eq_some_iff.1 hy).1
        simp at hl
        omega
      obtain ⟨b, hb, hf⟩ := Lib.mapM_at hm i i (by simp [hi])
      obtain rfl : b = y := Option.some.inj (hb.symm.trans hy)
      exact ⟨fuel, b.2, hf⟩
    · cases h

theorem pick2 {cs : List Value} {i : Nat} {a b : Value} (h : (cs.drop (i * 2)).take 2 = [a, b]) : cs[i * 2]? = some a ∧ cs[i * 2 + 1]? = some b := by
  have h0 := congrArg (·[0]?) h
  have h1 := congrArg (·[1]?) h
  simp [List.getElem?_drop] at h0 h1
  exact ⟨h0, h1⟩

/-- the signs, as the text lays them -/
theorem signs_of {rest : List (String × DataW Unit)} {W : World} (h : laidMet Tryd.prog (("aloeswood/chart.signs", Rows.laid_aloeswood_chart_signs) :: rest) W) : Signs W := by
  obtain ⟨ps, ⟨g', t', cs, fuel, p, q, hg', ht', hvar, hd, _, _⟩, _⟩ := h
  obtain rfl := Option.some.inj (gSigns.symm.trans hg')
  obtain rfl := Option.some.inj (gSignsT.symm.trans ht')
  have H := rows_of Tryd.underlying130 cellsS2 hd
  have row : ∀ i (a b : Int), (Rows.laid_aloeswood_chart_signs : DataW Unit) = .agg [.agg [.lit (.int .u8 32), .lit (.int .u8 45)], .agg [.lit (.int .u8 124), .lit (.int .u8 111)], .agg [.lit (.int .u8 124), .lit (.int .u8 120)]] →
      [Lib.tabData (H := Unit) .u8 [32, 45], Lib.tabData .u8 [124, 111], Lib.tabData .u8 [124, 120]][i]? = some (Lib.tabData .u8 [a, b]) → W.cell? ⟨0, i * 2, none⟩ = some (.int .u8 a) ∧ W.cell? ⟨0, i * 2 + 1, none⟩ = some (.int .u8 b) := by
    intro i a b _ hi
    obtain ⟨f', p', hf⟩ := H i _ hi
    have hc := Lib.cells_of_tab (zs := [a, b]) Tryd.underlying129 Tryd.underlying5 cellsS1 cellsS2 hf
    obtain ⟨e0, e1⟩ := pick2 hc
    rw [World.var?_cell gSigns hvar, World.var?_cell gSigns hvar]
    exact ⟨by simpa using e0, by simpa using e1⟩
  obtain ⟨a0, a1⟩ := row 0 32 45 rfl rfl
  obtain ⟨b0, b1⟩ := row 1 124 111 rfl rfl
  obtain ⟨c0, c1⟩ := row 2 124 120 rfl rfl
  refine ⟨World.block_lt_of_cell? _ _ a0, fun j v hj => ?_⟩
  match j, hj with
  | 0, hj => cases hj; exact a0
  | 1, hj => cases hj; exact a1
  | 2, hj => cases hj; exact b0
  | 3, hj => cases hj; exact b1
  | 4, hj => cases hj; exact c0
  | 5, hj => cases hj; exact c1
  | (k + 6), hj => simp [signsL] at hj

/-- A WORLD FOR THE WITNESS: the settled one, the signs laid. -/
noncomputable def laidWorld (os : Os) : World :=
  { World.holding Tryd.prog os ⟨#[], #[], []⟩ with heap := (World.holding Tryd.prog os ⟨#[], #[], []⟩).heap.modify 0 fun
      | .cells _ t frozen => .cells #[.int .u8 32, .int .u8 45, .int .u8 124, .int .u8 111, .int .u8 124, .int .u8 120] t frozen
      | o => o }
theorem trodAll_below {H : Type} {enc : TypeId × Value → H} {P : Program} {W W' : World} (hl : laidOutB P = true) (hb : Below W.heap.size W W') : ∀ {ts : List TypeId} {vs : List Value} {ds : List (DataW H)} {ps : List MemPlace},
    (∀ t ∈ ts, P.readableRec t = true ∧ t < P.types.size) → DataW.TrodAll enc P W 0 (fun _ => true) true ts vs ds ps → (∀ x ∈ ps, x.block < W.heap.size) → DataW.TrodAll enc P W' 0 (fun b => decide (b < W.heap.size)) true ts vs ds ps
  | [], [], [], _, _, h, _ => h
  | _ :: _, _ :: _, _ :: _, _, hT, ⟨p, q, h1, h2, e⟩, hs =>
    ⟨p, q, Below.trod hl (hT _ (List.mem_cons.2 (Or.inl rfl))).1 (hT _ (List.mem_cons.2 (Or.inl rfl))).2 h1 hb (fun x hx => hs x (by rw [e]; exact List.mem_append_left _ hx)),
      trodAll_below hl hb (fun t ht => hT t (List.mem_cons.2 (Or.inr ht))) h2 (fun x hx => hs x (by rw [e]; exact List.mem_append_right _ hx)), e⟩

/-- WHAT A STATEMENT LEAVES, AS ITS ROW ASKS IT. -/
theorem post_holds {H : Type} {enc : TypeId × Value → H} {s : ChangeSpec} {f : Func} {W W' : World} {args : Array Value} {ds gs : List (DataW H)} {before : List MemPlace}
    (hW : DataW.Whole enc Tryd.prog f.params.toList s.vars false W args.toList ds gs before) (hv : s.vars = []) (hr : f.resultTypes = #[4])
    (hT : ∀ t ∈ f.params.toList, Tryd.prog.readableRec t = true ∧ t < Tryd.prog.types.size)
    (hfn : s.fn H ds = { results := [.lit (.bool true)], args := ds }) (hb : Below W.heap.size W W') :
    s.post enc Tryd.prog f false true false false W args (.bool true) W' := by
  have hlt := fun x hx => hW.lt x hx
  have hW' := hW
  obtain ⟨p, q, hA, hV, rfl, hfz, hnd⟩ := hW
  rw [hv] at hV
  obtain ⟨rfl, rfl⟩ := trodVars_none hV
  refine ⟨ds, [], p ++ [], [], p, [], hW', ?_, ?_, ?_, hb.frame _, fun h => by cases h⟩
  · rw [List.append_nil, hfn, hr]
    exact trodAll_cons_mk (shut_bool Tryd.underlying4 _) trodAll_mk0
  · rw [List.append_nil, hfn]
    exact trodAll_below laidOutK hb hT hA (fun x hx => by simpa using hlt x (List.mem_append_left _ hx))
  · rw [List.append_nil, hfn, hv]
    rfl
theorem noVars {s : ChangeSpec} (hs : s.vars = []) (P : Program) : (OpenSpec.ofChange s).bare.plain.varTypes P = [] := by
  show s.vars.filterMap _ = []
  rw [hs]
  rfl
end Go.Proofs.YtooepkpgffpcjaaDoor
