/- Walk: numbering labels by a map, at labels that are pairs of numbers. Walks: what is common to two partitions, and being finer: the program's. Walks: what is common to two partitions, and being finer: the reference's. Walks: what is joined: the program's and the reference's. -/
import Derived.Test.YtooepkpgffpcjaaDoorMgD
import Derived.DeepKeys4
import Derived.WideKeyPair
import Derived.Deep.DeepCutAuto
namespace Go.Proofs.YtooepkpgffpcjaaDoor
open Go.RowKit

abbrev Pr := Int × Int
def prCells (L : List Pr) : List Value := L.flatMap fun b => [.int .i64 b.1, .int .i64 b.2]
theorem prCells_length (L : List Pr) : (prCells L).length = L.length * 2 := by
  induction L with
  | nil => rfl
  | cons b L ih => simp only [prCells, List.flatMap_cons, List.length_append, List.length_cons, List.length_nil] at ih ⊢; omega
theorem prCells_get (L : List Pr) (j : Nat) (b : Pr) (h : L[j]? = some b) : (prCells L)[j * 2]? = some (.int .i64 b.1) ∧ (prCells L)[j * 2 + 1]? = some (.int .i64 b.2) := by
  induction L generalizing j with
  | nil => simp at h
  | cons x L ih =>
    cases j with
    | zero => simp at h; subst h; simp [prCells]
    | succ j =>
      have := ih j (by simpa using h)
      simp only [prCells, List.flatMap_cons] at this ⊢
      rw [show (j + 1) * 2 = j * 2 + 2 by omega]
      simpa using this
theorem getP {α : Type} {l : List α} {n k : Nat} (h : l.length = n) (hk : k < n) : ∃ v, l[k]? = some v := ⟨l[k]'(by omega), List.getElem?_eq_getElem _⟩
/-- a slice of pairs that reads as L -/
def RdP (w : World) (A : Option Addr) (n : Nat) (L : List Pr) : Prop :=
  L.length = n ∧ n ≤ 1000000 ∧ (0 < n → ∃ g, A = some ⟨g, 0, none⟩ ∧ g < w.heap.size ∧ ∀ j u, (prCells L)[j]? = some u → w.cell? ⟨g, j, none⟩ = some u)
theorem RdP.below {w w' : World} {A : Option Addr} {n : Nat} {L : List Pr} (h : RdP w A n L) (hb : Below w.heap.size w w') : RdP w' A n L :=
  ⟨h.1, h.2.1, fun hn => by
    obtain ⟨g, e, hg, hc⟩ := h.2.2 hn
    exact ⟨g, e, Nat.lt_of_lt_of_le hg hb.size, fun j u hu => (hb.cell (p := ⟨g, j, none⟩) hg).trans (hc j u hu)⟩⟩
/-- a pair as one number -/
def en (p : Pr) : Int := p.1 * 1000 + p.2
def Okp (p : Pr) : Prop := 0 ≤ p.1 ∧ p.1 < 1000 ∧ 0 ≤ p.2 ∧ p.2 < 1000
theorem en_inj {p q : Pr} (hp : Okp p) (hq : Okp q) (h : en p = en q) : p = q := by
  obtain ⟨a, b⟩ := p
  obtain ⟨c, d⟩ := q
  unfold Okp at hp hq
  unfold en at h
  simp only at hp hq h
  have h1 : a = c := by omega
  have h2 : b = d := by omega
  rw [h1, h2]

theorem pairArr : WideMaps.ArrKey Tryd.prog 105 3 2 := ⟨Tryd.underlying105, by kernel_rfl, by kernel_rfl, by kernel_rfl⟩
theorem pairLaid : laidOutB Tryd.prog = true := by kernel_rfl
theorem lawPair : Maps.Keyed Tryd.prog 105 := Maps.Keyed.of_law (deep_law_laid pairLaid (m := 2) (by omega) (of_decide_eq_true (by kernel_rfl)) (by kernel_rfl) (by kernel_rfl))
theorem sizePos : ∃ m, Tryd.prog.types.size = m + 1 := by
  have h : 0 < Tryd.prog.types.size := of_decide_eq_true (by kernel_rfl)
  exact ⟨Tryd.prog.types.size - 1, by omega⟩
def kl (p : Pr) : Lit := .string (keyBytes [.int .i64 p.1, .int .i64 p.2])
theorem Okp.i64 {p : Pr} (h : Okp p) : I64 p.1 ∧ I64 p.2 := by unfold Okp at h; exact ⟨I64.small (by omega), I64.small (by omega)⟩
theorem keyPair {p : Pr} (h : Okp p) : keyOf Tryd.prog 105 (.agg #[.int .i64 p.1, .int .i64 p.2]) = some (kl p) :=
  WideMaps.keyOf_pair pairArr Tryd.underlying3 sizePos (wfInt h.i64.1) (wfInt h.i64.2)
theorem kl_inj {p q : Pr} (hp : Okp p) (hq : Okp q) (h : kl p = kl q) : p = q := by
  have h1 := keyPair hp
  have h2 := keyPair hq
  rw [← h] at h2
  have e := lawPair.inj h1 h2
  obtain ⟨a, b⟩ := p
  obtain ⟨c, d⟩ := q
  simp at e
  rw [e.1, e.2]

/-- a map that holds where each label stands among those that were met -/
def Met2 (D : DataW Unit) (s : List Int) : Prop :=
  Maps.Tidy D ∧ Maps.size D = s.length ∧ ∀ p : Pr, Okp p → Maps.has D (kl p) = decide (en p ∈ s) ∧ (en p ∈ s → D.atKey (kl p) (.lit (.int .i64 0)) = .lit (.int .i64 (s.idxOf (en p))))
theorem Met2.nil_ : Met2 (.map []) [] := ⟨Maps.tidy_empty, rfl, fun x _ => ⟨rfl, fun h => by cases h⟩⟩
theorem Met2.put {D : DataW Unit} {s : List Int} (h : Met2 D s) {p : Pr} (hp : Okp p) (hx : en p ∉ s) : Met2 (D.put (kl p) (.lit (.int .i64 s.length))) (s ++ [en p]) := by
  obtain ⟨ht, hs, hh⟩ := h
  have hk : WideAt.IsKeyLit (kl p) := trivial
  have hx0 : Maps.has D (kl p) = false := by rw [(hh p hp).1]; simpa using hx
  refine ⟨ht.put hk _, ?_, fun y hy0 => ?_⟩
  · rw [Maps.size_put ht, hx0, hs]; simp
  · by_cases e : y = p
    · subst e
      refine ⟨?_, fun _ => ?_⟩
      · rw [Maps.has_put_same ht.isMap hk]; simp
      · rw [Maps.atKey_put_same ht.isMap hk, List.idxOf_append, if_neg hx]; simp
    · have hne : kl y ≠ kl p := fun h => e (kl_inj hy0 hp h)
      have hen : en y ≠ en p := fun h => e (en_inj hy0 hp h)
      refine ⟨?_, fun hy => ?_⟩
      · rw [Maps.has_put_other hne, (hh y hy0).1]; simp [hen]
      · have hy' : en y ∈ s := by simpa [hen] using hy
        rw [Maps.atKey_put_other hne, (hh y hy0).2 hy', List.idxOf_append, if_pos hy']
theorem Met2.at_ {D : DataW Unit} {s : List Int} (h : Met2 D s) {p : Pr} {c : Int} (hp : Okp p) (hx : en p ∈ s) (hc : D.atKey (kl p) (.lit (.int .i64 0)) = .lit (.int .i64 c)) : c = (s.idxOf (en p) : Int) := by
  rw [(h.2.2 p hp).2 hx] at hc
  injection hc with hc
  injection hc with _ hc
  exact hc.symm
def MapP (w : World) (b n : Nat) (D : DataW Unit) : Prop := w.ownsMap Tryd.prog 105 (plainElem Tryd.prog 3) b n D

set_option maxHeartbeats 1000000 in
set_option maxRecDepth 100000 in
theorem number2_any (A : Option Addr) (n c : Nat) (L : List Pr) (w : World) (h : RdP w A n L) (hn : n ≤ 1000) (hok : ∀ p ∈ L, Okp p) :
    Calls Tryd.prog 107 #[.slice A n c] w (Listed (ofL (L.map en)) w) := by
  have HL := Lib.hid h.1
  have HOK := Lib.hid hok
  clear hok
  have hmm := @run_makeMap Tryd.prog
  go_enter Tryd.func107, Tryd.ntmps107
  go_wp2_with fail
  go_loopw [4, 12] (fun o i wr => ∃ k : Nat, k ≤ n ∧ i = .int .i64 k ∧ ∃ Ao co D, o = .slice Ao k co ∧
      OwnI wr (w.heap.size + 1) 3 Ao k co (ofL ((L.take k).map en)) ∧ MapP wr w.heap.size k D ∧ Met2 D (seenOf ((L.take k).map en)) ∧ Below w.heap.size w wr ∧ w.heap.size + 1 ≤ wr.heap.size) (fun _ i _ => n - (intOf i).toNat)
  case atStart => exact ⟨0, by omega, rfl, none, 0, .map [], rfl, OwnI.nil_ _ _ _, World.ownsMap_made _ _ _ _, Met2.nil_, (Below.refl _ _).alloc (Nat.le_refl _) _, by simp⟩
  case round =>
    obtain ⟨k, hk, rfl, Ao, co, D, rfl, hoo, hmp, hmt, hbel, hsz0⟩ := hrel
    by_cases hlt : k < n
    · obtain ⟨g, rfl, hg, hcs⟩ := h.2.2 (by omega)
      obtain ⟨⟨x, y⟩, hv⟩ := getP HL.out hlt
      have hpo : Okp (x, y) := HOK.out _ (List.mem_of_getElem? hv)
      have HPO := Lib.hid hpo
      have hk2 := prCells_get L k _ hv
      have c0 := (hbel.cell (p := ⟨g, k * 2, none⟩) hg).trans (hcs _ _ hk2.1)
      have c1 := (hbel.cell (p := ⟨g, k * 2 + 1, none⟩) hg).trans (hcs _ _ hk2.2)
      have HT : Hid ((L.take (k + 1)).map en = (L.take k).map en ++ [en (x, y)]) := by
        show (L.take (k + 1)).map en = _
        rw [take_of_get hv, List.map_append]; rfl
      have HSN := Lib.hid (seenOf_snoc ((L.take k).map en) (en (x, y)))
      have HON := Lib.hid (ofL_snoc ((L.take k).map en) (en (x, y)))
      have hsl : (seenOf ((L.take k).map en)).length ≤ k := Nat.le_trans (seenOf_len _) (by rw [List.length_map]; exact List.length_take_le _ _)
      have HO := Lib.hid (hoo.alloc (.cells #[.int .i64 x, .int .i64 y] 105))
      have HP : Hid (MapP (wr.alloc (.cells #[.int .i64 x, .int .i64 y] 105)) w.heap.size k D) := Lib.hid (World.ownsMap.alloc hmp _)
      have HM := Lib.hid hmt
      have HB := Lib.hid (hbel.trans ((Below.refl _ _).alloc hbel.size (.cells #[.int .i64 x, .int .i64 y] 105)))
      have hsz1 : w.heap.size + 1 ≤ (wr.alloc (.cells #[.int .i64 x, .int .i64 y] 105)).heap.size := by simp; omega
      have HSZ := Lib.hid hsz1
      have HK := Lib.hid (keyPair hpo)
      simp only at HK
      clear hk2 hcs hv hoo hmp hmt hbel hpo hsz1 hsz0
      generalize seenOf ((L.take k).map en) = S at HM HSN HON hsl
      generalize ofL ((L.take k).map en) = O at HO HON
      have HNB : Hid (Ao.map (·.block) ≠ some w.heap.size) := Lib.hid (fun e => by have := (HO.out.1.block e).1; omega)
      by_cases hvS : en (x, y) ∈ S
      · have HHas : Hid (Maps.has D (kl (x, y)) = true) := Lib.hid (by rw [(HM.out.2.2 _ HPO.out).1]; simpa using hvS)
        have hidx := List.idxOf_lt_length_of_mem hvS
        have HAT : Hid (∀ d : Int, D.atKey (kl (x, y)) (.lit (.int .i64 0)) = .lit (.int .i64 d) → d = (S.idxOf (en (x, y)) : Int)) := Lib.hid fun d hd => HM.out.at_ HPO.out hvS hd
        have HVS := Lib.hid hvS
        clear hvS
        generalize List.idxOf (en (x, y)) S = q at hidx HON HAT
        go_upto_region 6 with fail
        have HBK := Lib.hid (Blk.new wr 105 #[.int .i64 x, .int .i64 y])
        generalize wr.alloc (.cells #[.int .i64 x, .int .i64 y] 105) = W1 at HO HP HB HSZ HBK ⊢
        generalize wr.heap.size = gp at HBK ⊢
        have k0 : W1.cell? ⟨gp, 0, none⟩ = some (.int .i64 x) := by rw [HBK.out.cell]; rfl
        have k1 : W1.cell? ⟨gp, 1, none⟩ = some (.int .i64 y) := by rw [HBK.out.cell]; rfl
        have k0' : W1.cell? ⟨gp, 0 + 1, none⟩ = some (.int .i64 y) := k1
        go_wp2_with (first
          | (at_lookup; refine wpList_lookup_own_ok_int _ rfl _ _ _ rfl 105 3 .i64 lawPair Tryd.underlying126 Tryd.underlying3 (zeroInt _) w.heap.size k D rfl HP.out _ _ rfl HK.out ?_; intro d hat hwd; have HE := Lib.hid (HAT.out d hat); clear hat hwd; rw [HHas.out, HE.out])
          | (at_builtin; refine wpList_appI1 _ rfl (.tmp 29) (.tmp 31) rfl _ rfl rfl HO.out (v := (q : Int)) (I64.small (by omega)) (by omega) HSZ.out ?_; intro A' c' w' kk; have KK := Lib.hid kk; clear kk))
        go_roundw
        case rel => exact ⟨k + 1, by omega, by go_num, A', c', D, rfl, by rw [HT.out, HON.out]; exact KK.out.own, (World.ownsMap.kept HP.out KK.out.grown (fun e => HNB.out (e.symm))).mono (by omega), by rw [HT.out, HSN.out, if_pos HVS.out]; exact HM.out, HB.out.trans (KK.out.below.mono (by omega)), Nat.le_trans HSZ.out KK.out.grown.size⟩
        case measure => simp [intOf]; omega
      · have HHas : Hid (Maps.has D (kl (x, y)) = false) := Lib.hid (by rw [(HM.out.2.2 _ HPO.out).1]; simpa using hvS)
        have HSS : Hid (Maps.size D = S.length) := Lib.hid HM.out.2.1
        have HPut := Lib.hid (HM.out.put HPO.out hvS)
        have HIX : Hid (S.idxOf (en (x, y)) = S.length) := Lib.hid (List.idxOf_eq_length hvS)
        rw [HIX.out] at HON
        have HVS := Lib.hid hvS
        obtain ⟨q, hq⟩ : ∃ q, q = S.length := ⟨_, rfl⟩
        rw [← hq] at HPut HSS HON hsl
        clear hq hvS
        go_upto_region 6 with fail
        have HBK := Lib.hid (Blk.new wr 105 #[.int .i64 x, .int .i64 y])
        generalize wr.alloc (.cells #[.int .i64 x, .int .i64 y] 105) = W1 at HO HP HB HSZ HBK ⊢
        generalize wr.heap.size = gp at HBK ⊢
        have k0 : W1.cell? ⟨gp, 0, none⟩ = some (.int .i64 x) := by rw [HBK.out.cell]; rfl
        have k1 : W1.cell? ⟨gp, 1, none⟩ = some (.int .i64 y) := by rw [HBK.out.cell]; rfl
        have k0' : W1.cell? ⟨gp, 0 + 1, none⟩ = some (.int .i64 y) := k1
        go_wp2_with (first
          | (at_lookup; refine wpList_lookup_own_ok_int _ rfl _ _ _ rfl 105 3 .i64 lawPair Tryd.underlying126 Tryd.underlying3 (zeroInt _) w.heap.size k D rfl HP.out _ _ rfl HK.out ?_; intro d hat hwd; clear hat hwd; rw [HHas.out])
          | (at_len; refine wpList_len_own _ rfl _ _ rfl 105 3 Tryd.underlying126 _ w.heap.size k D rfl HP.out ?_; rw [HSS.out])
          | (at_mapUpdate; refine wpList_mapUpdate_own _ rfl _ _ _ _ rfl 105 3 lawPair Tryd.underlying126 _ w.heap.size k D rfl HP.out (by unfold maxLen; omega) _ _ _ rfl rfl HK.out _ [] (plainElem_int Tryd.underlying3 (wfInt (I64.small (v := (q : Int)) (by omega)))) ?_; intro w1 hown1 hgrow1; have HP1 := Lib.hid hown1; have HG1 := Lib.hid hgrow1; have HO1 := Lib.hid (HO.out.grown hgrow1 (.inr HNB.out)); have hsz1 := Nat.le_trans HSZ.out hgrow1.size; clear hown1 hgrow1)
          | (at_builtin; refine wpList_appI1 _ rfl (.tmp 29) (.tmp 31) rfl _ rfl rfl HO1.out (v := (q : Int)) (I64.small (by omega)) (by omega) hsz1 ?_; intro A' c' w' kk; have KK := Lib.hid kk; clear kk))
        go_roundw
        case rel => exact ⟨k + 1, by omega, by go_num, A', c', _, rfl, by rw [HT.out, HON.out]; exact KK.out.own, World.ownsMap.kept HP1.out KK.out.grown (fun e => HNB.out e.symm), by rw [HT.out, HSN.out, if_neg HVS.out]; exact HPut.out, (HB.out.grown HG1.out HB.out.size (fun j hj => by cases hj; exact Nat.le_refl _)).trans (KK.out.below.mono (by omega)), Nat.le_trans hsz1 KK.out.grown.size⟩
        case measure => simp [intOf]; omega
    · have HO := Lib.hid hoo
      have HB := Lib.hid hbel
      clear hoo hmp hmt hbel
      have HK : Hid (L.take k = L) := by rw [List.take_of_length_le (by have := HL.out; omega)]; rfl
      rw [HK.out] at HO
      obtain rfl : k = n := by omega
      go_wp2
      go_ret
      have hl2 : (ofL (L.map en)).length = k := by rw [ofL_length, List.length_map, HL.out]
      refine ⟨Ao, co, ?_, ?_, HB.out⟩
      · rw [hl2]; rfl
      · rw [hl2]; exact HO.out.mono (by omega)
end Go.Proofs.YtooepkpgffpcjaaDoor

namespace Go.Proofs.YtooepkpgffpcjaaDoor
open Go.RowKit

theorem pairInfo : (Tryd.prog.info? 105).map (fun i => (i.zero, i.size, i.bytes)) = some (some (.agg #[.int .i64 0, .int .i64 0]), 2, 16) := by kernel_rfl
theorem prCells_append (L : List Pr) (b : Pr) : prCells (L ++ [b]) = prCells L ++ prCells [b] := by simp [prCells]
theorem prCells_one (L : List Pr) : ∀ u ∈ prCells L, u.oneCell' = true := by
  intro u hu
  simp only [prCells, List.mem_flatMap] at hu
  obtain ⟨b, _, hb⟩ := hu
  simp only [List.mem_cons, List.not_mem_nil, or_false] at hb
  rcases hb with rfl | rfl <;> rfl
theorem RdP.of_own {w : World} {base n c : Nat} {A : Option Addr} {L : List Pr} (h : Own w base 105 2 A n c (prCells L)) (hn : n ≤ 1000000) : RdP w A n L := by
  have hl := h.len
  rw [prCells_length] at hl
  refine ⟨by omega, hn, fun h0 => ?_⟩
  obtain ⟨g, rfl, _, hg⟩ := h.form h0
  exact ⟨g, rfl, hg, fun j u hu => by
    have hj : j < n * 2 := by have := (List.getElem?_eq_some_iff.1 hu).1; rw [prCells_length] at this; omega
    rw [h.cellAt j hj]; exact hu⟩

/-- 'append(s, p)' of a pair, that was laid in a new block first, in a region that draws its order. -/
theorem step_appP (w : World) {ops : Array Oper} {o : Oper} {a : Act} {K : Act → World → Prop} {Q : Exit → Act → World → Prop} {E : Prop} (hgd : o.guard = none) (s x : Operand)
    (ho : o.op = .call { callee := .builtin .append, args := #[s, x], argTypes := #[102, 102] })
    {base n c : Nat} {A : Option Addr} {L : List Pr} {b : Pr} (t : TypeId) (hs : a.eval s = .slice A n c) (hx : a.eval x = .slice (some ⟨w.heap.size, 0, none⟩) 1 1) (hown : Own w base 105 2 A n c (prCells L)) (hnm : n + 1 ≤ 1000) (hbase : base ≤ w.heap.size)
    (h : ∀ A' c' w', Own w' base 105 2 A' (n + 1) c' (prCells (L ++ [b])) → w.grownBy w' (A.map (·.block)) → Below base w w' → K (a.put o.dst (.slice A' (n + 1) c')) w') :
    if Region.wanted o (yielded ops a.tmps) = true then Oper.wp Tryd.prog o a (w.alloc (.cells #[.int .i64 b.1, .int .i64 b.2] t)) K Q else E := by
  have hw : Region.wanted o (yielded ops a.tmps) = true := by simp [Region.wanted, hgd]
  rw [if_pos hw]
  obtain ⟨i0, hi0, hz0, hz1, hz2⟩ := info_parts pairInfo
  have hcells : ∀ j u, (prCells [b])[j]? = some u → (w.alloc (.cells #[.int .i64 b.1, .int .i64 b.2] t)).cell? ((⟨w.heap.size, 0, none⟩ : Addr).add j) = some u := by
    intro j u hu
    rw [show (⟨w.heap.size, 0, none⟩ : Addr).add j = ⟨w.heap.size, j, none⟩ by unfold Addr.add; split <;> simp_all, World.cell?_alloc_at _ _ _ _ rfl]
    simpa [prCells] using hu
  obtain ⟨v', w', hrun, h2, h3, _, _⟩ := run_append_own_at (P := Tryd.prog) (w.alloc (.cells #[.int .i64 b.1, .int .i64 b.2] t)) base 102 o.type 105 i0 _ 2 16 Tryd.underlying102 hi0 hz0 hz1 hz2 rfl (by omega) _ n (prCells L) (hown.alloc _).1 ⟨w.heap.size, 0, none⟩ 1 1 (prCells [b]) rfl hcells (prCells_one _) (by unfold maxLen; omega) (by omega) (by simp; omega)
  obtain ⟨A', c', rfl⟩ := slice_form h2
  rw [map_block_own] at h3
  have hg : w.grownBy w' (A.map (·.block)) := grown_trans (World.grownBy_alloc w _ _) h3
  unfold Oper.wp execOp
  simp only [ho, resolve, invoke, builtin, Sem.run_bind, Sem.run_pure, Result.andThen_ok, List.map_toArray, List.map_cons, List.map_nil, hs, hx, hrun]
  exact h A' c' w' ⟨by rw [prCells_append]; exact h2, by omega⟩ hg (below_app hown hg hbase)

theorem zip_en (l r : List Int) : (l.zip r).map en = pairL 1000 l r := by
  unfold pairL List.zip
  rw [List.map_zipWith]; rfl
theorem zip_get {l r : List Int} {k : Nat} {u v : Int} (hu : l[k]? = some u) (hv : r[k]? = some v) : (l.zip r)[k]? = some (u, v) := by
  unfold List.zip
  rw [List.getElem?_zipWith, hu, hv]
theorem zip_ok {l r : List Int} (hl : ∀ v ∈ l, 0 ≤ v ∧ v < 9) (hr : ∀ v ∈ r, 0 ≤ v ∧ v < 9) : ∀ p ∈ l.zip r, Okp p := by
  rintro ⟨a, b⟩ hp
  have h1 := hl a (List.of_mem_zip hp).1
  have h2 := hr b (List.of_mem_zip hp).2
  unfold Okp
  simp only
  omega

set_option maxHeartbeats 1000000 in
set_option maxRecDepth 100000 in
theorem meet_any (A B : Option Addr) (n c d : Nat) (l r : List Int) (w : World) (h1 : RdI w A n l) (h2 : RdI w B n r) (hl : chk l = 0) (hr : chk r = 0) :
    Calls Tryd.prog 100 #[.slice A n c, .slice B n d] w (Listed (meetL l r) w) := by
  have HL1 := Lib.hid h1.len
  have HL2 := Lib.hid h2.len
  have hn9 : n ≤ 9 := by have := (chk_ok hl).2.1; have := h1.len; omega
  have HC1 := Lib.hid (chk_ok hl).2.2.1
  have HC2 := Lib.hid (chk_ok hr).2.2.1
  clear hl hr
  go_enter Tryd.func100, Tryd.ntmps100
  go_wp2_with fail
  go_loopw [5, 9] (fun o i wr => ∃ k : Nat, k ≤ n ∧ i = .int .i64 k ∧ ∃ Ao co, o = .slice Ao k co ∧ Own wr w.heap.size 105 2 Ao k co (prCells ((l.zip r).take k)) ∧ Below w.heap.size w wr) (fun _ i _ => n - (intOf i).toNat)
  case atStart => exact ⟨0, by omega, rfl, none, 0, rfl, Own.nil_ _ _ _ _, Below.refl _ _⟩
  case round =>
    obtain ⟨k, hk, rfl, Ao, co, rfl, hown, hbel⟩ := hrel
    have HO := Lib.hid hown
    have HB := Lib.hid hbel
    clear hown hbel
    by_cases hlt : k < n
    · obtain ⟨ad, u, rfl, had, hu, _, hcell0⟩ := h1.at_ hlt
      obtain ⟨bd, v, rfl, hbd, hv, _, hcell1⟩ := h2.at_ hlt
      rw [← HB.out.cell (by rw [block_of_add]; exact had)] at hcell0
      rw [← HB.out.cell (by rw [block_of_add]; exact hbd)] at hcell1
      have HT := Lib.hid (take_of_get (zip_get hu.out hv.out))
      have hsz := HB.out.size
      have hA0 : (ad.add k).block < w.heap.size := by rw [block_of_add]; exact had
      have hB0 : (bd.add k).block < w.heap.size := by rw [block_of_add]; exact hbd
      have hA1 := Nat.lt_of_lt_of_le hA0 hsz
      have hB1 := Nat.lt_of_lt_of_le hB0 hsz
      go_upto_region 5 with fail
      go_region_held3 (fun w' => w'.cell? (ad.add k) = some (.int .i64 u) ∧ w'.cell? (bd.add k) = some (.int .i64 v)) (first | exact ⟨hcell0, hcell1⟩ | exact ⟨(World.cell?_alloc_lt wr _ _ hA1).trans hcell0, (World.cell?_alloc_lt wr _ _ hB1).trans hcell1⟩ | exact ⟨(hbel.cell hA0).trans hcell0, (hbel.cell hB0).trans hcell1⟩) ((refine step_appP wr.drew (by rfl) (.tmp 12) (.tmp 22) (by rfl) (b := (u, v)) _ (by rfl) (by rfl) HO.out.drew (by omega) hsz ?_; intro A' c' w' hown hgrow hbel))
      go_wp2
      go_roundw
      case rel => exact ⟨k + 1, by omega, by go_num, A', c', rfl, by rw [HT.out]; exact hown, HB.out.drew.trans hbel⟩
      case measure => simp [intOf]; omega
    · obtain rfl : k = n := by omega
      have HZ : Hid ((l.zip r).take k = l.zip r) := by rw [List.take_of_length_le (by rw [List.length_zip, HL1.out, HL2.out]; omega)]; rfl
      rw [HZ.out] at HO
      have HP := Lib.hid (RdP.of_own HO.out (by omega))
      have HOK := Lib.hid (zip_ok HC1.out HC2.out)
      have HZL : Hid ((meetL l r).length = k) := Lib.hid (by rw [meetL_length (by rw [HL1.out, HL2.out]), HL1.out])
      have HZE : Hid (ofL ((l.zip r).map en) = meetL l r) := Lib.hid (by rw [zip_en]; rfl)
      go_wp2_with fail
      refine (number2_any Ao k co (l.zip r) wr HP.out (by omega) HOK.out).mono ?_; rintro e w' ⟨A', c', rfl, hown, hbel⟩
      rw [HZE.out, HZL.out] at hown
      rw [HZE.out, HZL.out]
      have HO2 := Lib.hid hown
      have HB2 := Lib.hid (HB.out.trans (hbel.mono HB.out.size))
      have hsz := HB.out.size
      clear hown hbel
      go_wp2
      go_ret
      refine ⟨A', c', ?_, ?_, HB2.out⟩
      · rw [HZL.out]; rfl
      · rw [HZL.out]; exact HO2.out.mono hsz

set_option maxHeartbeats 400000 in
theorem equal_any (A B : Option Addr) (n m c d : Nat) (l r : List Int) (w : World) (h1 : RdI w A n l) (h2 : RdI w B m r) :
    Calls Tryd.prog 99 #[.slice A n c, .slice B m d] w fun e w' => e = .returned (.bool (l == r)) ∧ ∃ k, w' = w.drewN k := by
  have hn := h1.bd
  have hm := h2.bd
  have hl1 := h1.len
  have hl2 := h2.len
  by_cases hnm : n = m
  · subst hnm
    have HL1 := Lib.hid hl1
    have HL2 := Lib.hid hl2
    clear hl1 hl2
    go_enter Tryd.func99, Tryd.ntmps99
    go_wp2
    go_loopw [13] (fun i wr => ∃ k : Nat, k ≤ n ∧ i = .int .i64 k ∧ l.take k = r.take k ∧ ∃ j, wr = w.drewN j) (fun i _ => n - (intOf i).toNat)
    case atStart => exact ⟨0, by omega, rfl, rfl, 0, rfl⟩
    case round =>
      obtain ⟨k, hk, rfl, he, j, rfl⟩ := hrel
      have HE := Lib.hid he
      clear he
      by_cases hlt : k < n
      · obtain ⟨ad, v, rfl, _, hv, _, hcell⟩ := h1.at_ hlt
        obtain ⟨bd, u, rfl, _, hu, _, hcell2⟩ := h2.at_ hlt
        by_cases hne : v = u
        · subst hne
          go_wp2
          go_quiet (fail)
          go_wp2
          go_roundw
          case rel => exact ⟨k + 1, by omega, by go_num, take_snoc2 hv.out hu.out HE.out, _, rfl⟩
          case measure => simp [intOf]; omega
        · have g : (v == u) = false := by simpa using hne
          have g' : (v != u) = true := by simpa using hne
          clear hne
          go_wp2
          go_quiet (fail)
          go_wp2
          go_ret
          exact ⟨ret_bool (ne_of_get hv.out hu.out g), _, World.drewN_drewN _ _ _⟩
      · go_wp2
        go_ret
        exact ⟨ret_bool (eq_of_takes HL1.out HL2.out hlt HE.out), _, rfl⟩
  · have HN := Lib.hid (ne_of_len (l := l) (r := r) (by omega))
    have g : ((n : Int) == m) = false := by simp; omega
    have g' : ((n : Int) != m) = true := by simp; omega
    clear hl1 hl2
    go_enter Tryd.func99, Tryd.ntmps99
    go_wp2
    go_ret
    exact ⟨ret_bool HN.out, 0, rfl⟩

/-- The answer of a function that gives a bool and an error. -/
def BoolErr (x : Bool × Int) (w : World) (e : Ending) (w' : World) : Prop := e = .returned (.tuple #[.bool x.1, .int .i64 x.2]) ∧ Below w.heap.size w w'

set_option maxHeartbeats 400000 in
theorem finer_any (A B : Option Addr) (n m c d : Nat) (l r : List Int) (w : World) (h1 : RdI w A n l) (h2 : RdI w B m r) :
    Calls Tryd.prog 49 #[.slice A n c, .slice B m d] w (BoolErr (finE l r) w) := by
  have c1 := both_any A B n m c d l r w h1 h2
  by_cases h0 : chk2 l r = 0
  · obtain ⟨k1, k2, k3⟩ := chk2_ok h0
    have HV : Hid (finE l r = (finB l r, 0)) := by show finE l r = _; unfold finE; rw [if_neg (by omega)]
    have HF := Lib.hid (finer_prog k3 k1 k2)
    have hln := h1.len
    have hrm := h2.len
    obtain rfl : n = m := by omega
    have HML : Hid ((meetL l r).length = n) := Lib.hid (by rw [meetL_length k3, hln])
    rw [h0] at c1
    have HC := Lib.hid c1
    have HM := Lib.hid (meet_any A B n c d l r w h1 h2 k1 k2)
    have HA := Lib.hid h1
    clear h0 c1 k1 k2 k3 hln hrm h1 h2
    go_enter Tryd.func49, Tryd.ntmps49
    go_wp2_with fail
    refine HC.out.mono ?_; rintro e w' ⟨rfl, rfl⟩
    go_wp2_with fail
    refine HM.out.mono ?_; rintro e w2 ⟨A2, c2, rfl, ho, hb⟩
    rw [HML.out] at ho
    rw [HML.out]
    have HB := Lib.hid hb
    have HO := Lib.hid ho.rd
    clear ho hb
    go_wp2_with fail
    refine (equal_any A2 A n n c2 c (meetL l r) l w2 HO.out (HA.out.below HB.out)).mono ?_; rintro e w' ⟨rfl, j, rfl⟩
    rw [HF.out]
    go_wp2
    go_ret2
    refine ⟨?_, below_drewN HB.out _⟩
    rw [HV.out]
    rfl
  · have HV : Hid (finE l r = (false, chk2 l r)) := by show finE l r = _; unfold finE; rw [if_pos h0]
    generalize chk2 l r = z at c1 h0 HV
    have HC := Lib.hid c1
    have g1 : (z == 0) = false := by simpa using h0
    have g2 : (z != 0) = true := by simpa using h0
    clear c1 h0
    go_enter Tryd.func49, Tryd.ntmps49
    go_wp2_with fail
    refine HC.out.mono ?_; rintro e w' ⟨rfl, rfl⟩
    go_wp2
    go_ret2
    refine ⟨?_, Below.refl _ _⟩
    rw [HV.out]
    rfl

set_option maxHeartbeats 400000 in
theorem meetP_any (A B : Option Addr) (n m c d : Nat) (l r : List Int) (w : World) (h1 : RdI w A n l) (h2 : RdI w B m r) :
    Calls Tryd.prog 51 #[.slice A n c, .slice B m d] w (IntsErr (meetE l r) w) := by
  have c1 := both_any A B n m c d l r w h1 h2
  by_cases h0 : chk2 l r = 0
  · obtain ⟨k1, k2, k3⟩ := chk2_ok h0
    have HV : Hid (meetE l r = (meetL l r, 0)) := by show meetE l r = _; unfold meetE; rw [if_neg (by omega)]
    have hln := h1.len
    have hrm := h2.len
    obtain rfl : n = m := by omega
    rw [h0] at c1
    have HC := Lib.hid c1
    have HM := Lib.hid (meet_any A B n c d l r w h1 h2 k1 k2)
    clear h0 c1 k1 k2 k3 hln hrm h1 h2
    go_enter Tryd.func51, Tryd.ntmps51
    go_wp2_with fail
    refine HC.out.mono ?_; rintro e w' ⟨rfl, rfl⟩
    go_wp2_with fail
    refine HM.out.mono ?_; rintro e w2 ⟨A2, c2, rfl, ho, hb⟩
    have HB := Lib.hid hb
    have HO := Lib.hid ho
    clear ho hb
    go_wp2
    go_ret2
    rw [HV.out]
    exact ⟨A2, c2, rfl, HO.out, HB.out⟩
  · have HV : Hid (meetE l r = ([], chk2 l r)) := by show meetE l r = _; unfold meetE; rw [if_pos h0]
    generalize chk2 l r = z at c1 h0 HV
    have HC := Lib.hid c1
    have g1 : (z == 0) = false := by simpa using h0
    have g2 : (z != 0) = true := by simpa using h0
    clear c1 h0
    go_enter Tryd.func51, Tryd.ntmps51
    go_wp2_with fail
    refine HC.out.mono ?_; rintro e w' ⟨rfl, rfl⟩
    go_wp2
    go_ret2
    rw [HV.out]; exact IntsErr.none_ _ _
end Go.Proofs.YtooepkpgffpcjaaDoor

namespace Go.Proofs.YtooepkpgffpcjaaDoor
open Go.RowKit

/-- 'append(s, x)' of a number, that was laid in a new block first, in a region that draws its order. -/
theorem step_appI1 (w : World) {ops : Array Oper} {o : Oper} {a : Act} {K : Act → World → Prop} {Q : Exit → Act → World → Prop} {E : Prop} (hgd : o.guard = none) (s x : Operand)
    (ho : o.op = .call { callee := .builtin .append, args := #[s, x], argTypes := #[22, 22] })
    {base n c : Nat} {A : Option Addr} {l : List Int} {v : Int} (t : TypeId) (hs : a.eval s = .slice A n c) (hx : a.eval x = .slice (some ⟨w.heap.size, 0, none⟩) 1 1) (hown : OwnI w base 3 A n c l) (hv : I64 v) (hnm : n + 1 ≤ 1000000) (hbase : base ≤ w.heap.size)
    (h : ∀ A' c' w', OwnI w' base 3 A' (n + 1) c' (l ++ [v]) → w.grownBy w' (A.map (·.block)) → Below base w w' → K (a.put o.dst (.slice A' (n + 1) c')) w') :
    if Region.wanted o (yielded ops a.tmps) = true then Oper.wp Tryd.prog o a (w.alloc (.cells #[.int .i64 v] t)) K Q else E := by
  obtain ⟨i0, hi0, hz0, hz1, hz2⟩ := info_parts intInfo
  refine step_app _ hgd s x 22 ho base 3 i0 _ 8 Tryd.underlying22 hi0 hz0 hz1 hz2 rfl (by decide) A n c (ints l) hs (hown.alloc _).1 _ 1 1 (ints [v]) hx (RdI.one w t v hv).1 (ints_oneCell' _) (by omega) (by simp; omega) ?_
  intro A' c' w' h1 h2 h3
  have hg : w.grownBy w' (A.map (·.block)) := grown_trans (World.grownBy_alloc w _ _) h2
  refine h A' c' w' ⟨by rw [ints_append]; exact h1, ?_⟩ hg (below_app hown.1 hg hbase)
  intro u hu
  rcases List.mem_append.1 hu with hu | hu
  · exact hown.2 u hu
  · simp at hu; subst hu; exact hv

theorem wrap_smallI {v : Int} (h0 : -1000000000000 ≤ v) (h1 : v ≤ 1000000000000) : IntKind.i64.wrap v = v := by
  simp only [IntKind.wrap, IntKind.bits, IntKind.signed, Bool.true_and]
  by_cases h : 2 ^ (64 - 1) ≤ v % 2 ^ 64
  · rw [if_pos (by simpa using h)]; omega
  · rw [if_neg (by simpa using h)]; omega
theorem pairL_take {m : Int} {a b : List Int} {k : Nat} {u v : Int} (hu : a[k]? = some u) (hv : b[k]? = some v) : (pairL m a b).take (k + 1) = (pairL m a b).take k ++ [u * m + v] := by
  refine take_of_get ?_
  unfold pairL
  rw [List.getElem?_zipWith, hu, hv]

set_option maxHeartbeats 1000000 in
set_option maxRecDepth 100000 in
theorem refMeet_any (A B : Option Addr) (n m c d : Nat) (l r : List Int) (w : World) (h1 : RdI w A n l) (h2 : RdI w B m r) :
    Calls Tryd.prog 52 #[.slice A n c, .slice B m d] w (IntsErr (meetE l r) w) := by
  have c1 := refBoth_any A B n m c d l r w h1 h2
  by_cases h0 : chk2 l r = 0
  · obtain ⟨k1, k2, k3⟩ := chk2_ok h0
    have HV : Hid (meetE l r = (meetL l r, 0)) := by show meetE l r = _; unfold meetE; rw [if_neg (by omega)]
    have hln := h1.len
    have hrm := h2.len
    obtain rfl : n = m := by omega
    have hn9 : n ≤ 9 := by have := (chk_ok k1).2.1; omega
    rw [h0] at c1
    have HC := Lib.hid c1
    have HME := Lib.hid (meet_ref k3 k2)
    have HPL : Hid ((pairL 9 l r).length = n) := Lib.hid (by rw [pairL_length k3, hln])
    have HB1 := Lib.hid (chk_ok k1).2.2.1
    have HB2 := Lib.hid (chk_ok k2).2.2.1
    have HML : Hid ((meetL l r).length = n) := Lib.hid (by rw [meetL_length k3, hln])
    clear h0 c1 k1 k2 k3 hln hrm
    go_enter Tryd.func52, Tryd.ntmps52
    go_wp2_with fail
    refine HC.out.mono ?_; rintro e w' ⟨rfl, rfl⟩
    go_wp2_with fail
    go_loopw [7, 8] (fun o i wr => ∃ k : Nat, k ≤ n ∧ i = .int .i64 k ∧ ∃ Ao co, o = .slice Ao k co ∧ OwnI wr w.heap.size 3 Ao k co ((pairL 9 l r).take k) ∧ Below w.heap.size w wr) (fun _ i _ => n - (intOf i).toNat)
    case atStart => exact ⟨0, by omega, rfl, none, 0, rfl, OwnI.nil_ _ _ _, Below.refl _ _⟩
    case round =>
      obtain ⟨k, hk, rfl, Ao, co, rfl, hown, hbel⟩ := hrel
      have HO := Lib.hid hown
      have HB := Lib.hid hbel
      clear hown hbel
      by_cases hlt : k < n
      · obtain ⟨ad, u, rfl, had, hu, _, hcell0⟩ := h1.at_ hlt
        obtain ⟨bd, v, rfl, hbd, hv, _, hcell1⟩ := h2.at_ hlt
        rw [← HB.out.cell (by rw [block_of_add]; exact had)] at hcell0
        rw [← HB.out.cell (by rw [block_of_add]; exact hbd)] at hcell1
        have hu9 := HB1.out u (List.mem_of_getElem? hu.out)
        have hv9 := HB2.out v (List.mem_of_getElem? hv.out)
        have HT := Lib.hid (pairL_take (m := 9) hu.out hv.out)
        have hsz := HB.out.size
        have hA0 : (ad.add k).block < w.heap.size := by rw [block_of_add]; exact had
        have hB0 : (bd.add k).block < w.heap.size := by rw [block_of_add]; exact hbd
        have hA1 := Nat.lt_of_lt_of_le hA0 hsz
        have hB1 := Nat.lt_of_lt_of_le hB0 hsz
        have s1 : IntKind.i64.wrap (u * 9) = u * 9 := wrap_smallI (by omega) (by omega)
        have s2 : IntKind.i64.wrap (u * 9 + v) = u * 9 + v := wrap_smallI (by omega) (by omega)
        go_upto_region 8 with fail
        go_region_held3 (fun w' => w'.cell? (ad.add k) = some (.int .i64 u) ∧ w'.cell? (bd.add k) = some (.int .i64 v)) (first | exact ⟨hcell0, hcell1⟩ | exact ⟨(World.cell?_alloc_lt wr _ _ hA1).trans hcell0, (World.cell?_alloc_lt wr _ _ hB1).trans hcell1⟩ | exact ⟨(hbel.cell hA0).trans hcell0, (hbel.cell hB0).trans hcell1⟩) ((refine step_appI1 wr.drew (by rfl) (.tmp 21) (.tmp 32) (by rfl) (v := u * 9 + v) _ (by rfl) (by rfl) HO.out.drew (I64.small (by omega)) (by omega) hsz ?_; intro A' c' w' hown hgrow hbel))
        go_wp2
        go_roundw
        case rel => exact ⟨k + 1, by omega, by go_num, A', c', rfl, by rw [HT.out]; exact hown, HB.out.drew.trans hbel⟩
        case measure => simp [intOf]; omega
      · obtain rfl : k = n := by omega
        have HZ : Hid ((pairL 9 l r).take k = pairL 9 l r) := by rw [List.take_of_length_le (by rw [HPL.out]; omega)]; rfl
        rw [HZ.out] at HO
        go_wp2_with fail
        refine (refof_any Ao k co (pairL 9 l r) wr HO.out.rd (by omega)).mono ?_; rintro e w' ⟨A', c', rfl, hown, hbel⟩
        rw [HME.out, HML.out] at hown
        rw [HME.out, HML.out]
        have HO2 := Lib.hid hown
        have HB2 := Lib.hid (HB.out.trans (hbel.mono HB.out.size))
        have hsz := HB.out.size
        clear hown hbel
        go_wp2
        go_ret2
        rw [HV.out]
        refine ⟨A', c', ?_, ?_, HB2.out⟩
        · show _ = _; rw [HML.out]; rfl
        · show OwnI _ _ _ _ (meetL l r).length _ _; rw [HML.out]; exact HO2.out.mono hsz
  · have HV : Hid (meetE l r = ([], chk2 l r)) := by show meetE l r = _; unfold meetE; rw [if_pos h0]
    generalize chk2 l r = z at c1 h0 HV
    have HC := Lib.hid c1
    have g1 : (z == 0) = false := by simpa using h0
    have g2 : (z != 0) = true := by simpa using h0
    clear c1 h0
    go_enter Tryd.func52, Tryd.ntmps52
    go_wp2_with fail
    refine HC.out.mono ?_; rintro e w' ⟨rfl, rfl⟩
    go_wp2
    go_ret2
    rw [HV.out]; exact IntsErr.none_ _ _

/-- nothing against being finer up to (i, k) -/
def FinTo (a b : List Int) (i k : Nat) : Prop := ∀ x y, x < a.length → y < x → (x < i ∨ x = i ∧ y < k) → a.getD x 0 = a.getD y 0 → b.getD x 0 = b.getD y 0
theorem finTo_all {a b : List Int} (h : FinTo a b a.length 0) : finB a b = true := by
  rw [finB_iff]
  intro i j hi hj e
  rcases Nat.lt_trichotomy i j with hlt | rfl | hgt
  · exact (h j i hj hlt (.inl hj) e.symm).symm
  · rfl
  · exact h i j hi hgt (.inl hi) e
theorem finTo_not {a b : List Int} {i k : Nat} (hi : i < a.length) (hk : k < i) (e : a.getD i 0 = a.getD k 0) (hne : b.getD i 0 ≠ b.getD k 0) : finB a b = false := by
  rw [Bool.eq_false_iff]
  intro h
  exact hne (finB_iff.1 h i k hi (by omega) e)
theorem FinTo.step {a b : List Int} {i k : Nat} (h : FinTo a b i k) (hs : a.getD i 0 = a.getD k 0 → b.getD i 0 = b.getD k 0) : FinTo a b i (k + 1) := by
  intro x y hx hy hp e
  rcases hp with hp | ⟨rfl, hp⟩
  · exact h x y hx hy (.inl hp) e
  · rcases Nat.lt_or_ge y k with hlt | hge
    · exact h x y hx hy (.inr ⟨rfl, hlt⟩) e
    · obtain rfl : y = k := by omega
      exact hs e
theorem FinTo.row {a b : List Int} {i : Nat} (h : FinTo a b i i) : FinTo a b (i + 1) 0 := by
  intro x y hx hy hp e
  refine h x y hx hy ?_ e
  rcases hp with hp | ⟨rfl, hp⟩
  · rcases Nat.lt_or_ge x i with h1 | h1
    · exact .inl h1
    · exact .inr ⟨by omega, by omega⟩
  · omega

set_option maxHeartbeats 1000000 in
set_option maxRecDepth 100000 in
theorem refFiner_any (A B : Option Addr) (n m c d : Nat) (l r : List Int) (w : World) (h1 : RdI w A n l) (h2 : RdI w B m r) :
    Calls Tryd.prog 50 #[.slice A n c, .slice B m d] w (BoolErr (finE l r) w) := by
  have c1 := refBoth_any A B n m c d l r w h1 h2
  by_cases h0 : chk2 l r = 0
  · obtain ⟨k1, k2, k3⟩ := chk2_ok h0
    have HV : Hid (finE l r = (finB l r, 0)) := by show finE l r = _; unfold finE; rw [if_neg (by omega)]
    have hln := h1.len
    have hrm := h2.len
    obtain rfl : n = m := by omega
    have hn9 : n ≤ 9 := by have := (chk_ok k1).2.1; omega
    rw [h0] at c1
    have HC := Lib.hid c1
    have HL1 := Lib.hid hln
    have HL2 := Lib.hid hrm
    clear h0 c1 k1 k2 k3 hln hrm
    go_enter Tryd.func50, Tryd.ntmps50
    go_wp2_with fail
    refine HC.out.mono ?_; rintro e w' ⟨rfl, rfl⟩
    go_wp2_with fail
    go_loopw [7] (fun i wr => ∃ k : Nat, k ≤ n ∧ i = .int .i64 k ∧ FinTo l r k 0 ∧ ∃ d, wr = w.drewN d) (fun i _ => n - (intOf i).toNat)
    case atStart => exact ⟨0, by omega, rfl, fun x y _ _ hp => by omega, 0, rfl⟩
    case round =>
      obtain ⟨i, hi, rfl, hf, d1, rfl⟩ := hrel
      have HF := Lib.hid hf
      clear hf
      by_cases hlt : i < n
      · obtain ⟨ad, u, rfl, had, hu, _, hcell0⟩ := h1.at_ hlt
        obtain ⟨bd, v, rfl, hbd, hv, _, hcell1⟩ := h2.at_ hlt
        go_wp2_with fail
        go_loopw [8] (fun j wr => ∃ k : Nat, k ≤ i ∧ j = .int .i64 k ∧ FinTo l r i k ∧ ∃ d, wr = w.drewN d) (fun j _ => i - (intOf j).toNat)
        case atStart => exact ⟨0, by omega, rfl, HF.out, _, rfl⟩
        case round =>
          obtain ⟨k, hk, rfl, hf, d2, rfl⟩ := hrel
          have HF2 := Lib.hid hf
          clear hf
          by_cases hki : k < i
          · obtain ⟨ad', u', e1, _, hu', _, hcell2⟩ := h1.at_ (k := k) (by omega)
            obtain rfl := Option.some.inj e1
            obtain ⟨bd', v', e2, _, hv', _, hcell3⟩ := h2.at_ (k := k) (by omega)
            obtain rfl := Option.some.inj e2
            have HG := Lib.hid (And.intro (And.intro (getD_of_get (d := 0) hu.out) (getD_of_get (d := 0) hu'.out)) (And.intro (getD_of_get (d := 0) hv.out) (getD_of_get (d := 0) hv'.out)))
            clear e1 e2
            by_cases ha : u = u'
            · by_cases hb : v = v'
              · have HE := Lib.hid hb
                subst ha hb
                have g1 : (u == u) = true := by simp
                have g2 : (v != v) = false := by simp
                go_wp2_with fail
                go_quiet (fail)
                go_wp2
                go_roundw
                case rel => exact ⟨k + 1, by omega, by go_num, HF2.out.step (fun _ => by rw [HG.out.2.1, HG.out.2.2]), _, rfl⟩
                case measure => simp [intOf]; omega
              · have HN := Lib.hid (finTo_not (a := l) (b := r) (i := i) (k := k) (by have := HL1.out; omega) hki (by rw [HG.out.1.1, HG.out.1.2, ha]) (by rw [HG.out.2.1, HG.out.2.2]; exact hb))
                subst ha
                have g1 : (u == u) = true := by simp
                have g2 : (v != v') = true := by simpa using hb
                have g3 : (v == v') = false := by simpa using hb
                clear hb
                go_wp2_with fail
                go_quiet (fail)
                go_wp2
                go_ret2
                refine ⟨?_, below_drewN (below_drewN (Below.refl _ _) _) _⟩
                rw [HV.out, HN.out]
                rfl
            · have HN := Lib.hid ha
              have g1 : (u == u') = false := by simpa using ha
              clear ha
              go_wp2_with fail
              go_quiet (fail)
              go_wp2
              go_roundw
              case rel => exact ⟨k + 1, by omega, by go_num, HF2.out.step (fun e => by rw [HG.out.1.1, HG.out.1.2] at e; exact absurd e HN.out), _, rfl⟩
              case measure => simp [intOf]; omega
          · obtain rfl : k = i := by omega
            go_wp2
            go_roundw
            case rel => exact ⟨k + 1, by omega, by go_num, HF2.out.row, _, rfl⟩
            case measure => simp [intOf]; omega
      · obtain rfl : i = n := by omega
        have HN : Hid (finB l r = true) := Lib.hid (finTo_all (by rw [HL1.out]; exact HF.out))
        go_wp2
        go_ret2
        refine ⟨?_, below_drewN (Below.refl _ _) _⟩
        rw [HV.out, HN.out]
        rfl
  · have HV : Hid (finE l r = (false, chk2 l r)) := by show finE l r = _; unfold finE; rw [if_pos h0]
    generalize chk2 l r = z at c1 h0 HV
    have HC := Lib.hid c1
    have g1 : (z == 0) = false := by simpa using h0
    have g2 : (z != 0) = true := by simpa using h0
    clear c1 h0
    go_enter Tryd.func50, Tryd.ntmps50
    go_wp2_with fail
    refine HC.out.mono ?_; rintro e w' ⟨rfl, rfl⟩
    go_wp2
    go_ret2
    refine ⟨?_, Below.refl _ _⟩
    rw [HV.out]
    rfl
end Go.Proofs.YtooepkpgffpcjaaDoor

namespace Go.Proofs.YtooepkpgffpcjaaDoor
open Go.RowKit

/-- the labels, behind m rounds of relabelling -/
def relS (f t : Int) (o : List Int) (m : Nat) : List Int := relb f t (o.take m) ++ o.drop m
theorem relS_zero (f t : Int) (o : List Int) : relS f t o 0 = o := by simp [relS, relb]
theorem relS_all {f t : Int} {o : List Int} {n : Nat} (h : o.length = n) : relS f t o n = relb f t o := by
  unfold relS; rw [List.take_of_length_le (by omega), List.drop_of_length_le (by omega), List.append_nil]
theorem relS_get {f t : Int} {o : List Int} {m : Nat} {v : Int} (h : o[m]? = some v) : (relS f t o m)[m]? = some v := by
  have hm := (List.getElem?_eq_some_iff.1 h).1
  have hl : (relb f t (o.take m)).length = m := by rw [relb_length, List.length_take]; omega
  unfold relS
  rw [List.getElem?_append_right (by omega), hl, Nat.sub_self, drop_of_get h]; rfl
theorem relS_step {f t : Int} {o : List Int} {m : Nat} {v : Int} (h : o[m]? = some v) : relS f t o (m + 1) = (relS f t o m).set m (if v = f then t else v) := by
  have hm := (List.getElem?_eq_some_iff.1 h).1
  have hl : (relb f t (o.take m)).length = m := by rw [relb_length, List.length_take]; omega
  unfold relS
  rw [drop_of_get h, List.set_append_right _ _ (by omega), hl, Nat.sub_self, List.set_cons_zero, take_of_get h]
  simp [relb]
theorem set_same {l : List Int} {m : Nat} {v : Int} (h : l[m]? = some v) : l.set m v = l := by
  apply List.ext_getElem?
  intro i
  by_cases e : m = i
  · subst e; rw [List.getElem?_set_self (List.getElem?_eq_some_iff.1 h).1, h]
  · rw [List.getElem?_set_ne e]
theorem relS_step_eq {f t : Int} {o : List Int} {m : Nat} (h : o[m]? = some f) : relS f t o (m + 1) = (relS f t o m).set m t := by rw [relS_step h, if_pos rfl]
theorem relS_step_ne {f t : Int} {o : List Int} {m : Nat} {v : Int} (h : o[m]? = some v) (hv : v ≠ f) : relS f t o (m + 1) = relS f t o m := by rw [relS_step h, if_neg hv, set_same (relS_get h)]

def Small9 (o : List Int) : Prop := ∀ v ∈ o, 0 ≤ v ∧ v < 9
theorem Small9.relb {o : List Int} (h : Small9 o) (f : Int) {t : Int} (ht : 0 ≤ t ∧ t < 9) : Small9 (relb f t o) := relb_small h ht
theorem joinStep_ok {r o : List Int} {i k n : Nat} (h : Small9 o ∧ o.length = n) (hk : k < n) : Small9 (joinStep r i o k) ∧ (joinStep r i o k).length = n := by
  unfold joinStep
  split
  · exact ⟨h.1.relb _ (h.1 _ (getD_mem (by omega))), by rw [relb_length]; exact h.2⟩
  · exact h
theorem joinRow_ok {r o : List Int} {i n : Nat} (h : Small9 o ∧ o.length = n) (k : Nat) (hk : k ≤ n) : Small9 ((List.range k).foldl (joinStep r i) o) ∧ ((List.range k).foldl (joinStep r i) o).length = n := by
  induction k with
  | zero => exact h
  | succ k ih => rw [foldl_range_succ]; exact joinStep_ok (ih (by omega)) (by omega)
theorem joinTo_ok {l r : List Int} {n : Nat} (h : Small9 l ∧ l.length = n) (k : Nat) (hk : k ≤ n) : Small9 (joinTo l r k) ∧ (joinTo l r k).length = n := by
  induction k with
  | zero => exact h
  | succ k ih =>
    have e : joinTo l r (k + 1) = joinRow r (joinTo l r k) k := foldl_range_succ _ _ _
    rw [e]; exact joinRow_ok (ih (by omega)) k (by omega)
theorem joinTo_succ (l r : List Int) (k : Nat) : joinTo l r (k + 1) = joinRow r (joinTo l r k) k := foldl_range_succ _ _ _

set_option maxHeartbeats 1000000 in
set_option maxRecDepth 100000 in
theorem joinP_any (A B : Option Addr) (n m c d : Nat) (l r : List Int) (w : World) (h1 : RdI w A n l) (h2 : RdI w B m r) :
    Calls Tryd.prog 53 #[.slice A n c, .slice B m d] w (IntsErr (joinE l r) w) := by
  have c1 := both_any A B n m c d l r w h1 h2
  by_cases h0 : chk2 l r = 0
  · obtain ⟨k1, k2, k3⟩ := chk2_ok h0
    have HV : Hid (joinE l r = (joinL l r, 0)) := by show joinE l r = _; unfold joinE; rw [if_neg (by omega)]
    have hln := h1.len
    have hrm := h2.len
    obtain rfl : n = m := by omega
    have hn1 := (chk_ok k1).1
    have hn9 : n ≤ 9 := by have := (chk_ok k1).2.1; omega
    rw [h0] at c1
    have HC := Lib.hid c1
    have HS : Hid (Small9 l ∧ l.length = n) := ⟨(chk_ok k1).2.2.1, hln⟩
    have HL2 := Lib.hid hrm
    have hA : A.isNone = false := by
      obtain ⟨ad, e, _⟩ := h1.1.2.2 (by omega)
      rw [e]; rfl
    have HF : Hid (ofL (joinTo l r n) = joinL l r) := Lib.hid (by rw [← hln]; exact joinL_of (join_prog l r))
    have HJL : Hid ((joinL l r).length = n) := Lib.hid (by rw [joinL_length, hln])
    clear h0 c1 k1 k2 k3 hrm hn1
    go_enter Tryd.func53, Tryd.ntmps53
    go_wp2_with fail
    refine HC.out.mono ?_; rintro e w' ⟨rfl, rfl⟩
    go_wp2_with fail
    refine (clone_any A n c l w h1 (by omega) hA).mono ?_; rintro e w1 ⟨G, co, rfl, ho, hb⟩
    rw [hln] at ho
    rw [hln]
    have HO1 := Lib.hid ho
    have HB1 := Lib.hid hb
    clear ho hb hln h1
    go_wp2_with fail
    go_loopw [24] (fun i wr => ∃ k : Nat, k ≤ n ∧ i = .int .i64 k ∧ OwnI wr w.heap.size 3 G n co (joinTo l r k) ∧ Below w.heap.size w wr) (fun i _ => n - (intOf i).toNat)
    case atStart => exact ⟨0, by omega, rfl, HO1.out, HB1.out⟩
    case round =>
      obtain ⟨i, hi, rfl, hown, hbel⟩ := hrel
      have HO := Lib.hid hown
      have HB := Lib.hid hbel
      clear hown hbel HO1 HB1
      by_cases hin : i < n
      · obtain ⟨g, rfl, hgb, _⟩ := HO.out.form (by omega)
        have HSO := Lib.hid (joinTo_ok (r := r) HS.out i (by omega))
        have HSU := Lib.hid (joinTo_succ l r i)
        generalize joinTo l r i = O at HO HSO HSU
        go_wp2_with fail
        go_loopw [28] (fun j wr => ∃ k : Nat, k ≤ i ∧ j = .int .i64 k ∧ OwnI wr w.heap.size 3 (some ⟨g, 0, none⟩) n co ((List.range k).foldl (joinStep r i) O) ∧ Below w.heap.size w wr) (fun j _ => i - (intOf j).toNat)
        case atStart => exact ⟨0, by omega, rfl, HO.out, HB.out⟩
        case round =>
          obtain ⟨k, hk, rfl, hown, hbel⟩ := hrel
          have HO2 := Lib.hid hown
          have HB2 := Lib.hid hbel
          clear hown hbel HO HB
          by_cases hki : k < i
          · have HSP := Lib.hid (joinRow_ok (r := r) (i := i) HSO.out k (by omega))
            have HSS : Hid ((List.range (k + 1)).foldl (joinStep r i) O = joinStep r i ((List.range k).foldl (joinStep r i) O) k) := Lib.hid (foldl_range_succ _ _ _)
            generalize (List.range k).foldl (joinStep r i) O = P at HO2 HSP HSS
            obtain ⟨bd, v, rfl, hbd, hv, _, hcellv⟩ := h2.at_ hin
            obtain ⟨bd', v', e2, _, hv', _, hcellv'⟩ := h2.at_ (k := k) (by omega)
            obtain rfl := Option.some.inj e2
            rw [← HB2.out.cell (by rw [block_of_add]; exact hbd)] at hcellv hcellv'
            clear e2
            by_cases he : v = v'
            · obtain ⟨f, hf⟩ : ∃ f, P[i]? = some f := ⟨_, get_getD (by rw [HSP.out.2]; exact hin)⟩
              obtain ⟨t, ht⟩ : ∃ t, P[k]? = some t := ⟨_, get_getD (by rw [HSP.out.2]; omega)⟩
              have HPE : Hid (joinStep r i P k = relb f t P) := Lib.hid (by unfold joinStep; rw [getD_of_get hv.out, getD_of_get hv'.out, if_pos he, getD_of_get hf, getD_of_get ht])
              have hcf := HO2.out.cellAt hf
              have hct := HO2.out.cellAt ht
              have HT9 := Lib.hid (HSP.out.1 t (List.mem_of_getElem? ht))
              have HT64 := Lib.hid (I64.small (v := t) (by have := HT9.out; omega))
              subst he
              have g1 : (v != v) = false := by simp
              clear hf ht
              go_wp2_with fail
              go_quiet (fail)
              go_wp2_with fail
              go_quiet (fail)
              go_wp2_with fail
              go_loopw [50] (fun j wr => ∃ q : Nat, q ≤ n ∧ j = .int .i64 q ∧ OwnI wr w.heap.size 3 (some ⟨g, 0, none⟩) n co (relS f t P q) ∧ Below w.heap.size w wr) (fun j _ => n - (intOf j).toNat)
              case atStart => exact ⟨0, by omega, rfl, by rw [relS_zero]; exact HO2.out.drewN _, below_drewN HB2.out _⟩
              case round =>
                obtain ⟨q, hq, rfl, hown, hbel⟩ := hrel
                have HO3 := Lib.hid hown
                have HB3 := Lib.hid hbel
                clear hown hbel HO2 HB2
                by_cases hqn : q < n
                · obtain ⟨z, hz⟩ : ∃ z, P[q]? = some z := ⟨_, get_getD (by rw [HSP.out.2]; exact hqn)⟩
                  have hcz := HO3.out.cellAt (relS_get (f := f) (t := t) hz)
                  by_cases hzf : z = f
                  · subst hzf
                    have HSE := Lib.hid (relS_step_eq (t := t) hz)
                    have hfz := HO3.out.frozenAt q
                    clear hz
                    go_wp2
                    go_roundw
                    case rel => exact ⟨q + 1, by omega, by go_num, by rw [HSE.out]; exact HO3.out.stored q HT64.out, HB3.out.setCell (p := ⟨g, q, none⟩) hgb _⟩
                    case measure => simp [intOf]; omega
                  · have HSE := Lib.hid (relS_step_ne (t := t) hz hzf)
                    have g2 : (z == f) = false := by simpa using hzf
                    clear hz hzf
                    go_wp2
                    go_roundw
                    case rel => exact ⟨q + 1, by omega, by go_num, by rw [HSE.out]; exact HO3.out, HB3.out⟩
                    case measure => simp [intOf]; omega
                · obtain rfl : q = n := by omega
                  have HRA : Hid (relS f t P q = relb f t P) := Lib.hid (relS_all HSP.out.2)
                  go_wp2
                  go_roundw
                  case rel => exact ⟨k + 1, by omega, by go_num, by rw [HSS.out, HPE.out, ← HRA.out]; exact HO3.out, HB3.out⟩
                  case measure => simp [intOf]; omega
            · have HPE : Hid (joinStep r i P k = P) := Lib.hid (by unfold joinStep; rw [getD_of_get hv.out, getD_of_get hv'.out, if_neg he])
              have g1 : (v != v') = true := by simpa using he
              have g2 : (v == v') = false := by simpa using he
              clear he
              go_wp2_with fail
              go_quiet (fail)
              go_wp2
              go_roundw
              case rel => exact ⟨k + 1, by omega, by go_num, by rw [HSS.out, HPE.out]; exact HO2.out.drewN _, below_drewN HB2.out _⟩
              case measure => simp [intOf]; omega
          · obtain rfl : k = i := by omega
            go_wp2
            go_roundw
            case rel => exact ⟨k + 1, by omega, by go_num, by rw [HSU.out]; exact HO2.out, HB2.out⟩
            case measure => simp [intOf]; omega
      · obtain rfl : i = n := by omega
        go_wp2_with fail
        refine (number_any G i co (joinTo l r i) wr HO.out.rd (by omega)).mono ?_; rintro e w2 ⟨A2, c2, rfl, ho2, hb2⟩
        rw [HF.out, HJL.out] at ho2
        rw [HF.out, HJL.out]
        have HO2 := Lib.hid (ho2.mono HB.out.size)
        have HB2 := Lib.hid (HB.out.trans (hb2.mono HB.out.size))
        clear ho2 hb2
        go_wp2
        go_ret2
        rw [HV.out]
        refine ⟨A2, c2, ?_, ?_, HB2.out⟩
        · show _ = _; rw [HJL.out]; rfl
        · show OwnI _ _ _ _ (joinL l r).length _ _; rw [HJL.out]; exact HO2.out
  · have HV : Hid (joinE l r = ([], chk2 l r)) := by show joinE l r = _; unfold joinE; rw [if_pos h0]
    generalize chk2 l r = z at c1 h0 HV
    have HC := Lib.hid c1
    have g1 : (z == 0) = false := by simpa using h0
    have g2 : (z != 0) = true := by simpa using h0
    clear c1 h0
    go_enter Tryd.func53, Tryd.ntmps53
    go_wp2_with fail
    refine HC.out.mono ?_; rintro e w' ⟨rfl, rfl⟩
    go_wp2
    go_ret2
    rw [HV.out]; exact IntsErr.none_ _ _
end Go.Proofs.YtooepkpgffpcjaaDoor
