/- Walk: numbering labels by a map, at labels that are pairs of numbers. -/
import Derived.Test.YtooepkpgffpcjaaDoorNum
import Derived.Test.YtooepkpgffpcjaaDoorLat
import Derived.DeepKeys4
import Derived.WideKeyPair
import Derived.Deep.DeepCutAuto
namespace Go.Proofs.YtooepkpgffpcjaaDoor
open Go.RowKit

abbrev Pr := Int × Int
def prCells (L : List Pr) : List Value := L.flatMap fun b => [.int .i64 b.1, .int .i64 b.2]
theorem prCells_length (L : List Pr) : (prCells L).length = L.length * 2 := by
  induction L with
  | nil => rfl
  | cons b L ih => simp only [prCells, List.flatMap_cons, List.length_append, List.length_cons, List.length_nil] at ih ⊢; omega
theorem prCells_get (L : List Pr) (j : Nat) (b : Pr) (h : L[j]? = some b) : (prCells L)[j * 2]? = some (.int .i64 b.1) ∧ (prCells L)[j * 2 + 1]? = some (.int .i64 b.2) := by
  induction L generalizing j with
  | nil => simp at h
  | cons x L ih =>
    cases j with
    | zero => simp at h; subst h; simp [prCells]
    | succ j =>
      have := ih j (by simpa using h)
      simp only [prCells, List.flatMap_cons] at this ⊢
      rw [show (j + 1) * 2 = j * 2 + 2 by omega]
      simpa using this
theorem getP {α : Type} {l : List α} {n k : Nat} (h : l.length = n) (hk : k < n) : ∃ v, l[k]? = some v := ⟨l[k]'(by omega), List.getElem?_eq_getElem _⟩
/-- a slice of pairs that reads as L -/
def RdP (w : World) (A : Option Addr) (n : Nat) (L : List Pr) : Prop :=
  L.length = n ∧ n ≤ 1000000 ∧ (0 < n → ∃ g, A = some ⟨g, 0, none⟩ ∧ g < w.heap.size ∧ ∀ j u, (prCells L)[j]? = some u → w.cell? ⟨g, j, none⟩ = some u)
theorem RdP.below {w w' : World} {A : Option Addr} {n : Nat} {L : List Pr} (h : RdP w A n L) (hb : Below w.heap.size w w') : RdP w' A n L :=
  ⟨h.1, h.2.1, fun hn => by
    obtain ⟨g, e, hg, hc⟩ := h.2.2 hn
    exact ⟨g, e, Nat.lt_of_lt_of_le hg hb.size, fun j u hu => (hb.cell (p := ⟨g, j, none⟩) hg).trans (hc j u hu)⟩⟩
/-- a pair as one number -/
def en (p : Pr) : Int := p.1 * 1000 + p.2
def Okp (p : Pr) : Prop := 0 ≤ p.1 ∧ p.1 < 1000 ∧ 0 ≤ p.2 ∧ p.2 < 1000
theorem en_inj {p q : Pr} (hp : Okp p) (hq : Okp q) (h : en p = en q) : p = q := by
  obtain ⟨a, b⟩ := p
  obtain ⟨c, d⟩ := q
  unfold Okp at hp hq
  unfold en at h
  simp only at hp hq h
  have h1 : a = c := by omega
  have h2 : b = d := by omega
  rw [h1, h2]

theorem pairArr : WideMaps.ArrKey Tryd.prog 105 3 2 := ⟨Tryd.underlying105, by kernel_rfl, by kernel_rfl, by kernel_rfl⟩
theorem pairLaid : laidOutB Tryd.prog = true := by kernel_rfl
theorem lawPair : Maps.Keyed Tryd.prog 105 := Maps.Keyed.of_law (deep_law_laid pairLaid (m := 2) (by omega) (of_decide_eq_true (by kernel_rfl)) (by kernel_rfl) (by kernel_rfl))
theorem sizePos : ∃ m, Tryd.prog.types.size = m + 1 := by
  have h : 0 < Tryd.prog.types.size := of_decide_eq_true (by kernel_rfl)
  exact ⟨Tryd.prog.types.size - 1, by omega⟩
def kl (p : Pr) : Lit := .string (keyBytes [.int .i64 p.1, .int .i64 p.2])
theorem Okp.i64 {p : Pr} (h : Okp p) : I64 p.1 ∧ I64 p.2 := by unfold Okp at h; exact ⟨I64.small (by omega), I64.small (by omega)⟩
theorem keyPair {p : Pr} (h : Okp p) : keyOf Tryd.prog 105 (.agg #[.int .i64 p.1, .int .i64 p.2]) = some (kl p) :=
  WideMaps.keyOf_pair pairArr Tryd.underlying3 sizePos (wfInt h.i64.1) (wfInt h.i64.2)
theorem kl_inj {p q : Pr} (hp : Okp p) (hq : Okp q) (h : kl p = kl q) : p = q := by
  have h1 := keyPair hp
  have h2 := keyPair hq
  rw [← h] at h2
  have e := lawPair.inj h1 h2
  obtain ⟨a, b⟩ := p
  obtain ⟨c, d⟩ := q
  simp at e
  rw [e.1, e.2]

/-- a map that holds where each label stands among those that were met -/
def Met2 (D : DataW Unit) (s : List Int) : Prop :=
  Maps.Tidy D ∧ Maps.size D = s.length ∧ ∀ p : Pr, Okp p → Maps.has D (kl p) = decide (en p ∈ s) ∧ (en p ∈ s → D.atKey (kl p) (.lit (.int .i64 0)) = .lit (.int .i64 (s.idxOf (en p))))
theorem Met2.nil_ : Met2 (.map []) [] := ⟨Maps.tidy_empty, rfl, fun x _ => ⟨rfl, fun h => by cases h⟩⟩
theorem Met2.put {D : DataW Unit} {s : List Int} (h : Met2 D s) {p : Pr} (hp : Okp p) (hx : en p ∉ s) : Met2 (D.put (kl p) (.lit (.int .i64 s.length))) (s ++ [en p]) := by
  obtain ⟨ht, hs, hh⟩ := h
  have hk : WideAt.IsKeyLit (kl p) := trivial
  have hx0 : Maps.has D (kl p) = false := by rw [(hh p hp).1]; simpa using hx
  refine ⟨ht.put hk _, ?_, fun y hy0 => ?_⟩
  · rw [Maps.size_put ht, hx0, hs]; simp
  · by_cases e : y = p
    · subst e
      refine ⟨?_, fun _ => ?_⟩
      · rw [Maps.has_put_same ht.isMap hk]; simp
      · rw [Maps.atKey_put_same ht.isMap hk, List.idxOf_append, if_neg hx]; simp
    · have hne : kl y ≠ kl p := fun h => e (kl_inj hy0 hp h)
      have hen : en y ≠ en p := fun h => e (en_inj hy0 hp h)
      refine ⟨?_, fun hy => ?_⟩
      · rw [Maps.has_put_other hne, (hh y hy0).1]; simp [hen]
      · have hy' : en y ∈ s := by simpa [hen] using hy
        rw [Maps.atKey_put_other hne, (hh y hy0).2 hy', List.idxOf_append, if_pos hy']
theorem Met2.at_ {D : DataW Unit} {s : List Int} (h : Met2 D s) {p : Pr} {c : Int} (hp : Okp p) (hx : en p ∈ s) (hc : D.atKey (kl p) (.lit (.int .i64 0)) = .lit (.int .i64 c)) : c = (s.idxOf (en p) : Int) := by
  rw [(h.2.2 p hp).2 hx] at hc
  injection hc with hc
  injection hc with _ hc
  exact hc.symm
def MapP (w : World) (b n : Nat) (D : DataW Unit) : Prop := w.ownsMap Tryd.prog 105 (plainElem Tryd.prog 3) b n D

set_option maxHeartbeats 1000000 in
set_option maxRecDepth 100000 in
theorem number2_any (A : Option Addr) (n c : Nat) (L : List Pr) (w : World) (h : RdP w A n L) (hn : n ≤ 1000) (hok : ∀ p ∈ L, Okp p) :
    Calls Tryd.prog 107 #[.slice A n c] w (Listed (ofL (L.map en)) w) := by
  have HL := Lib.hid h.1
  have HOK := Lib.hid hok
  clear hok
  have hmm := @run_makeMap Tryd.prog
  go_enter Tryd.func107, Tryd.ntmps107
  go_wp2_with fail
  go_loopw [4, 12] (fun o i wr => ∃ k : Nat, k ≤ n ∧ i = .int .i64 k ∧ ∃ Ao co D, o = .slice Ao k co ∧
      OwnI wr (w.heap.size + 1) 3 Ao k co (ofL ((L.take k).map en)) ∧ MapP wr w.heap.size k D ∧ Met2 D (seenOf ((L.take k).map en)) ∧ Below w.heap.size w wr ∧ w.heap.size + 1 ≤ wr.heap.size) (fun _ i _ => n - (intOf i).toNat)
  case atStart => exact ⟨0, by omega, rfl, none, 0, .map [], rfl, OwnI.nil_ _ _ _, World.ownsMap_made _ _ _ _, Met2.nil_, (Below.refl _ _).alloc (Nat.le_refl _) _, by simp⟩
  case round =>
    obtain ⟨k, hk, rfl, Ao, co, D, rfl, hoo, hmp, hmt, hbel, hsz0⟩ := hrel
    by_cases hlt : k < n
    · obtain ⟨g, rfl, hg, hcs⟩ := h.2.2 (by omega)
      obtain ⟨⟨x, y⟩, hv⟩ := getP HL.out hlt
      have hpo : Okp (x, y) := HOK.out _ (List.mem_of_getElem? hv)
      have HPO := Lib.hid hpo
      have hk2 := prCells_get L k _ hv
      have c0 := (hbel.cell (p := ⟨g, k * 2, none⟩) hg).trans (hcs _ _ hk2.1)
      have c1 := (hbel.cell (p := ⟨g, k * 2 + 1, none⟩) hg).trans (hcs _ _ hk2.2)
      have HT : Hid ((L.take (k + 1)).map en = (L.take k).map en ++ [en (x, y)]) := by
        show (L.take (k + 1)).map en = _
        rw [take_of_get hv, List.map_append]; rfl
      have HSN := Lib.hid (seenOf_snoc ((L.take k).map en) (en (x, y)))
      have HON := Lib.hid (ofL_snoc ((L.take k).map en) (en (x, y)))
      have hsl : (seenOf ((L.take k).map en)).length ≤ k := Nat.le_trans (seenOf_len _) (by rw [List.length_map]; exact List.length_take_le _ _)
      have HO := Lib.hid (hoo.alloc (.cells #[.int .i64 x, .int .i64 y] 105))
      have HP : Hid (MapP (wr.alloc (.cells #[.int .i64 x, .int .i64 y] 105)) w.heap.size k D) := Lib.hid (World.ownsMap.alloc hmp _)
      have HM := Lib.hid hmt
      have HB := Lib.hid (hbel.trans ((Below.refl _ _).alloc hbel.size (.cells #[.int .i64 x, .int .i64 y] 105)))
      have hsz1 : w.heap.size + 1 ≤ (wr.alloc (.cells #[.int .i64 x, .int .i64 y] 105)).heap.size := by simp; omega
      have HSZ := Lib.hid hsz1
      have HK := Lib.hid (keyPair hpo)
      simp only at HK
      clear hk2 hcs hv hoo hmp hmt hbel hpo hsz1 hsz0
      generalize seenOf ((L.take k).map en) = S at HM HSN HON hsl
      generalize ofL ((L.take k).map en) = O at HO HON
      have HNB : Hid (Ao.map (·.block) ≠ some w.heap.size) := Lib.hid (fun e => by have := (HO.out.1.block e).1; omega)
      by_cases hvS : en (x, y) ∈ S
      · have HHas : Hid (Maps.has D (kl (x, y)) = true) := Lib.hid (by rw [(HM.out.2.2 _ HPO.out).1]; simpa using hvS)
        have hidx := List.idxOf_lt_length_of_mem hvS
        have HAT : Hid (∀ d : Int, D.atKey (kl (x, y)) (.lit (.int .i64 0)) = .lit (.int .i64 d) → d = (S.idxOf (en (x, y)) : Int)) := Lib.hid fun d hd => HM.out.at_ HPO.out hvS hd
        have HVS := Lib.hid hvS
        clear hvS
        generalize List.idxOf (en (x, y)) S = q at hidx HON HAT
        go_upto_region 6 with fail
        have HBK := Lib.hid (Blk.new wr 105 #[.int .i64 x, .int .i64 y])
        generalize wr.alloc (.cells #[.int .i64 x, .int .i64 y] 105) = W1 at HO HP HB HSZ HBK ⊢
        generalize wr.heap.size = gp at HBK ⊢
        have k0 : W1.cell? ⟨gp, 0, none⟩ = some (.int .i64 x) := by rw [HBK.out.cell]; rfl
        have k1 : W1.cell? ⟨gp, 1, none⟩ = some (.int .i64 y) := by rw [HBK.out.cell]; rfl
        have k0' : W1.cell? ⟨gp, 0 + 1, none⟩ = some (.int .i64 y) := k1
        go_wp2_with (first
          | (at_lookup; refine wpList_lookup_own_ok_int _ rfl _ _ _ rfl 105 3 .i64 lawPair Tryd.underlying126 Tryd.underlying3 (zeroInt _) w.heap.size k D rfl HP.out _ _ rfl HK.out ?_; intro d hat hwd; have HE := Lib.hid (HAT.out d hat); clear hat hwd; rw [HHas.out, HE.out])
          | (at_builtin; refine wpList_appI1 _ rfl (.tmp 29) (.tmp 31) rfl _ rfl rfl HO.out (v := (q : Int)) (I64.small (by omega)) (by omega) HSZ.out ?_; intro A' c' w' kk; have KK := Lib.hid kk; clear kk))
        go_roundw
        case rel => exact ⟨k + 1, by omega, by go_num, A', c', D, rfl, by rw [HT.out, HON.out]; exact KK.out.own, (World.ownsMap.kept HP.out KK.out.grown (fun e => HNB.out (e.symm))).mono (by omega), by rw [HT.out, HSN.out, if_pos HVS.out]; exact HM.out, HB.out.trans (KK.out.below.mono (by omega)), Nat.le_trans HSZ.out KK.out.grown.size⟩
        case measure => simp [intOf]; omega
      · have HHas : Hid (Maps.has D (kl (x, y)) = false) := Lib.hid (by rw [(HM.out.2.2 _ HPO.out).1]; simpa using hvS)
        have HSS : Hid (Maps.size D = S.length) := Lib.hid HM.out.2.1
        have HPut := Lib.hid (HM.out.put HPO.out hvS)
        have HIX : Hid (S.idxOf (en (x, y)) = S.length) := Lib.hid (List.idxOf_eq_length hvS)
        rw [HIX.out] at HON
        have HVS := Lib.hid hvS
        obtain ⟨q, hq⟩ : ∃ q, q = S.length := ⟨_, rfl⟩
        rw [← hq] at HPut HSS HON hsl
        clear hq hvS
        go_upto_region 6 with fail
        have HBK := Lib.hid (Blk.new wr 105 #[.int .i64 x, .int .i64 y])
        generalize wr.alloc (.cells #[.int .i64 x, .int .i64 y] 105) = W1 at HO HP HB HSZ HBK ⊢
        generalize wr.heap.size = gp at HBK ⊢
        have k0 : W1.cell? ⟨gp, 0, none⟩ = some (.int .i64 x) := by rw [HBK.out.cell]; rfl
        have k1 : W1.cell? ⟨gp, 1, none⟩ = some (.int .i64 y) := by rw [HBK.out.cell]; rfl
        have k0' : W1.cell? ⟨gp, 0 + 1, none⟩ = some (.int .i64 y) := k1
        go_wp2_with (first
          | (at_lookup; refine wpList_lookup_own_ok_int _ rfl _ _ _ rfl 105 3 .i64 lawPair Tryd.underlying126 Tryd.underlying3 (zeroInt _) w.heap.size k D rfl HP.out _ _ rfl HK.out ?_; intro d hat hwd; clear hat hwd; rw [HHas.out])
          | (at_len; refine wpList_len_own _ rfl _ _ rfl 105 3 Tryd.underlying126 _ w.heap.size k D rfl HP.out ?_; rw [HSS.out])
          | (at_mapUpdate; refine wpList_mapUpdate_own _ rfl _ _ _ _ rfl 105 3 lawPair Tryd.underlying126 _ w.heap.size k D rfl HP.out (by unfold maxLen; omega) _ _ _ rfl rfl HK.out _ [] (plainElem_int Tryd.underlying3 (wfInt (I64.small (v := (q : Int)) (by omega)))) ?_; intro w1 hown1 hgrow1; have HP1 := Lib.hid hown1; have HG1 := Lib.hid hgrow1; have HO1 := Lib.hid (HO.out.grown hgrow1 (.inr HNB.out)); have hsz1 := Nat.le_trans HSZ.out hgrow1.size; clear hown1 hgrow1)
          | (at_builtin; refine wpList_appI1 _ rfl (.tmp 29) (.tmp 31) rfl _ rfl rfl HO1.out (v := (q : Int)) (I64.small (by omega)) (by omega) hsz1 ?_; intro A' c' w' kk; have KK := Lib.hid kk; clear kk))
        go_roundw
        case rel => exact ⟨k + 1, by omega, by go_num, A', c', _, rfl, by rw [HT.out, HON.out]; exact KK.out.own, World.ownsMap.kept HP1.out KK.out.grown (fun e => HNB.out e.symm), by rw [HT.out, HSN.out, if_neg HVS.out]; exact HPut.out, (HB.out.grown HG1.out HB.out.size (fun j hj => by cases hj; exact Nat.le_refl _)).trans (KK.out.below.mono (by omega)), Nat.le_trans hsz1 KK.out.grown.size⟩
        case measure => simp [intOf]; omega
    · have HO := Lib.hid hoo
      have HB := Lib.hid hbel
      clear hoo hmp hmt hbel
      have HK : Hid (L.take k = L) := by rw [List.take_of_length_le (by have := HL.out; omega)]; rfl
      rw [HK.out] at HO
      obtain rfl : k = n := by omega
      go_wp2
      go_ret
      have hl2 : (ofL (L.map en)).length = k := by rw [ofL_length, List.length_map, HL.out]
      refine ⟨Ao, co, ?_, ?_, HB.out⟩
      · rw [hl2]; rfl
      · rw [hl2]; exact HO.out.mono (by omega)
end Go.Proofs.YtooepkpgffpcjaaDoor
