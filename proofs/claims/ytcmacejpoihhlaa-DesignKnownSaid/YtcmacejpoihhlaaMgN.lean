/- Walk: a stock made of numbers. Plain law: orders of guests: which may be, and how fair they are. Plain law: all orders, one by one, and the order that comes next. Walks: orders of guests: which may be. Walks: the table of orders of guests. Walks: the table of some orders. -/
import Derived.Test.YtcmacejpoihhlaaMgJ
import Derived.Test.YtcmacejpoihhlaaMgE
import Derived.Test.YtcmacejpoihhlaaMgI
import Derived.Test.YtcmacejpoihhlaaMgB
import Derived.Test.YtcmacejpoihhlaaMgF
import Derived.Test.YtcmacejpoihhlaaMgC
namespace Go.Proofs.Ytcmacejpoihhlaa
open Go.RowKit

theorem stk_of {w : World} {g : Nat} {A : Option Addr} {k c : Nat} {d : Int} (h : Blk w g 24 #[.slice A k c, .int .i64 d]) : w.cell? ⟨g, 0, none⟩ = some (.slice A k c) ∧ w.frozen? ⟨g, 0, none⟩ = false :=
  ⟨by rw [h.cell]; rfl, h.frozen 0⟩
theorem Blk.below2 {w w' : World} {g B : Nat} {t : TypeId} {cs : Array Value} (h : Blk w g t cs) (hb : Below B w w') (hg : g < B) : Blk w' g t cs := (hb.block g hg).trans h
/-- a stock of the callee's own, the box g turned: its bounds -/
def StockMade (kinds count draw : Nat) (g : Nat) (w : World) (e : Ending) (w' : World) : Prop :=
  ∃ (A : Option Addr) (n c : Nat) (l : List Int) (d : Nat), e = .returned (.agg #[.slice A n c, .int .i64 d]) ∧ (1 ≤ n ∧ n ≤ kinds ∧ 1 ≤ d ∧ d ≤ draw ∧ (d : Int) ≤ sumI l) ∧ (∀ x ∈ l, 1 ≤ x ∧ x ≤ count) ∧ OwnI w' w.heap.size 3 A n c l ∧ Spun g w w'

set_option maxHeartbeats 2000000 in
set_option maxRecDepth 100000 in
theorem stockOf_any (g kinds count draw : Nat) (w : World) (h : IsBox w g) (hk1 : 1 ≤ kinds) (hk6 : kinds ≤ 6) (hc1 : 1 ≤ count) (hc9 : count ≤ 9) (hd1 : 1 ≤ draw) (hd9 : draw ≤ 9) :
    Calls Try.prog 21 #[.pointer (some ⟨g, 0, none⟩), .int .i64 kinds, .int .i64 count, .int .i64 draw] w (StockMade kinds count draw g w) := by
  have hgl := h.lt
  go_enter Try.func21, Try.ntmps21
  go_upto_region 3 with fail
  have HBX := Lib.hid ((h.alloc (.cells #[.slice none 0 0, .int .i64 0] 24)).alloc (.cells #[.slice none 0 0, .int .i64 0] 24))
  have HB := Lib.hid (((Below.refl _ w).alloc (Nat.le_refl _) (.cells #[.slice none 0 0, .int .i64 0] 24)).alloc (by simp) (.cells #[.slice none 0 0, .int .i64 0] 24))
  have hx0 := (Blk.new w 24 #[.slice none 0 0, .int .i64 0]).alloc (.cells #[.slice none 0 0, .int .i64 0] 24)
  have hx1 := Blk.new (w.alloc (.cells #[.slice none 0 0, .int .i64 0] 24)) 24 #[.slice none 0 0, .int .i64 0]
  rw [show (w.alloc (.cells #[.slice none 0 0, .int .i64 0] 24)).heap.size = w.heap.size + 1 by simp] at hx1
  have hsz : ((w.alloc (.cells #[.slice none 0 0, .int .i64 0] 24)).alloc (.cells #[.slice none 0 0, .int .i64 0] 24)).heap.size = w.heap.size + 2 := by simp
  have HX0 := Lib.hid hx0
  have HX1 := Lib.hid hx1
  clear hx0 hx1
  generalize (w.alloc (.cells #[.slice none 0 0, .int .i64 0] 24)).alloc (.cells #[.slice none 0 0, .int .i64 0] 24) = W at HBX HB HX0 HX1 hsz ⊢
  have HSP : Hid (Spun g w W) := Lib.hid ⟨HBX.out, grown_of_below HB.out _⟩
  clear HB h
  go_wp2_with fail
  refine (any_any g 1 kinds W HBX.out (by omega) (by omega) (by omega) (by omega)).mono ?_; rintro e w1 ⟨k, rfl, hk0, hk2, hst⟩
  obtain ⟨k, rfl⟩ : ∃ k' : Nat, k = k' := ⟨k.toNat, by omega⟩
  have hkk : 1 ≤ k ∧ k ≤ kinds := by omega
  have HX01 : Hid (Blk w1 w.heap.size 24 #[.slice none 0 0, .int .i64 0]) := Lib.hid (HX0.out.grown hst.grown (fun e => by injection e with e; omega))
  have HX11 : Hid (Blk w1 (w.heap.size + 1) 24 #[.slice none 0 0, .int .i64 0]) := Lib.hid (HX1.out.grown hst.grown (fun e => by injection e with e; omega))
  have HSP1 := Lib.hid (HSP.out.trans hst.spun)
  have hsz1 : w.heap.size + 2 ≤ w1.heap.size := by rw [hst.size]; omega
  clear hst hk0 hk2 HX0 HX1 HSP HBX hsz
  go_wp2_with fail
  go_loopw [10, 11] (fun s i wr => ∃ (j : Nat) (L : List Int) (A : Option Addr) (c : Nat), j ≤ k ∧ i = .int .i64 ((k : Int) - j) ∧ s = .int .i64 (sumI L) ∧ (∀ x ∈ L, 1 ≤ x ∧ x ≤ (count : Int)) ∧ Blk wr (w.heap.size + 1) 24 #[.slice A j c, .int .i64 0] ∧ OwnI wr (w.heap.size + 2) 3 A j c L ∧ Blk wr w.heap.size 24 #[.slice none 0 0, .int .i64 0] ∧ w.heap.size + 2 ≤ wr.heap.size ∧ Spun g w wr) (fun _ i _ => (intOf i).toNat)
  case atStart => exact ⟨0, [], none, 0, by omega, by simp, rfl, by simp, HX11.out, OwnI.nil_ _ _ _, HX01.out, hsz1, HSP1.out⟩
  case round =>
    obtain ⟨j, L, A, c, hj, rfl, rfl, hL, hblk, hown, hz, hszr, hsp⟩ := hrel
    have HLB := Lib.hid hL
    have HBK := Lib.hid hblk
    have HO := Lib.hid hown
    have HZ := Lib.hid hz
    have HSPR := Lib.hid hsp
    have hll := hown.len
    have hsb := sumI_bd (B := 9) L (fun x hx => by have := hL x hx; omega)
    rw [hll] at hsb
    obtain ⟨s, hs⟩ : ∃ s, sumI L = s := ⟨_, rfl⟩
    rw [hs] at hsb ⊢
    have HS := Lib.hid hs
    have HLL := Lib.hid hll
    clear hL hblk hown hz hsp hs hll HX01 HX11 HSP1
    by_cases hlt : j < k
    · obtain ⟨ct, hct⟩ : ∃ ct : Int, (k : Int) - j = ct := ⟨_, rfl⟩
      have hct0 : 0 < ct := by omega
      have hct6 : ct ≤ 6 := by omega
      have HCT : Hid (ct - 1 = (k : Int) - ((j + 1 : Nat) : Int) ∧ ct ≤ 6) := Lib.hid (by omega)
      rw [hct]
      clear hct
      go_upto_region 6 with fail
      have hq0 := stk_of HBK.out
      have hgne : g ≠ w.heap.size + 1 := by omega
      have hA : ∀ b, A.map (·.block) = some b → w.heap.size + 2 ≤ b := fun b hb => (HO.out.1.block hb).1
      have hAg : A.map (·.block) = none ∨ A.map (·.block) ≠ some g := by
        cases e : A.map (·.block) with
        | none => exact .inl rfl
        | some b => exact .inr (fun e2 => by injection e2 with e2; have := hA b e; omega)
      have hXg : some (w.heap.size + 1) ≠ some g := fun e => by injection e with e; omega
      have hj6 : j + 1 ≤ 1000000 := by omega
      have hv9 : ∀ v : Int, 1 ≤ v → (v ≤ (count : Int) ∨ v = 1) → I64 v ∧ 1 ≤ v ∧ v ≤ (count : Int) := fun v h1 h2 => ⟨I64.small (by omega), h1, by omega⟩
      have HVV := Lib.hid hv9
      have HAG := Lib.hid (And.intro hAg hXg)
      clear hA hAg hXg hv9
      have hc0 := hq0.1
      have hf0 := hq0.2
      clear hq0
      go_region_law (first
        | (refine step_appI1 w2 (by rfl) (.tmp 20) (.tmp 24) (by rfl) (v := v) _ (by rfl) (by rfl) HO2.out HV.out.1 hj6 hsz2 ?_; intro A' c' w3 hown hgrow hbel; have HX3 := Lib.hid (HX2.out.below2 hbel (Nat.lt_succ_self _)); have hc4 := (stk_of HX3.out).1; have hf4 := (stk_of HX3.out).2)
        | (go_simp; go_at_call 26; refine (any_any g 1 count wr.drew HSPR.out.box.drew (by omega) (by omega) (by omega) (by omega)).mono ?_; rintro e w2 ⟨v, rfl, hv0, hv1, hst⟩; have HX2 := Lib.hid (HBK.out.drew.grown hst.grown HAG.out.2); have HO2 := Lib.hid (HO.out.drew.grown hst.grown HAG.out.1); have hsz2 := Nat.le_trans hszr hst.grown.size; have HV := Lib.hid (HVV.out v hv0 hv1); have HST := Lib.hid hst; have hc2 := (stk_of HX2.out).1; have hc3 := (stk_of (HX2.out.alloc (.cells #[.int .i64 v] 3))).1; clear hst))
      all_goals
        have hA'b : ∀ b, A'.map (·.block) = some b → w.heap.size + 2 ≤ b := fun b hb => (hown.1.block hb).1
        have HX4 := Lib.hid (HX3.out.set_ 0 (.slice A' (j + 1) c'))
        have HO4 := Lib.hid (hown.far (p := ⟨w.heap.size + 1, 0, none⟩) (fun e => by have := hA'b _ e; simp at this) (.slice A' (j + 1) c'))
        have HZ4 := Lib.hid (((HZ.out.drew.grown HST.out.grown (fun e => by injection e with e; omega)).below2 hbel (by omega)).far (p := ⟨w.heap.size + 1, 0, none⟩) (by simp) (.slice A' (j + 1) c'))
        have HSP4 : Hid (Spun g w (w3.setCell ⟨w.heap.size + 1, 0, none⟩ (.slice A' (j + 1) c'))) := Lib.hid (((HSPR.out.then_ ((Below.refl _ wr).drew)).trans HST.out.spun).below_ ((hbel.mono (Nat.le_add_right _ 2)).setCell (p := ⟨w.heap.size + 1, 0, none⟩) (by simp) _) hgl)
        have hsz4 : w.heap.size + 2 ≤ (w3.setCell ⟨w.heap.size + 1, 0, none⟩ (.slice A' (j + 1) c')).heap.size := by have := hbel.size; simp [World.setCell]; omega
        clear hA'b hown hgrow hbel HX3 hc4 hf4 HX2 HO2 hc2 hc3 HST HZ HBK HO HAG hc0 hf0 HSPR hszr hsz2
        generalize w3.setCell ⟨w.heap.size + 1, 0, none⟩ (.slice A' (j + 1) c') = w4 at HX4 HO4 HZ4 HSP4 hsz4 ⊢
        obtain ⟨g', rfl, _, _⟩ := HO4.out.form (Nat.succ_pos _)
        have k0 : w4.cell? ⟨w.heap.size + 1, 0, none⟩ = some (.slice (some ⟨g', 0, none⟩) (j + 1) c') := by rw [HX4.out.cell]; rfl
        have k1 : w4.cell? ⟨g', j, none⟩ = some (.int .i64 v) := HO4.out.cellAt (by rw [List.getElem?_append_right (by rw [HLL.out]; omega), HLL.out, Nat.sub_self]; rfl)
        have hv1 := HV.out.2
        have HSS : Hid (sumI (L ++ [v]) = s + v) := Lib.hid (by rw [sumI_snoc, HS.out])
        have HLV : Hid (∀ x ∈ L ++ [v], 1 ≤ x ∧ x ≤ (count : Int)) := Lib.hid (fun x hx => by
          rcases List.mem_append.1 hx with hx | hx
          · exact HLB.out x hx
          · simp at hx; subst hx; exact hv1)
        have hj9 : j + 1 ≤ 6 := by omega
        have e1 : ((j + 1 : Nat) : Int) - 1 = j := by omega
        go_wp2
        go_roundw
        case rel => exact ⟨j + 1, L ++ [v], some ⟨g', 0, none⟩, c', by omega, by rw [HCT.out.1], by rw [HSS.out], HLV.out, HX4.out, HO4.out, HZ4.out, hsz4, HSP4.out⟩
        case measure => simp [intOf]; omega
    · obtain rfl : j = k := by omega
      rw [Int.sub_self]
      have HSB : Hid (0 ≤ s ∧ s ≤ 54) := Lib.hid (by omega)
      have hs1 : 1 ≤ s := by
        rw [← HS.out]
        have h0 := sum_ge_mem (c := L) (fun x hx => by have := HLB.out x hx; omega) (L.getD 0 0) (getD_mem (by rw [HLL.out]; omega))
        have h1 := HLB.out _ (getD_mem (l := L) (i := 0) (by rw [HLL.out]; omega))
        omega
      have HMC : Hid (∀ (m : Int) W', IsBox W' g → 1 ≤ m → m ≤ 60 → Calls Try.prog 26 #[.pointer (some ⟨g, 0, none⟩), .int .i64 1, .int .i64 m] W' (Anyed 1 m g W')) := Lib.hid (fun m W' h' h1 h2 => any_any g 1 m W' h' (by omega) (by omega) (by omega) (by omega))
      have HS54 : Hid (1 ≤ s ∧ s ≤ 60 ∧ (1 : Int) ≤ draw ∧ (draw : Int) ≤ 60) := Lib.hid (by omega)
      go_upto_region 8 with fail
      have hA : ∀ b, A.map (·.block) = some b → w.heap.size + 2 ≤ b := fun b hb => (HO.out.1.block hb).1
      have hAg : A.map (·.block) = none ∨ A.map (·.block) ≠ some g := by
        cases e : A.map (·.block) with
        | none => exact .inl rfl
        | some b => exact .inr (fun e2 => by injection e2 with e2; have := hA b e; omega)
      have HAG := Lib.hid (And.intro hAg hA)
      have hc1 : wr.cell? ⟨w.heap.size + 1, 1, none⟩ = some (.int .i64 0) := by rw [HBK.out.cell]; rfl
      have hf1 := HBK.out.frozen 1
      clear hA hAg
      go_wp2_with fail
      all_goals first
        | (with_reducible refine (HMC.out s wr HSPR.out.box HS54.out.1 HS54.out.2.1).mono ?_)
        | (with_reducible refine (HMC.out draw wr HSPR.out.box HS54.out.2.2.1 HS54.out.2.2.2).mono ?_)
      all_goals rintro e w2 ⟨v, rfl, hv0, hv1, hst⟩
      all_goals
       obtain ⟨d, rfl⟩ : ∃ d : Nat, v = d := ⟨v.toNat, by omega⟩
       have HD : Hid (1 ≤ d ∧ d ≤ draw ∧ (d : Int) ≤ s) := Lib.hid (by omega)
       have HX2 := Lib.hid (HBK.out.grown hst.grown (fun e => by injection e with e; omega))
       have HO2 := Lib.hid (HO.out.grown hst.grown HAG.out.1)
       have HZ2 := Lib.hid (HZ.out.grown hst.grown (fun e => by injection e with e; omega))
       have hsz2 := Nat.le_trans hszr hst.grown.size
       have HST := Lib.hid hst
       have hc2 : w2.cell? ⟨w.heap.size + 1, 1, none⟩ = some (.int .i64 0) := by rw [HX2.out.cell]; rfl
       have hf2 := HX2.out.frozen 1
       clear hst hc1 hf1
       go_upto_region 9 with fail
       have HX3 := Lib.hid (HX2.out.set_ 1 (.int .i64 (d : Int)))
       have HO3 := Lib.hid (HO2.out.far (p := ⟨w.heap.size + 1, 1, none⟩) (fun e => by have := HAG.out.2 _ e; simp at this) (.int .i64 (d : Int)))
       have HZ3 := Lib.hid (HZ2.out.far (p := ⟨w.heap.size + 1, 1, none⟩) (by simp) (.int .i64 (d : Int)))
       have HSP3 : Hid (Spun g w (w2.setCell ⟨w.heap.size + 1, 1, none⟩ (.int .i64 (d : Int)))) := Lib.hid ((HSPR.out.trans HST.out.spun).below_ ((Below.refl w.heap.size w2).setCell (p := ⟨w.heap.size + 1, 1, none⟩) (by simp) _) hgl)
       clear HX2 HO2 HZ2 HST hc2 hf2 hsz2 HBK HO HZ HSPR HMC HAG
       generalize w2.setCell ⟨w.heap.size + 1, 1, none⟩ (.int .i64 (d : Int)) = w3 at HX3 HO3 HZ3 HSP3 ⊢
       have k0 : w3.cell? ⟨w.heap.size + 1, 0, none⟩ = some (.slice A j c) := by rw [HX3.out.cell]; rfl
       have k1 : w3.cell? ⟨w.heap.size + 1, 1, none⟩ = some (.int .i64 d) := by rw [HX3.out.cell]; rfl
       have z0 : w3.cell? ⟨w.heap.size, 0, none⟩ = some (.slice none 0 0) := by rw [HZ3.out.cell]; rfl
       have z1 : w3.cell? ⟨w.heap.size, 1, none⟩ = some (.int .i64 0) := by rw [HZ3.out.cell]; rfl
       have f0 := HZ3.out.frozen 0
       have f1 := HZ3.out.frozen 1
       have HXF := Lib.hid ((HZ3.out.set_ 0 (.slice A j c)).set_ 1 (.int .i64 (d : Int)))
       have HOF := Lib.hid (((HO3.out.far (p := ⟨w.heap.size, 0, none⟩) (fun e => by have h : w.heap.size + 2 ≤ w.heap.size := (HO3.out.1.block e).1; omega) (.slice A j c)).far (p := ⟨w.heap.size, 1, none⟩) (fun e => by have h : w.heap.size + 2 ≤ w.heap.size := (HO3.out.1.block e).1; omega) (.int .i64 (d : Int))).mono (Nat.le_add_right _ 2))
       have HSF : Hid (Spun g w ((w3.setCell ⟨w.heap.size, 0, none⟩ (.slice A j c)).setCell ⟨w.heap.size, 1, none⟩ (.int .i64 (d : Int)))) := Lib.hid (HSP3.out.below_ (((Below.refl w.heap.size w3).setCell (p := ⟨w.heap.size, 0, none⟩) (Nat.le_refl _) _).setCell (p := ⟨w.heap.size, 1, none⟩) (Nat.le_refl _) _) hgl)
       go_wp2
       exact bodyPost_ret (v := .agg #[.slice A j c, .int .i64 d]) (results_cell_row rfl _ _ w.heap.size 24 _ (0, 0) _ rfl HXF.out Try.underlying24 rfl (by kernel_rfl)) rfl ⟨A, j, c, L, d, rfl, ⟨hkk.1, hkk.2, HD.out.1, HD.out.2.1, by rw [HS.out]; exact HD.out.2.2⟩, HLB.out, HOF.out, HSF.out⟩

/-! ### The numbers from 0 on, in some order -/
def rangeI (n : Nat) : List Int := (List.range n).map Int.ofNat
theorem rangeI_succ (n : Nat) : rangeI (n + 1) = rangeI n ++ [(n : Int)] := by unfold rangeI; rw [List.range_succ, List.map_append]; rfl
theorem rangeI_len (n : Nat) : (rangeI n).length = n := by simp [rangeI]
theorem rangeI_mem {n : Nat} {v : Int} : v ∈ rangeI n ↔ 0 ≤ v ∧ v < n := mem_rangeI
theorem swap_perm {l : List Int} {i j : Nat} {u v : Int} (hi : l[i]? = some u) (hj : l[j]? = some v) : ((l.set i v).set j u).Perm l := by
  obtain ⟨hi', rfl⟩ := List.getElem?_eq_some_iff.1 hi
  obtain ⟨hj', rfl⟩ := List.getElem?_eq_some_iff.1 hj
  exact List.set_set_perm hi' hj'
/-- an order of the callee's own, the box g turned -/
def Ordered (n g : Nat) (w : World) (e : Ending) (w' : World) : Prop :=
  ∃ (A : Option Addr) (c : Nat) (L : List Int), e = .returned (.slice A n c) ∧ L.Perm (rangeI n) ∧ OwnI w' w.heap.size 3 A n c L ∧ Spun g w w'

set_option maxHeartbeats 1000000 in
set_option maxRecDepth 100000 in
theorem order_any (g n : Nat) (w : World) (h : IsBox w g) (hn : n ≤ 1000) : Calls Try.prog 39 #[.pointer (some ⟨g, 0, none⟩), .int .i64 n] w (Ordered n g w) := by
  have hgl := h.lt
  have HBX := Lib.hid h
  clear h
  go_enter Try.func39, Try.ntmps39
  go_wp2
  go_loopw [5, 6] (fun s i wr => ∃ (j : Nat) (L : List Int) (A : Option Addr) (c : Nat), j ≤ n ∧ i = .int .i64 j ∧ s = .slice A j c ∧ L.Perm (rangeI j) ∧ OwnI wr w.heap.size 3 A j c L ∧ Spun g w wr) (fun _ i _ => n - (intOf i).toNat)
  case atStart => exact ⟨0, [], none, 0, by omega, rfl, rfl, List.Perm.refl _, OwnI.nil_ _ _ _, ⟨HBX.out, World.grownBy.refl _ _⟩⟩
  case round =>
    obtain ⟨j, L, A, c, hj, rfl, rfl, hp, hown, hsp⟩ := hrel
    have HP := Lib.hid hp
    have HO := Lib.hid hown
    have HSP := Lib.hid hsp
    clear hp hown hsp HBX
    by_cases hlt : j < n
    · have hAg : A.map (·.block) = none ∨ A.map (·.block) ≠ some g := by
        cases e : A.map (·.block) with
        | none => exact .inl rfl
        | some b => exact .inr (fun e2 => by injection e2 with e2; have := (HO.out.1.block e).1; omega)
      have HAG := Lib.hid hAg
      have hj1 : ((j : Int) + 1) ≤ 1000 := by omega
      clear hAg
      go_wp2_with fail
      refine (up_any g ((j : Int) + 1) wr HSP.out.box (by omega) (by omega)).mono ?_; rintro e w2 ⟨v, rfl, hv0, hv1, hst⟩
      obtain ⟨v, rfl⟩ : ∃ v' : Nat, v = v' := ⟨v.toNat, by omega⟩
      have hvj : v ≤ j := by omega
      have HO2 := Lib.hid (HO.out.grown hst.grown HAG.out)
      have HSP2 := Lib.hid (HSP.out.trans hst.spun)
      have hsz2 : w.heap.size ≤ w2.heap.size := HSP2.out.grown.size
      clear hst hv1 hv0 HO HSP HAG
      go_upto_region 7 with (at_builtin; go_must (refine wpList_appI1 w2 rfl (.tmp 17) (.tmp 19) rfl (v := (j : Int)) _ rfl rfl HO2.out (I64.small (by omega)) (by omega) hsz2 ?_); intro A' c' w3 kk; have KK := Lib.hid kk; clear kk)
      have HO3 := Lib.hid KK.out.own
      have HSP3 := Lib.hid (HSP2.out.below_ KK.out.below hgl)
      clear KK HO2 HSP2
      obtain ⟨g', rfl, hg', _⟩ := HO3.out.form (Nat.succ_pos _)
      have hll : (L ++ [(j : Int)]).length = j + 1 := HO3.out.len
      obtain ⟨x, hx⟩ : ∃ x, (L ++ [(j : Int)])[v]? = some x := ⟨_, get_getD (by rw [hll]; omega)⟩
      obtain ⟨y, hy⟩ : ∃ y, (L ++ [(j : Int)])[j]? = some y := ⟨_, get_getD (by rw [hll]; omega)⟩
      have k0 := HO3.out.cellAt hx
      have k1 := HO3.out.cellAt hy
      have f0 := HO3.out.frozenAt v
      have f1 := HO3.out.frozenAt j
      have HI := Lib.hid (And.intro (HO3.out.2 x (List.mem_of_getElem? hx)) (HO3.out.2 y (List.mem_of_getElem? hy)))
      have HPP : Hid ((((L ++ [(j : Int)]).set j x).set v y).Perm (rangeI (j + 1))) := Lib.hid ((swap_perm hy hx).trans (by rw [rangeI_succ]; exact HP.out.append_right _))
      have HGG := Lib.hid hg'
      have HXY : Hid (v = j → x = y) := Lib.hid (fun e => by subst e; rw [hx] at hy; injection hy)
      have hvj2 : v < j + 1 := by omega
      have hjj2 : j < j + 1 := by omega
      clear hx hy hll hg'
      have HF : Hid (∀ w4, w4 = ((w3.setCell ⟨g', j, none⟩ (.int .i64 x)).setCell ⟨g', v, none⟩ (.int .i64 y)).drew → OwnI w4 w.heap.size 3 (some ⟨g', 0, none⟩) (j + 1) c' (((L ++ [(j : Int)]).set j x).set v y) ∧ Spun g w w4) := Lib.hid (fun w4 e => by
        subst e
        exact ⟨((HO3.out.stored j HI.out.1).stored v HI.out.2).drew, HSP3.out.below_ ((((Below.refl w.heap.size w3).setCell (p := ⟨g', j, none⟩) HGG.out _).setCell (p := ⟨g', v, none⟩) HGG.out _).drew) hgl⟩)
      by_cases hvj3 : v = j
      · obtain rfl := HXY.out hvj3
        subst hvj3
        go_region
        go_wp2
        go_roundw
        case rel => exact ⟨v + 1, _, _, c', by omega, by go_num, rfl, HPP.out, (HF.out _ rfl).1, (HF.out _ rfl).2⟩
        case measure => simp [intOf]; omega
      · have hvj4 : v < j := by omega
        clear hvj3
        go_region
        go_wp2
        go_roundw
        case rel => exact ⟨j + 1, _, _, c', by omega, by go_num, rfl, HPP.out, (HF.out _ rfl).1, (HF.out _ rfl).2⟩
        case measure => simp [intOf]; omega
    · obtain rfl : j = n := by omega
      go_wp2
      go_ret
      exact ⟨A, c, L, rfl, HP.out, HO.out, HSP.out⟩
end Go.Proofs.Ytcmacejpoihhlaa

namespace Go.Proofs.Ytcmacejpoihhlaa
open Go.RowKit

/-! ### Which orders may be -/
theorem perm_sub : ∀ (a b : List Int), a.Nodup → (∀ x ∈ a, x ∈ b) → b.length ≤ a.length → a.Perm b := by
  intro a
  induction a with
  | nil => intro b _ _ h; rw [List.eq_nil_of_length_eq_zero (show b.length = 0 by simpa using h)]
  | cons x a ih =>
    intro b hn hs hl
    have hx := hs x (by simp)
    have hp := List.perm_cons_erase hx
    have hn2 := List.nodup_cons.1 hn
    refine List.Perm.trans ?_ hp.symm
    refine (ih (b.erase x) hn2.2 (fun y hy => ?_) ?_).cons x
    · have hne : y ≠ x := fun e => hn2.1 (e ▸ hy)
      exact (List.mem_erase_of_ne hne).2 (hs y (by simp [hy]))
    · rw [List.length_erase_of_mem hx]; simp at hl; omega
theorem rangeI_nodup (n : Nat) : (rangeI n).Nodup := by
  unfold rangeI
  exact List.Pairwise.map _ (fun a b h e => h (by injection e)) List.nodup_range
theorem rangeI_length (n : Nat) : (rangeI n).length = n := by simp [rangeI]
def okOrd (n : Nat) (l : List Int) : Bool := (l.length == n) && (List.range n).all fun g => hasI l (g : Int)
theorem okOrd_perm {n : Nat} {l : List Int} (h : okOrd n l = true) : l.Perm (rangeI n) := by
  unfold okOrd at h
  rw [Bool.and_eq_true, beq_iff_eq, List.all_eq_true] at h
  refine (perm_sub (rangeI n) l (rangeI_nodup n) (fun x hx => ?_) (by rw [h.1, rangeI_length]; exact Nat.le_refl _)).symm
  have h1 := rangeI_mem.1 hx
  have h2 := h.2 x.toNat (List.mem_range.2 (by omega))
  unfold hasI at h2
  rw [decide_eq_true_eq] at h2
  rwa [show ((x.toNat : Nat) : Int) = x by omega] at h2
theorem okOrd_of {n : Nat} {l : List Int} (h : l.Perm (rangeI n)) : okOrd n l = true := by
  unfold okOrd
  rw [Bool.and_eq_true, beq_iff_eq, List.all_eq_true]
  refine ⟨by rw [h.length_eq, rangeI_length], fun g hg => ?_⟩
  unfold hasI
  rw [decide_eq_true_eq]
  exact h.mem_iff.2 (rangeI_mem.2 (by have := List.mem_range.1 hg; omega))
theorem okOrd_len {n : Nat} {l : List Int} (h : okOrd n l = true) : l.length = n := by rw [(okOrd_perm h).length_eq, rangeI_length]
theorem okOrd_mem {n : Nat} {l : List Int} (h : okOrd n l = true) : ∀ v ∈ l, 0 ≤ v ∧ v < n := fun _ hv => rangeI_mem.1 ((okOrd_perm h).mem_iff.1 hv)
theorem okOrd_no {n : Nat} {l : List Int} (g : Nat) (hg : g < n) (h : hasI l (g : Int) = false) : okOrd n l = false := by
  cases e : okOrd n l with
  | false => rfl
  | true =>
    unfold okOrd at e
    rw [Bool.and_eq_true, List.all_eq_true] at e
    have := e.2 g (List.mem_range.2 hg)
    rw [h] at this; cases this
theorem okOrd_nolen {n : Nat} {l : List Int} (h : l.length ≠ n) : okOrd n l = false := by
  cases e : okOrd n l with
  | false => rfl
  | true => exact absurd (okOrd_len e) h
theorem okOrd_yes {n : Nat} {l : List Int} (hl : l.length = n) (h : ∀ g : Nat, g < n → hasI l (g : Int) = true) : okOrd n l = true := by
  unfold okOrd
  rw [Bool.and_eq_true, beq_iff_eq, List.all_eq_true]
  exact ⟨hl, fun g hg => h g (List.mem_range.1 hg)⟩
/-- as the reference asks -/
theorem okOrd_ref {n : Nat} {l : List Int} (hl : l.length = n) (h1 : ∀ k : Nat, k < n → 0 ≤ l.getD k 0 ∧ l.getD k 0 < (n : Int)) (h2 : ∀ k j : Nat, k < n → j < k → l.getD j 0 ≠ l.getD k 0) : okOrd n l = true := by
  refine okOrd_of (perm_sub l (rangeI n) ?_ (fun x hx => ?_) (by rw [rangeI_length, hl]; exact Nat.le_refl _))
  · rw [List.nodup_iff_pairwise_ne, List.pairwise_iff_getElem]
    intro i j hi hj hij e
    have g1 := getD_of_get (d := 0) (List.getElem?_eq_getElem hi)
    have g2 := getD_of_get (d := 0) (List.getElem?_eq_getElem hj)
    exact h2 j i (by omega) hij (by rw [g1, g2, e])
  · obtain ⟨k, hk, rfl⟩ := List.getElem_of_mem hx
    have := h1 k (by omega)
    rw [getD_of_get (List.getElem?_eq_getElem hk)] at this
    exact rangeI_mem.2 this
theorem okOrd_ne {n : Nat} {l : List Int} (h : okOrd n l = true) {k j : Nat} (hk : k < n) (hj : j < k) : l.getD j 0 ≠ l.getD k 0 := by
  intro e
  have hl := okOrd_len h
  have hnd : l.Nodup := (okOrd_perm h).nodup_iff.2 (rangeI_nodup n)
  have := (List.getElem?_inj (show j < l.length by omega) hnd).1 ((get_getD (by omega)).trans ((congrArg some e).trans (get_getD (l := l) (i := k) (by omega)).symm))
  omega
/-- the error of orders -/
def ordE (n : Int) (L : List (List Int)) : Int := if n < 1 ∨ 12 < n then 2 else if 60 < L.length then 8 else if L.all (okOrd n.toNat) = true then 0 else 3
theorem ordE_ok {n : Int} {L : List (List Int)} (h : ordE n L = 0) : 1 ≤ n ∧ n ≤ 12 ∧ L.length ≤ 60 ∧ ∀ o ∈ L, okOrd n.toNat o = true := by
  unfold ordE at h
  by_cases h1 : n < 1 ∨ 12 < n
  · rw [if_pos h1] at h; omega
  · rw [if_neg h1] at h
    by_cases h2 : 60 < L.length
    · rw [if_pos h2] at h; omega
    · rw [if_neg h2] at h
      cases e : L.all (okOrd n.toNat) with
      | false => rw [e, if_neg (by simp)] at h; omega
      | true => exact ⟨by omega, by omega, by omega, List.all_eq_true.1 e⟩
theorem ordE_of {n : Nat} {L : List (List Int)} (h1 : 1 ≤ n) (h12 : n ≤ 12) (h60 : L.length ≤ 60) (h : ∀ o ∈ L, okOrd n o = true) : ordE n L = 0 := by
  unfold ordE
  rw [if_neg (by omega), if_neg (by omega), if_pos (by rw [Int.toNat_natCast, List.all_eq_true]; exact h)]

/-! ### The table -/
def incT (T : List Int) (j : Nat) : List Int := T.set j (T.getD j 0 + 1)
theorem incT_len (T : List Int) (j : Nat) : (incT T j).length = T.length := by unfold incT; rw [List.length_set]
theorem incT_get {T : List Int} {j : Nat} (hj : j < T.length) (i : Nat) : (incT T j).getD i 0 = T.getD i 0 + if i = j then 1 else 0 := by
  unfold incT
  by_cases e : i = j
  · subst e; rw [getD_set_eq hj, if_pos rfl]
  · rw [getD_set_ne (fun h => e h.symm), if_neg e]; omega
def wStep (o : List Int) (T : List Int) (i : Nat) : List Int :=
  if 0 < i then incT (incT T (1 + ((o.getD i 0).toNat * 12 + i))) (145 + ((o.getD i 0).toNat * 12 + (o.getD (i - 1) 0).toNat)) else incT T (1 + ((o.getD i 0).toNat * 12 + i))
def wTo (o T : List Int) (k : Nat) : List Int := (List.range k).foldl (wStep o) T
def wAll (o T : List Int) : List Int := wTo o T o.length
def tZero (n : Nat) : List Int := (n : Int) :: List.replicate 288 0
def tabTo (n : Nat) (L : List (List Int)) (j : Nat) : List Int := (L.take j).foldl (fun T o => wAll o T) (tZero n)
def tabL (n : Nat) (L : List (List Int)) : List Int := tabTo n L L.length
theorem wTo_succ (o T : List Int) (k : Nat) : wTo o T (k + 1) = wStep o (wTo o T k) k := foldl_range_succ _ _ _
theorem tabTo_succ {n : Nat} {L : List (List Int)} {j : Nat} {o : List Int} (h : L[j]? = some o) : tabTo n L (j + 1) = wAll o (tabTo n L j) := by
  unfold tabTo; rw [take_of_get h, List.foldl_append]; rfl
theorem tabL_snoc (n : Nat) (L : List (List Int)) (o : List Int) : tabL n (L ++ [o]) = wAll o (tabL n L) := by
  unfold tabL tabTo
  rw [List.take_length, List.take_length, List.foldl_append]; rfl
/-- a table: 289 numbers that are not great -/
structure TabOk (M : Int) (T : List Int) : Prop where
  len : T.length = 289
  bd : ∀ v ∈ T, 0 ≤ v ∧ v ≤ M
theorem TabOk.inc {M : Int} {T : List Int} (h : TabOk M T) (j : Nat) (hM : 0 ≤ M) : TabOk (M + 1) (incT T j) := by
  refine ⟨by rw [incT_len]; exact h.len, fun v hv => ?_⟩
  unfold incT at hv
  rcases List.mem_or_eq_of_mem_set hv with hv | rfl
  · have := h.bd v hv; omega
  · rw [List.getD_eq_getElem?_getD]
    cases e : T[j]? with
    | none => simp; omega
    | some v => have := h.bd v (List.mem_of_getElem? e); simp; omega
theorem TabOk.mono {M N : Int} {T : List Int} (h : TabOk M T) (hN : M ≤ N) : TabOk N T := ⟨h.len, fun v hv => by have := h.bd v hv; omega⟩
theorem TabOk.at_ {M : Int} {T : List Int} (h : TabOk M T) {j : Nat} (hj : j < 289) : ∃ v, T[j]? = some v ∧ 0 ≤ v ∧ v ≤ M := by
  have hj2 : j < T.length := by rw [h.len]; exact hj
  exact ⟨_, List.getElem?_eq_getElem hj2, h.bd _ (List.getElem_mem hj2)⟩
theorem TabOk.step {M : Int} {T : List Int} (h : TabOk M T) (o : List Int) (i : Nat) (hM : 0 ≤ M) : TabOk (M + 2) (wStep o T i) := by
  unfold wStep
  split
  · exact (((h.inc _ hM).inc _ (by omega))).mono (by omega)
  · exact (h.inc _ hM).mono (by omega)
theorem TabOk.to {M : Int} {T : List Int} (h : TabOk M T) (o : List Int) (k : Nat) (hM : 0 ≤ M) : TabOk (M + 2 * k) (wTo o T k) := by
  induction k with
  | zero => exact h.mono (by omega)
  | succ k ih => rw [wTo_succ]; exact (ih.step o k (by omega)).mono (by omega)
theorem TabOk.zero {n : Nat} (h : n ≤ 12) : TabOk 12 (tZero n) := by
  refine ⟨by unfold tZero; rw [List.length_cons, List.length_replicate], fun v hv => ?_⟩
  unfold tZero at hv
  rcases List.mem_cons.1 hv with rfl | hv
  · omega
  · rw [(List.mem_replicate.1 hv).2]; omega
theorem TabOk.tab {n : Nat} (h : n ≤ 12) {L : List (List Int)} (hL : ∀ o ∈ L, o.length = n) (j : Nat) (hj : j ≤ L.length) : TabOk (12 + 24 * j) (tabTo n L j) := by
  induction j with
  | zero => exact (TabOk.zero h).mono (by omega)
  | succ j ih =>
    have hg := List.getElem?_eq_getElem (l := L) (i := j) (by omega)
    rw [tabTo_succ hg]
    have hl := hL _ (List.mem_of_getElem? hg)
    have := (ih (by omega)).to L[j] L[j].length (by omega)
    unfold wAll
    exact this.mono (by omega)

/-- how often a guest has a place, and comes behind another -/
def plc (L : List (List Int)) (a b : Nat) (j : Nat) : Int := sS j fun i => if (L.getD i []).getD b 0 = (a : Int) then 1 else 0
def adj (o : List Int) (b a : Nat) (k : Nat) : Int := sS k fun i => if 0 < i ∧ o.getD (i - 1) 0 = (b : Int) ∧ o.getD i 0 = (a : Int) then 1 else 0
def fol (L : List (List Int)) (b a : Nat) (j : Nat) : Int := sS j fun i => adj (L.getD i []) b a (L.getD i []).length
theorem wTo_get {o T : List Int} (hT : T.length = 289) (ho : ∀ v ∈ o, 0 ≤ v ∧ v < 12) (h12 : o.length ≤ 12) (k : Nat) (hk : k ≤ o.length) : (wTo o T k).length = 289 ∧
    (∀ a b : Nat, a < 12 → b < 12 → (wTo o T k).getD (1 + (a * 12 + b)) 0 = T.getD (1 + (a * 12 + b)) 0 + if b < k ∧ o.getD b 0 = (a : Int) then 1 else 0) ∧
    (∀ a b : Nat, a < 12 → b < 12 → (wTo o T k).getD (145 + (a * 12 + b)) 0 = T.getD (145 + (a * 12 + b)) 0 + adj o b a k) ∧ (wTo o T k).getD 0 0 = T.getD 0 0 := by
  induction k with
  | zero =>
    refine ⟨hT, fun a b _ _ => ?_, fun a b _ _ => ?_, rfl⟩
    · rw [if_neg (by omega)]; show T.getD _ 0 = _; omega
    · show T.getD _ 0 = _ + 0; omega
  | succ k ih =>
    obtain ⟨i1, i2, i3, i4⟩ := ih (by omega)
    have hg := ho _ (getD_mem (l := o) (i := k) (by omega))
    obtain ⟨g, hge⟩ : ∃ g : Nat, o.getD k 0 = g := ⟨(o.getD k 0).toNat, by omega⟩
    rw [hge] at hg
    have hadj : ∀ a b : Nat, adj o b a (k + 1) = adj o b a k + if 0 < k ∧ o.getD (k - 1) 0 = (b : Int) ∧ o.getD k 0 = (a : Int) then 1 else 0 := fun a b => sS_succ _ _
    rw [wTo_succ]
    unfold wStep
    rw [hge, Int.toNat_natCast]
    have hP : 1 + (g * 12 + k) < (wTo o T k).length := by rw [i1]; omega
    by_cases hk0 : 0 < k
    · rw [if_pos hk0]
      have hp := ho _ (getD_mem (l := o) (i := k - 1) (by omega))
      obtain ⟨p, hpe⟩ : ∃ p : Nat, o.getD (k - 1) 0 = p := ⟨(o.getD (k - 1) 0).toNat, by omega⟩
      rw [hpe] at hp
      rw [hpe, Int.toNat_natCast]
      have hN : 145 + (g * 12 + p) < (incT (wTo o T k) (1 + (g * 12 + k))).length := by rw [incT_len, i1]; omega
      refine ⟨by rw [incT_len, incT_len]; exact i1, fun a b ha hb => ?_, fun a b ha hb => ?_, ?_⟩
      · rw [incT_get hN, incT_get hP, i2 a b ha hb, if_neg (show ¬1 + (a * 12 + b) = 145 + (g * 12 + p) by omega)]
        by_cases e : b = k
        · subst e
          rw [hge]
          by_cases e2 : a = g
          · subst e2; rw [if_neg (by omega), if_pos rfl, if_pos (by omega)]; omega
          · rw [if_neg (by omega), if_neg (by omega), if_neg (by omega)]; omega
        · rw [if_neg (show ¬1 + (a * 12 + b) = 1 + (g * 12 + k) by omega)]
          by_cases e2 : b < k ∧ o.getD b 0 = (a : Int)
          · rw [if_pos e2, if_pos ⟨by omega, e2.2⟩]; omega
          · rw [if_neg e2, if_neg (fun h => e2 ⟨by omega, h.2⟩)]; omega
      · rw [incT_get hN, incT_get hP, i3 a b ha hb, if_neg (show ¬145 + (a * 12 + b) = 1 + (g * 12 + k) by omega), hadj, hge, hpe]
        by_cases e : a = g ∧ b = p
        · rw [if_pos (by omega), if_pos (by omega)]; omega
        · rw [if_neg (by omega), if_neg (by omega)]; omega
      · rw [incT_get hN, incT_get hP, i4, if_neg (by omega), if_neg (by omega)]; omega
    · rw [if_neg hk0]
      refine ⟨by rw [incT_len]; exact i1, fun a b ha hb => ?_, fun a b ha hb => ?_, ?_⟩
      · rw [incT_get hP, i2 a b ha hb]
        by_cases e : b = k
        · subst e
          rw [hge]
          by_cases e2 : a = g
          · subst e2; rw [if_neg (by omega), if_pos rfl, if_pos (by omega)]; omega
          · rw [if_neg (by omega), if_neg (by omega), if_neg (by omega)]; omega
        · rw [if_neg (show ¬1 + (a * 12 + b) = 1 + (g * 12 + k) by omega), if_neg (by omega), if_neg (by omega)]; omega
      · rw [incT_get hP, i3 a b ha hb, if_neg (by omega), hadj, if_neg (fun h => hk0 h.1)]; omega
      · rw [incT_get hP, i4, if_neg (by omega)]; omega
theorem tabO_get {n : Nat} (h12 : n ≤ 12) {L : List (List Int)} (hL : ∀ o ∈ L, okOrd n o = true) (j : Nat) (hj : j ≤ L.length) :
    (∀ a b : Nat, a < n → b < n → (tabTo n L j).getD (1 + (a * 12 + b)) 0 = plc L a b j) ∧ (∀ a b : Nat, a < n → b < n → (tabTo n L j).getD (145 + (a * 12 + b)) 0 = fol L b a j) ∧ (tabTo n L j).getD 0 0 = n := by
  induction j with
  | zero =>
    have hz : ∀ i, 1 ≤ i → (tZero n).getD i 0 = 0 := fun i hi => by
      unfold tZero
      rw [List.getD_eq_getElem?_getD]
      cases i with
      | zero => omega
      | succ i => rw [List.getElem?_cons_succ, List.getElem?_replicate]; split <;> rfl
    exact ⟨fun a b _ _ => hz _ (by omega), fun a b _ _ => hz _ (by omega), rfl⟩
  | succ j ih =>
    obtain ⟨i1, i2, i3⟩ := ih (by omega)
    have hg := List.getElem?_eq_getElem (l := L) (i := j) (by omega)
    have hd : L.getD j [] = L[j] := getD_of_get hg
    rw [tabTo_succ hg]
    generalize L[j] = o at hg hd ⊢
    have hok := hL _ (List.mem_of_getElem? hg)
    have hlen := okOrd_len hok
    have hT := (TabOk.tab h12 (fun o ho => okOrd_len (hL o ho)) j (by omega)).len
    obtain ⟨w1, w2, w3, w4⟩ := wTo_get hT (fun v hv => by have := okOrd_mem hok v hv; omega) (by omega) o.length (Nat.le_refl _)
    unfold wAll
    refine ⟨fun a b ha hb => ?_, fun a b ha hb => ?_, by rw [w4, i3]⟩
    · rw [w2 a b (by omega) (by omega), i1 a b ha hb]
      unfold plc
      rw [sS_succ, hd]
      by_cases e : o.getD b 0 = (a : Int)
      · rw [if_pos ⟨by omega, e⟩, if_pos e]
      · rw [if_neg (fun h => e h.2), if_neg e]
    · rw [w3 a b (by omega) (by omega), i2 a b ha hb]
      unfold fol
      rw [sS_succ, hd]

/-! ### The greatest less the least -/
def mxD : List Int → Int
  | [] => 0
  | x :: r => r.foldl max x
def mnD : List Int → Int
  | [] => 0
  | x :: r => r.foldl min x
def difD (l : List Int) : Int := mxD l - mnD l
theorem mxD_snoc {l : List Int} (h : l ≠ []) (x : Int) : mxD (l ++ [x]) = max (mxD l) x := by
  cases l with
  | nil => exact absurd rfl h
  | cons y r => show (r ++ [x]).foldl max y = _; rw [List.foldl_append]; rfl
theorem mnD_snoc {l : List Int} (h : l ≠ []) (x : Int) : mnD (l ++ [x]) = min (mnD l) x := by
  cases l with
  | nil => exact absurd rfl h
  | cons y r => show (r ++ [x]).foldl min y = _; rw [List.foldl_append]; rfl
theorem mxD_one (x : Int) : mxD [x] = x := rfl
theorem mnD_one (x : Int) : mnD [x] = x := rfl
theorem mxD_spec (l : List Int) (h : l ≠ []) : mxD l ∈ l ∧ ∀ v ∈ l, v ≤ mxD l := by
  induction l using snoc_ind with
  | h0 => exact absurd rfl h
  | hs l x ih =>
    by_cases e : l = []
    · subst e; simp [mxD]
    · obtain ⟨h1, h2⟩ := ih e
      rw [mxD_snoc e]
      refine ⟨?_, fun v hv => ?_⟩
      · rcases Int.le_total (mxD l) x with hx | hx
        · rw [Int.max_eq_right hx]; simp
        · rw [Int.max_eq_left hx]; simp [h1]
      · rcases List.mem_append.1 hv with hv | hv
        · have := h2 v hv; omega
        · simp at hv; omega
theorem mnD_spec (l : List Int) (h : l ≠ []) : mnD l ∈ l ∧ ∀ v ∈ l, mnD l ≤ v := by
  induction l using snoc_ind with
  | h0 => exact absurd rfl h
  | hs l x ih =>
    by_cases e : l = []
    · subst e; simp [mnD]
    · obtain ⟨h1, h2⟩ := ih e
      rw [mnD_snoc e]
      refine ⟨?_, fun v hv => ?_⟩
      · rcases Int.le_total (mnD l) x with hx | hx
        · rw [Int.min_eq_left hx]; simp [h1]
        · rw [Int.min_eq_right hx]; simp
      · rcases List.mem_append.1 hv with hv | hv
        · have := h2 v hv; omega
        · simp at hv; omega
theorem difD_congr {l r : List Int} (h : ∀ x, x ∈ l ↔ x ∈ r) : difD l = difD r := by
  by_cases e : l = []
  · subst e
    have : r = [] := by
      cases r with
      | nil => rfl
      | cons y r => have := (h y).2 (by simp); cases this
    rw [this]
  · have er : r ≠ [] := by
      rintro rfl
      cases l with
      | nil => exact e rfl
      | cons y l => have := (h y).1 (by simp); cases this
    obtain ⟨a1, a2⟩ := mxD_spec l e
    obtain ⟨b1, b2⟩ := mxD_spec r er
    obtain ⟨c1, c2⟩ := mnD_spec l e
    obtain ⟨d1, d2⟩ := mnD_spec r er
    have h1 := a2 _ ((h _).2 b1)
    have h2 := b2 _ ((h _).1 a1)
    have h3 := c2 _ ((h _).2 d1)
    have h4 := d2 _ ((h _).1 c1)
    unfold difD
    omega
theorem difD_nn (l : List Int) : 0 ≤ difD l := by
  by_cases e : l = []
  · subst e; exact Int.le_refl _
  · have h1 := mxD_spec l e
    have h2 := (mnD_spec l e).2 _ h1.1
    unfold difD; omega
/-- bounds of what lies in a list -/
theorem difD_bd {l : List Int} {M : Int} (h : ∀ v ∈ l, 0 ≤ v ∧ v ≤ M) (hM : 0 ≤ M) : 0 ≤ mnD l ∧ mnD l ≤ M ∧ 0 ≤ mxD l ∧ mxD l ≤ M := by
  by_cases e : l = []
  · subst e; simp [mnD, mxD]; omega
  · have h1 := h _ (mxD_spec l e).1
    have h2 := h _ (mnD_spec l e).1
    omega

/-! ### The numbers of all pairs -/
def rowF (d : Bool) (f : Nat → Nat → Int) (a b : Nat) : List Int := ((List.range b).filter fun x => !(d && a == x)).map (f a)
def seqA (n : Nat) (d : Bool) (f : Nat → Nat → Int) (a : Nat) : List Int := (List.range a).flatMap fun x => rowF d f x n
def seqTo (n : Nat) (d : Bool) (f : Nat → Nat → Int) (a b : Nat) : List Int := seqA n d f a ++ rowF d f a b
def seqF (n : Nat) (d : Bool) (f : Nat → Nat → Int) : List Int := seqA n d f n
theorem rowF_skip {d : Bool} {f : Nat → Nat → Int} {a b : Nat} (h : (d && a == b) = true) : rowF d f a (b + 1) = rowF d f a b := by
  unfold rowF
  rw [List.range_succ, List.filter_append, List.filter_cons_of_neg (by rw [h]; decide), List.filter_nil, List.append_nil]
theorem rowF_take {d : Bool} {f : Nat → Nat → Int} {a b : Nat} (h : (d && a == b) = false) : rowF d f a (b + 1) = rowF d f a b ++ [f a b] := by
  unfold rowF
  rw [List.range_succ, List.filter_append, List.map_append, List.filter_cons_of_pos (by rw [h]; rfl), List.filter_nil]
  rfl
theorem seqTo_skip {n : Nat} {d : Bool} {f : Nat → Nat → Int} {a b : Nat} (h : (d && a == b) = true) : seqTo n d f a (b + 1) = seqTo n d f a b := by unfold seqTo; rw [rowF_skip h]
theorem seqTo_take {n : Nat} {d : Bool} {f : Nat → Nat → Int} {a b : Nat} (h : (d && a == b) = false) : seqTo n d f a (b + 1) = seqTo n d f a b ++ [f a b] := by unfold seqTo; rw [rowF_take h, List.append_assoc]
theorem seqA_succ (n : Nat) (d : Bool) (f : Nat → Nat → Int) (a : Nat) : seqA n d f (a + 1) = seqA n d f a ++ rowF d f a n := by
  unfold seqA
  rw [List.range_succ, List.flatMap_append]; simp
theorem seqTo_row (n : Nat) (d : Bool) (f : Nat → Nat → Int) (a : Nat) : seqTo n d f a n = seqTo n d f (a + 1) 0 := by
  unfold seqTo
  rw [seqA_succ]
  show _ = _ ++ []
  rw [List.append_nil]
theorem seqTo_start (n : Nat) (d : Bool) (f : Nat → Nat → Int) : seqTo n d f 0 0 = [] := rfl
theorem seqTo_end (n : Nat) (d : Bool) (f : Nat → Nat → Int) : seqTo n d f n 0 = seqF n d f := by
  unfold seqTo
  show _ ++ [] = _
  rw [List.append_nil]; rfl
theorem mem_seqF {n : Nat} {d : Bool} {f : Nat → Nat → Int} {x : Int} : x ∈ seqF n d f ↔ ∃ a b, a < n ∧ b < n ∧ (d && a == b) = false ∧ x = f a b := by
  unfold seqF seqA
  rw [List.mem_flatMap]
  constructor
  · rintro ⟨a, ha, hx⟩
    unfold rowF at hx
    obtain ⟨b, hb, rfl⟩ := List.mem_map.1 hx
    rw [List.mem_filter] at hb
    exact ⟨a, b, List.mem_range.1 ha, List.mem_range.1 hb.1, by have h9 := hb.2; revert h9; cases (d && a == b) <;> simp, rfl⟩
  · rintro ⟨a, b, ha, hb, hd, rfl⟩
    refine ⟨a, List.mem_range.2 ha, ?_⟩
    unfold rowF
    refine List.mem_map.2 ⟨b, ?_, rfl⟩
    rw [List.mem_filter]
    exact ⟨List.mem_range.2 hb, by rw [hd]; rfl⟩
theorem seqF_congr {n : Nat} {d : Bool} {f g : Nat → Nat → Int} (h : ∀ a b, a < n → b < n → f a b = g a b) : difD (seqF n d f) = difD (seqF n d g) :=
  difD_congr fun x => by
    rw [mem_seqF, mem_seqF]
    constructor
    · rintro ⟨a, b, ha, hb, hd, rfl⟩; exact ⟨a, b, ha, hb, hd, h a b ha hb⟩
    · rintro ⟨a, b, ha, hb, hd, rfl⟩; exact ⟨a, b, ha, hb, hd, (h a b ha hb).symm⟩
theorem seqF_turn {n : Nat} {d : Bool} {f : Nat → Nat → Int} : difD (seqF n d f) = difD (seqF n d fun a b => f b a) :=
  difD_congr fun x => by
    rw [mem_seqF, mem_seqF]
    have key : ∀ a b : Nat, (d && a == b) = (d && b == a) := fun a b => by
      rw [show (a == b) = (b == a) by rw [Bool.eq_iff_iff, beq_iff_eq, beq_iff_eq]; exact ⟨Eq.symm, Eq.symm⟩]
    constructor
    · rintro ⟨a, b, ha, hb, hd, rfl⟩; exact ⟨b, a, hb, ha, by rw [← key]; exact hd, rfl⟩
    · rintro ⟨a, b, ha, hb, hd, rfl⟩; exact ⟨b, a, hb, ha, by rw [← key]; exact hd, rfl⟩
/-- how fair orders are -/
def plF (L : List (List Int)) (a b : Nat) : Int := plc L a b L.length
def foF (L : List (List Int)) (a b : Nat) : Int := fol L a b L.length
def fair2 (n : Nat) (L : List (List Int)) : Int × Int := (difD (seqF n false (plF L)), difD (seqF n true (foF L)))
def tP (T : List Int) (a b : Nat) : Int := T.getD (1 + (a * 12 + b)) 0
def tN (T : List Int) (a b : Nat) : Int := T.getD (145 + (a * 12 + b)) 0
/-- the differences of a table -/
def difT (n : Nat) (T : List Int) : Int × Int := (difD (seqF n false (tP T)), difD (seqF n true (tN T)))
theorem difT_tab {n : Nat} (h12 : n ≤ 12) {L : List (List Int)} (hL : ∀ o ∈ L, okOrd n o = true) : difT n (tabL n L) = fair2 n L := by
  obtain ⟨h1, h2, _⟩ := tabO_get h12 hL L.length (Nat.le_refl _)
  unfold difT fair2
  rw [seqF_congr (f := tP (tabL n L)) (g := plF L) (fun a b ha hb => h1 a b ha hb), seqF_congr (f := tN (tabL n L)) (g := fun a b => foF L b a) (fun a b ha hb => h2 a b ha hb), seqF_turn (f := foF L)]
def fairO (n : Int) (L : List (List Int)) : Int × Int × Int := if ordE n L ≠ 0 then (0, 0, ordE n L) else ((fair2 n.toNat L).1, (fair2 n.toNat L).2, 0)
end Go.Proofs.Ytcmacejpoihhlaa

namespace Go.Proofs.Ytcmacejpoihhlaa
open Go.RowKit

/-! ### All orders -/
def permNew (o : List Int) (n : Nat) : List (List Int) := ((List.range n).filter fun (g : Nat) => !hasI o (g : Int)).map fun (g : Nat) => o ++ [((g : Nat) : Int)]
def permsK (n : Nat) : Nat → List (List Int)
  | 0 => [[]]
  | k + 1 => (permsK n k).flatMap fun o => permNew o n
def perms (n : Nat) : List (List Int) := permsK n n
/-- what the program makes of an order: where it is to be turned, and with which place -/
def findI (o : List Int) : Nat → Option Nat
  | 0 => none
  | m + 1 => if o.getD (m + 1) 0 < o.getD m 0 then findI o m else some m
def findK (o : List Int) (x : Int) : Nat → Nat
  | 0 => 0
  | k + 1 => if o.getD (k + 1) 0 < x then findK o x k else k + 1
def turnAt (o : List Int) (i k : Nat) : List Int := (swapAt o i k).take (i + 1) ++ ((swapAt o i k).drop (i + 1)).reverse
def nxtO (n : Nat) (o : List Int) : Option (List Int) :=
  match findI o (n - 1) with
  | none => none
  | some i => some (turnAt o i (findK o (o.getD i 0) (n - 1)))
def chainO (n : Nat) : List (List Int) → Bool
  | [] => true
  | [o] => nxtO n o == none
  | o :: p :: r => (nxtO n o == some p) && chainO n (p :: r)
def permsOk (n : Nat) : Bool := chainO n (perms n) && (perms n).all (okOrd n) && ((perms n).head? == some (rangeI n)) && decide ((perms n).length ≤ 720)
theorem permsOk_1 : permsOk 1 = true := by decide +kernel
theorem permsOk_2 : permsOk 2 = true := by decide +kernel
theorem permsOk_3 : permsOk 3 = true := by decide +kernel
theorem permsOk_4 : permsOk 4 = true := by decide +kernel
theorem permsOk_5 : permsOk 5 = true := by decide +kernel
theorem permsOk_6 : permsOk 6 = true := by decide +kernel
theorem perms_ok {n : Nat} (h1 : 1 ≤ n) (h6 : n ≤ 6) : permsOk n = true := by
  have h : n = 1 ∨ n = 2 ∨ n = 3 ∨ n = 4 ∨ n = 5 ∨ n = 6 := by omega
  rcases h with rfl | rfl | rfl | rfl | rfl | rfl
  · exact permsOk_1
  · exact permsOk_2
  · exact permsOk_3
  · exact permsOk_4
  · exact permsOk_5
  · exact permsOk_6
theorem chainO_at {n : Nat} : ∀ (L : List (List Int)), chainO n L = true → ∀ (r : Nat) o, L[r]? = some o → nxtO n o = L[r + 1]? := by
  intro L
  induction L with
  | nil => intro _ r o h; cases h
  | cons a L ih =>
    intro h r o ho
    cases L with
    | nil =>
      cases r with
      | zero =>
        injection ho with ho
        subst ho
        simpa [chainO] using h
      | succ r => simp at ho
    | cons b L =>
      unfold chainO at h
      rw [Bool.and_eq_true, beq_iff_eq] at h
      cases r with
      | zero =>
        injection ho with ho
        subst ho
        exact h.1
      | succ r => exact ih h.2 r o (by simpa using ho)
/-- the r-th order -/
def prm (n r : Nat) : List Int := (perms n).getD r []
def cntP (n : Nat) : Nat := (perms n).length
structure PermsF (n : Nat) : Prop where
  pos : 1 ≤ cntP n
  le : cntP n ≤ 720
  first : prm n 0 = rangeI n
  ok : ∀ r, r < cntP n → okOrd n (prm n r) = true
  next : ∀ r, r < cntP n → nxtO n (prm n r) = if r + 1 < cntP n then some (prm n (r + 1)) else none
theorem perms_f {n : Nat} (h1 : 1 ≤ n) (h6 : n ≤ 6) : PermsF n := by
  have h := perms_ok h1 h6
  unfold permsOk at h
  simp only [Bool.and_eq_true, beq_iff_eq, decide_eq_true_eq, List.all_eq_true] at h
  obtain ⟨⟨⟨c1, c2⟩, c3⟩, c4⟩ := h
  have hg : ∀ r, r < cntP n → (perms n)[r]? = some (prm n r) := fun r hr => by
    unfold prm
    rw [List.getD_eq_getElem?_getD, List.getElem?_eq_getElem hr]; rfl
  have hp : 1 ≤ cntP n := by
    unfold cntP
    cases e : perms n with
    | nil => rw [e] at c3; cases c3
    | cons a l => simp
  refine ⟨hp, c4, ?_, fun r hr => c2 _ (List.mem_of_getElem? (hg r hr)), fun r hr => ?_⟩
  · have := hg 0 (by omega)
    rw [List.head?_eq_getElem?] at c3
    rw [c3] at this
    injection this with this
    exact this.symm
  · rw [chainO_at _ c1 r _ (hg r hr)]
    split
    · exact hg _ (by assumption)
    · exact List.getElem?_eq_none (by unfold cntP at *; omega)

/-! ### The loops of the program's step -/
theorem findI_some {o : List Int} {m i : Nat} (h : findI o m = some i) : i < m ∧ o.getD i 0 ≤ o.getD (i + 1) 0 := by
  induction m with
  | zero => cases h
  | succ m ih =>
    unfold findI at h
    split at h
    · have := ih h; omega
    · injection h with h; subst h; omega
theorem findK_spec {o : List Int} {x : Int} {i k : Nat} (hx : x ≤ o.getD (i + 1) 0) (hk : i + 1 ≤ k) : i + 1 ≤ findK o x k ∧ findK o x k ≤ k := by
  induction k with
  | zero => omega
  | succ k ih =>
    unfold findK
    split
    · rename_i h
      by_cases e : i + 1 = k + 1
      · rw [e] at hx; omega
      · have := ih (by omega); omega
    · omega

/-! ### The order that comes next -/
def ltD (a b : Int × Int) : Prop := a.1 < b.1 ∨ a.1 = b.1 ∧ a.2 < b.2
instance (a b : Int × Int) : Decidable (ltD a b) := by unfold ltD; infer_instance
def turnStep (f : List Int → Int × Int) (s : List Int × (Int × Int)) (o : List Int) : List Int × (Int × Int) := if s.1 = [] ∨ ltD (f o) s.2 then (o, f o) else s
def addF (n : Nat) (L : List (List Int)) (o : List Int) : Int × Int := fair2 n (L ++ [o])
def turnTo (n : Nat) (L : List (List Int)) (j : Nat) : List Int × (Int × Int) := ((perms n).take j).foldl (turnStep (addF n L)) ([], (0, 0))
def turnE (n : Int) (L : List (List Int)) : List Int × Int := if ordE n L ≠ 0 then ([], ordE n L) else if 6 < n ∨ L.length = 60 then ([], 8) else ((turnTo n.toNat L (cntP n.toNat)).1, 0)
theorem turnTo_succ {n : Nat} {L : List (List Int)} {j : Nat} {o : List Int} (h : (perms n)[j]? = some o) : turnTo n L (j + 1) = turnStep (addF n L) (turnTo n L j) o := by
  unfold turnTo; rw [take_of_get h, List.foldl_append]; rfl
theorem prm_get {n r : Nat} (h : r < cntP n) : (perms n)[r]? = some (prm n r) := by
  unfold prm
  rw [List.getD_eq_getElem?_getD, List.getElem?_eq_getElem h]; rfl
theorem turn_best (n : Nat) (L : List (List Int)) (f : PermsF n) (h1 : 1 ≤ n) : ∀ j, 0 < j → j ≤ cntP n → ∃ p, p < j ∧ turnTo n L j = (prm n p, addF n L (prm n p)) ∧
    (∀ i, i < j → ¬ltD (addF n L (prm n i)) (addF n L (prm n p))) ∧ ∀ i, i < p → ltD (addF n L (prm n p)) (addF n L (prm n i)) := by
  have hne : ∀ r, r < cntP n → prm n r ≠ [] := fun r hr e => by
    have := okOrd_len (f.ok r hr)
    rw [e] at this
    simp at this; omega
  have irr : ∀ a : Int × Int, ¬ltD a a := fun a h => by unfold ltD at h; omega
  intro j
  induction j with
  | zero => intro h; omega
  | succ j ih =>
    intro _ hj
    have hg := prm_get (n := n) (r := j) (by omega)
    rw [turnTo_succ hg]
    rcases Nat.eq_zero_or_pos j with h0 | h0
    · subst h0
      refine ⟨0, by omega, ?_, fun i hi => ?_, fun i hi => by omega⟩
      · unfold turnStep; rw [if_pos (.inl (by rfl))]
      · obtain rfl : i = 0 := by omega
        exact irr _
    · obtain ⟨p, hp, he, hmin, hfst⟩ := ih h0 (by omega)
      rw [he]
      by_cases hlt : ltD (addF n L (prm n j)) (addF n L (prm n p))
      · refine ⟨j, by omega, by unfold turnStep; rw [if_pos (.inr hlt)], fun i hi h => ?_, fun i hi => ?_⟩
        · by_cases e : i = j
          · subst e; exact irr _ h
          · have := hmin i (by omega)
            unfold ltD at *; omega
        · have := hmin i (by omega)
          unfold ltD at *; omega
      · refine ⟨p, by omega, ?_, fun i hi => ?_, hfst⟩
        · unfold turnStep
          rw [if_neg]
          rintro (h | h)
          · exact hne p (by omega) h
          · exact hlt h
        · by_cases e : i = j
          · subst e; exact hlt
          · exact hmin i (by omega)
theorem turnE_bad {n : Int} {L : List (List Int)} (h : ordE n L ≠ 0) : turnE n L = ([], ordE n L) := by unfold turnE; rw [if_pos h]
theorem turnE_full {n : Int} {L : List (List Int)} (h : ordE n L = 0) (h2 : 6 < n ∨ L.length = 60) : turnE n L = ([], 8) := by unfold turnE; rw [if_neg (by omega), if_pos h2]
theorem turnE_ok {n : Nat} {L : List (List Int)} (h : ordE n L = 0) (h2 : n ≤ 6) (h3 : L.length ≠ 60) : turnE n L = ((turnTo n L (cntP n)).1, 0) := by
  unfold turnE; rw [if_neg (by omega), if_neg (by omega), Int.toNat_natCast]
/-- a table with an order more -/
theorem difT_with {n : Nat} (h12 : n ≤ 12) {L : List (List Int)} (hL : ∀ o ∈ L, okOrd n o = true) {o : List Int} (ho : okOrd n o = true) : difT n (wAll o (tabL n L)) = addF n L o := by
  rw [← tabL_snoc]
  exact difT_tab h12 (fun x hx => by
    rcases List.mem_append.1 hx with h | h
    · exact hL x h
    · simp at h; subst h; exact ho)
end Go.Proofs.Ytcmacejpoihhlaa

namespace Go.Proofs.Ytcmacejpoihhlaa
open Go.RowKit

theorem RdL.bd {w : World} {A : Option Addr} {n : Nat} {ll : List (List Int)} (h : RdL w A n ll) : n ≤ 17592186044416 := by obtain ⟨vs, h1, _⟩ := h; exact h1.2.1
theorem ordE_range {n : Int} {L : List (List Int)} (h : n < 1 ∨ 12 < n) : ordE n L = 2 := by unfold ordE; rw [if_pos h]
theorem ordE_full {n : Int} {L : List (List Int)} (h : 1 ≤ n ∧ n ≤ 12) (h60 : 60 < L.length) : ordE n L = 8 := by unfold ordE; rw [if_neg (by omega), if_pos h60]
theorem ordE_form {n : Nat} {L : List (List Int)} (h : 1 ≤ n ∧ n ≤ 12) (h60 : L.length ≤ 60) {j : Nat} {o : List Int} (hj : L[j]? = some o) (ho : okOrd n o = false) : ordE n L = 3 := by
  unfold ordE
  rw [if_neg (by omega), if_neg (by omega), if_neg]
  rw [Int.toNat_natCast, List.all_eq_true]
  intro h9
  have := h9 o (List.mem_of_getElem? hj)
  rw [ho] at this; cases this

set_option maxHeartbeats 1000000 in
set_option maxRecDepth 100000 in
theorem checkO_any (A : Option Addr) (m c : Nat) (L : List (List Int)) (n : Int) (w : World) (h : RdL w A m L) (_hn : I64 n) : Calls Try.prog 62 #[.int .i64 n, .slice A m c] w (Num (ordE n L) w) := by
  have hml := h.len
  have hmb := h.bd
  have HL := Lib.hid hml
  by_cases h1 : n < 1 ∨ 12 < n
  · have HV := Lib.hid (ordE_range (L := L) h1)
    have HW := Lib.hid (within_no (lo := 1) (n := n) (hi := 12) (by omega))
    clear h1 hml
    go_enter Try.func62, Try.ntmps62
    go_wp2_with fail
    refine (withinD_any n 1 12 w).mono ?_; rintro e w' ⟨rfl, rfl⟩
    rw [HW.out]
    go_wp2
    go_ret
    exact ⟨ret_int HV.out.symm, rfl⟩
  have hn12 : 1 ≤ n ∧ n ≤ 12 := by omega
  obtain ⟨n, rfl⟩ : ∃ n' : Nat, n = n' := ⟨n.toNat, by omega⟩
  have HW := Lib.hid (within_yes (lo := 1) (n := (n : Int)) (hi := 12) (by omega) (by omega))
  have hn12' : n ≤ 12 := by omega
  have hn1' : 1 ≤ n := by omega
  clear h1
  by_cases h60 : 60 < m
  · have HV := Lib.hid (ordE_full (L := L) hn12 (by omega))
    have h60I : (60 : Int) < m := by omega
    clear hml hn12
    go_enter Try.func62, Try.ntmps62
    go_wp2_with fail
    refine (withinD_any n 1 12 w).mono ?_; rintro e w' ⟨rfl, rfl⟩
    rw [HW.out]
    go_wp2
    go_ret
    exact ⟨ret_int HV.out.symm, rfl⟩
  have h60I : (m : Int) ≤ 60 := by omega
  have HV3 : Hid (∀ (j : Nat) o, L[j]? = some o → okOrd n o = false → ordE n L = 3) := Lib.hid (fun j o hj ho => ordE_form ⟨hn1', hn12'⟩ (by omega) hj ho)
  clear hml hn12
  go_enter Try.func62, Try.ntmps62
  go_wp2_with fail
  refine (withinD_any n 1 12 w).mono ?_; rintro e w' ⟨rfl, rfl⟩
  rw [HW.out]
  go_wp2_with fail
  go_loop [18] (fun i => ∃ j : Nat, j ≤ m ∧ i = .int .i64 j ∧ Hid (∀ o ∈ L.take j, okOrd n o = true)) (fun i => m - (intOf i).toNat)
  case atStart => exact ⟨0, by omega, rfl, Lib.hid (fun o ho => by cases ho)⟩
  case round =>
    obtain ⟨j, hj, rfl, HJ⟩ := hrel
    by_cases hjm : j < m
    · obtain ⟨ad, B, q, d, o, rfl, _, ho, hro, hcell⟩ := h.at_ hjm
      have HR := Lib.hid hro
      have hjI : (j : Int) < m := by omega
      have HOL := Lib.hid hro.len
      clear hro
      by_cases hqn : q = n
      · subst hqn
        go_wp2_with fail
        go_loop [27] (fun i => ∃ g : Nat, g ≤ q ∧ i = .int .i64 g ∧ Hid (∀ x : Nat, x < g → hasI o (x : Int) = true)) (fun i => q - (intOf i).toNat)
        case atStart => exact ⟨0, by omega, rfl, Lib.hid (fun x hx => by omega)⟩
        case round =>
          obtain ⟨g, hg, rfl, HG⟩ := hrel
          by_cases hgq : g < q
          · have hgI : (g : Int) < q := by omega
            obtain ⟨y, hy⟩ : ∃ y, hasI o (g : Int) = y := ⟨_, rfl⟩
            have HC := Lib.hid (contains_any B q d o (g : Int) _ HR.out (by omega))
            rw [hy] at HC
            have HY := Lib.hid hy
            clear hy
            cases y
            · have HB := Lib.hid (HV3.out j o ho.out (okOrd_no g hgq HY.out))
              go_wp2_with fail
              refine HC.out.mono ?_; rintro e w' ⟨rfl, rfl⟩
              go_wp2
              go_ret
              exact ⟨ret_int HB.out.symm, rfl⟩
            · go_wp2_with fail
              refine HC.out.mono ?_; rintro e w' ⟨rfl, rfl⟩
              go_wp2
              go_round
              case rel => exact ⟨g + 1, by omega, by go_num, Lib.hid (fun x hx => by
                by_cases e : x = g
                · rw [e]; exact HY.out
                · exact HG.out x (by omega))⟩
              case measure => simp [intOf]; omega
          · have HT : Hid (∀ o' ∈ L.take (j + 1), okOrd q o' = true) := Lib.hid (fun o' ho' => by
              rw [take_of_get ho.out] at ho'
              rcases List.mem_append.1 ho' with h9 | h9
              · exact HJ.out o' h9
              · simp at h9; subst h9
                exact okOrd_yes HOL.out (fun g' hg' => HG.out g' (by omega)))
            go_wp2
            go_round
            case rel => exact ⟨j + 1, by omega, by go_num, HT⟩
            case measure => simp [intOf]; omega
      · have HB := Lib.hid (HV3.out j o ho.out (okOrd_nolen (by rw [HOL.out]; exact hqn)))
        have gq : ((q : Int) != n) = true := by simp; omega
        clear hqn
        go_wp2
        go_ret
        exact ⟨ret_int HB.out.symm, rfl⟩
    · have HZ : Hid (ordE (n : Int) L = 0) := Lib.hid (ordE_of hn1' hn12' (by rw [HL.out]; omega) (fun o ho => HJ.out o (by rw [List.take_of_length_le (by rw [HL.out]; omega)]; exact ho)))
      go_wp2
      go_ret
      exact ⟨ret_int HZ.out.symm, rfl⟩
end Go.Proofs.Ytcmacejpoihhlaa

namespace Go.Proofs.Ytcmacejpoihhlaa
open Go.RowKit

theorem tabSize : (Try.prog.info? 116).map (·.size) = some 289 := by kernel_rfl
theorem tabZero : Try.zeroCells116 = (ints (tZero 0)).toArray := by kernel_rfl
theorem tab_size {M : Int} {T : List Int} (h : TabOk M T) : (Try.prog.info? 116).map (·.size) = some (ints T).toArray.size := by rw [tabSize, List.size_toArray, ints_length, h.len]

set_option maxHeartbeats 2000000 in
set_option maxRecDepth 100000 in
theorem with_any (M : Int) (T o : List Int) (A : Option Addr) (n c : Nat) (w : World) (hT : TabOk M T) (h : RdI w A n o) (hM : 0 ≤ M) (hM2 : M ≤ 1000000) (h12 : n ≤ 12) (ho : ∀ v ∈ o, 0 ≤ v ∧ v < 12) :
    Calls Try.prog 111 #[.agg (ints T).toArray, .slice A n c] w fun e w' => e = .returned (.agg (ints (wAll o T)).toArray) ∧ Below w.heap.size w w' := by
  go_enter Try.func111, Try.ntmps111
  go_upto_region 1 with fail
  have HX := Lib.hid ((Blk.new w 116 (ints T).toArray).alloc (.cells Try.zeroCells116 116))
  have hz := Blk.new (w.alloc (.cells (ints T).toArray 116)) 116 Try.zeroCells116
  rw [show (w.alloc (.cells (ints T).toArray 116)).heap.size = w.heap.size + 1 by simp] at hz
  have HZ := Lib.hid hz
  have HA := Lib.hid ((h.alloc (.cells (ints T).toArray 116)).alloc (.cells Try.zeroCells116 116))
  have HB := Lib.hid (((Below.refl _ w).alloc (Nat.le_refl _) (.cells (ints T).toArray 116)).alloc (by simp) (.cells Try.zeroCells116 116))
  have HAB : Hid (∀ b, A.map (·.block) = some b → 0 < n → b < w.heap.size) := Lib.hid (fun b e h0 => h.block h0 e)
  have HLN := Lib.hid h.len
  have HOB := Lib.hid ho
  obtain ⟨W, hW⟩ : ∃ W, (w.alloc (.cells (ints T).toArray 116)).alloc (.cells Try.zeroCells116 116) = W := ⟨_, rfl⟩
  rw [hW] at HX HZ HA HB ⊢
  obtain ⟨q, hq⟩ : ∃ q, w.heap.size = q := ⟨_, rfl⟩
  rw [hq] at HX HZ HB HAB ⊢
  have HQ := Lib.hid hq
  have HTO : Hid (∀ k : Nat, TabOk (M + 2 * k) (wTo o T k)) := Lib.hid (fun k => hT.to o k hM)
  clear hW hq hz h ho hT
  go_wp2_with fail
  go_loopw [9] (fun i wr => ∃ k : Nat, k ≤ n ∧ i = .int .i64 k ∧ Blk wr q 116 (ints (wTo o T k)).toArray ∧ Blk wr (q + 1) 116 Try.zeroCells116 ∧ RdI wr A n o ∧ Below q w wr) (fun i _ => n - (intOf i).toNat)
  case atStart => exact ⟨0, by omega, rfl, HX.out, HZ.out, HA.out, HB.out⟩
  case round =>
    obtain ⟨k, hk, rfl, hx, hz, ha, hb⟩ := hrel
    have HXK := Lib.hid hx
    have HZK := Lib.hid hz
    have HAK := Lib.hid ha
    have HBK := Lib.hid hb
    clear hx hz ha hb HX HZ HA HB
    by_cases hkn : k < n
    · obtain ⟨ad, g, rfl, hadb, hg, _, hcg⟩ := HAK.out.at_ hkn
      have hg12 := HOB.out g (List.mem_of_getElem? hg.out)
      obtain ⟨g, rfl⟩ : ∃ g' : Nat, g = g' := ⟨g.toNat, by omega⟩
      have hgd : o.getD k 0 = (g : Int) := getD_of_get hg.out
      have HSUC : Hid (wTo o T (k + 1) = wStep o (wTo o T k) k) := Lib.hid (wTo_succ o T k)
      have HTK := Lib.hid (HTO.out k)
      obtain ⟨E, hE⟩ : ∃ E, wTo o T k = E := ⟨_, rfl⟩
      rw [hE] at HXK HSUC HTK
      obtain ⟨x, hx, hx0, hxM⟩ := HTK.out.at_ (show 1 + g * 12 + k < 289 by omega)
      have c1 : wr.cell? ⟨q, 1 + g * 12 + k, none⟩ = some (.int .i64 x) := by rw [HXK.out.cell, ints_arr_get hx]
      have f1 := HXK.out.frozen (1 + g * 12 + k)
      have hgI : (g : Int) < 12 := by omega
      have hkI : (k : Int) < 12 := by omega
      have hg0 : (0 : Int) ≤ g := by omega
      have hk0 : (0 : Int) ≤ k := by omega
      have HINC : Hid (incT E (1 + (g * 12 + k)) = E.set (1 + g * 12 + k) (x + 1)) := Lib.hid (by
        unfold incT
        rw [← Nat.add_assoc, getD_of_get hx])
      have HAN := Lib.hid (HAB.out ad.block rfl (by omega))
      clear hE hx
      go_upto_region 4 with fail
      go_region
      all_goals
        have HX5 : Hid (Blk (wr.setCell ⟨q, 1 + g * 12 + k, none⟩ (.int .i64 (x + 1))).drew q 116 (ints (incT E (1 + (g * 12 + k)))).toArray) := Lib.hid (by
          rw [HINC.out, ← ints_arr_set]; exact (HXK.out.set_ _ _).drew)
        have HZ5 := Lib.hid ((HZK.out.far (p := ⟨q, 1 + g * 12 + k, none⟩) (by show q + 1 ≠ q; omega) (.int .i64 (x + 1))).drew)
        have HA5 := Lib.hid ((HAK.out.setCell (p := ⟨q, 1 + g * 12 + k, none⟩) (fun e => by have h9 : ad.block = q := (by injection e); have := HAN.out; omega) (.int .i64 (x + 1))).drew)
        have HB5 := Lib.hid ((HBK.out.setCell (p := ⟨q, 1 + g * 12 + k, none⟩) (Nat.le_refl _) (.int .i64 (x + 1))).drew)
        obtain ⟨W5, hW5⟩ : ∃ W5, (wr.setCell ⟨q, 1 + g * 12 + k, none⟩ (.int .i64 (x + 1))).drew = W5 := ⟨_, rfl⟩
        rw [hW5] at HX5 HZ5 HA5 HB5 ⊢
        clear hW5 HXK HZK HAK HBK c1 f1 hcg HINC
        have HT5 := Lib.hid (HTK.out.inc (1 + (g * 12 + k)) (by omega))
        by_cases hk1 : 0 < k
        · have HS2 : Hid (wTo o T (k + 1) = incT (incT E (1 + (g * 12 + k))) (145 + (g * 12 + (o.getD (k - 1) 0).toNat))) := Lib.hid (by rw [HSUC.out]; unfold wStep; rw [if_pos hk1, hgd, Int.toNat_natCast])
          obtain ⟨j, hj⟩ : ∃ j, k - 1 = j := ⟨_, rfl⟩
          rw [hj] at HS2
          have hjn : j < n := by omega
          obtain ⟨ad', p, e, _, hp, _, hcp⟩ := HA5.out.at_ hjn
          injection e with e
          subst e
          have hp12 := HOB.out p (List.mem_of_getElem? hp.out)
          obtain ⟨p, rfl⟩ : ∃ p' : Nat, p = p' := ⟨p.toNat, by omega⟩
          rw [getD_of_get hp.out, Int.toNat_natCast] at HS2
          obtain ⟨E1, hE1⟩ : ∃ E1, incT E (1 + (g * 12 + k)) = E1 := ⟨_, rfl⟩
          rw [hE1] at HX5 HT5 HS2
          obtain ⟨y, hy, hy0, hyM⟩ := HT5.out.at_ (show 145 + g * 12 + p < 289 by omega)
          have c2 : W5.cell? ⟨q, 145 + g * 12 + p, none⟩ = some (.int .i64 y) := by rw [HX5.out.cell, ints_arr_get hy]
          have f2 := HX5.out.frozen (145 + g * 12 + p)
          have HINC : Hid (incT E1 (145 + (g * 12 + p)) = E1.set (145 + g * 12 + p) (y + 1)) := Lib.hid (by
            unfold incT
            rw [← Nat.add_assoc, getD_of_get hy])
          have hpI : (p : Int) < 12 := by omega
          have hp0 : (0 : Int) ≤ p := by omega
          have hjI : (j : Int) < n := by omega
          have hk1I : (0 : Int) < k := by omega
          have hkj : (k : Int) - 1 = j := by omega
          clear hE1 hy hp hgd hj
          go_upto_region 6 with fail
          go_region
          all_goals
            have HX6 : Hid (Blk (W5.setCell ⟨q, 145 + g * 12 + p, none⟩ (.int .i64 (y + 1))).drew q 116 (ints (incT E1 (145 + (g * 12 + p)))).toArray) := Lib.hid (by
              rw [HINC.out, ← ints_arr_set]; exact (HX5.out.set_ _ _).drew)
            have HZ6 := Lib.hid ((HZ5.out.far (p := ⟨q, 145 + g * 12 + p, none⟩) (by show q + 1 ≠ q; omega) (.int .i64 (y + 1))).drew)
            have HA6 := Lib.hid ((HA5.out.setCell (p := ⟨q, 145 + g * 12 + p, none⟩) (fun e => by have h9 : ad.block = q := (by injection e); have := HAN.out; omega) (.int .i64 (y + 1))).drew)
            have HB6 := Lib.hid ((HB5.out.setCell (p := ⟨q, 145 + g * 12 + p, none⟩) (Nat.le_refl _) (.int .i64 (y + 1))).drew)
            obtain ⟨W6, hW6⟩ : ∃ W6, (W5.setCell ⟨q, 145 + g * 12 + p, none⟩ (.int .i64 (y + 1))).drew = W6 := ⟨_, rfl⟩
            rw [hW6] at HX6 HZ6 HA6 HB6 ⊢
            clear hW6 HX5 HZ5 HA5 HB5 c2 f2 HINC hkj
            go_wp2
            go_roundw
            case rel => exact ⟨k + 1, by omega, by go_num, by rw [HS2.out]; exact HX6.out, HZ6.out, HA6.out, HB6.out⟩
            case measure => simp [intOf]; omega
        · have HS2 : Hid (wTo o T (k + 1) = incT E (1 + (g * 12 + k))) := Lib.hid (by rw [HSUC.out]; unfold wStep; rw [if_neg hk1, hgd, Int.toNat_natCast])
          have hk1I : (k : Int) ≤ 0 := by omega
          clear hgd
          go_wp2
          go_roundw
          case rel => exact ⟨k + 1, by omega, by go_num, by rw [HS2.out]; exact HX5.out, HZ5.out, HA5.out, HB5.out⟩
          case measure => simp [intOf]; omega
    · have hkn2 : k = n := by omega
      subst hkn2
      have HTE : Hid (TabOk (M + 2 * k) (wAll o T)) := Lib.hid (by unfold wAll; rw [HLN.out]; exact HTO.out k)
      have HWE : Hid (wTo o T k = wAll o T) := Lib.hid (by unfold wAll; rw [HLN.out])
      rw [HWE.out] at HXK
      have hsz := tab_size HTE.out
      have hold : Try.zeroCells116.size = (ints (wAll o T)).toArray.size := by rw [tabZero, List.size_toArray, List.size_toArray, ints_length, ints_length, HTE.out.len]; rfl
      have hone : (ints (wAll o T)).toArray.all (·.oneCell') = true := by simp only [List.all_toArray]; exact List.all_eq_true.2 (ints_oneCell' _)
      go_wp2_with (first | (refine wpList_load_row rfl _ (.tmp 2) rfl q rfl _ _ _ _ HXK.out Try.underlying116 rfl hsz ?_) | (refine wpList_store_row rfl _ (.tmp 4) (.tmp 41) rfl (q + 1) (ints (wAll o T)).toArray rfl rfl _ _ HZK.out hsz hold hone ?_))
      exact bodyPost_ret (v := .agg (ints (wAll o T)).toArray) (results_cell_row rfl _ _ (q + 1) 116 _ (0, 0) _ rfl (setRow_heap wr (q + 1) _ _ _ _ HZK.out) Try.underlying116 rfl hsz) rfl ⟨rfl, by rw [HQ.out]; exact below_setRow HBK.out (by omega) _⟩
end Go.Proofs.Ytcmacejpoihhlaa

namespace Go.Proofs.Ytcmacejpoihhlaa
open Go.RowKit

set_option maxHeartbeats 2000000 in
set_option maxRecDepth 100000 in
theorem tableOf_any (n : Nat) (L : List (List Int)) (A : Option Addr) (m c : Nat) (w : World) (h : RdL w A m L) (h12 : n ≤ 12) (hL : ∀ o ∈ L, okOrd n o = true) (h60 : m ≤ 61) :
    Calls Try.prog 106 #[.int .i64 n, .slice A m c] w fun e w' => e = .returned (.agg (ints (tabL n L)).toArray) ∧ Below w.heap.size w w' := by
  go_enter Try.func106, Try.ntmps106
  have hml := h.len
  have HZ0 := Lib.hid ((Blk.new w 116 Try.zeroCells116).alloc (.cells Try.zeroCells116 116))
  have hz1 := Blk.new (w.alloc (.cells Try.zeroCells116 116)) 116 Try.zeroCells116
  rw [show (w.alloc (.cells Try.zeroCells116 116)).heap.size = w.heap.size + 1 by simp] at hz1
  have HZ1 := Lib.hid hz1
  have HL := Lib.hid ((h.alloc (.cells Try.zeroCells116 116)).alloc (.cells Try.zeroCells116 116))
  have HB := Lib.hid (((Below.refl _ w).alloc (Nat.le_refl _) (.cells Try.zeroCells116 116)).alloc (by simp) (.cells Try.zeroCells116 116))
  have hcs : (Try.zeroCells116.toList.set 0 (.int .i64 n)).toArray = (ints (tZero n)).toArray := by rw [tabZero]; rfl
  have hT0 := TabOk.zero h12
  have hsz0 := tab_size hT0
  have hold : Try.zeroCells116.size = (ints (tZero n)).toArray.size := by rw [tabZero, List.size_toArray, List.size_toArray, ints_length, ints_length, hT0.len]; rfl
  have hone : (ints (tZero n)).toArray.all (·.oneCell') = true := by simp only [List.all_toArray]; exact List.all_eq_true.2 (ints_oneCell' _)
  go_upto_region 2 with (refine wpList_store_row rfl _ (.tmp 5) (.tmp 9) rfl (w.heap.size + 1) (ints (tZero n)).toArray rfl (congrArg Value.agg hcs) _ _ HZ1.out hsz0 hold hone ?_)
  obtain ⟨W, hW⟩ : ∃ W, ((w.alloc (.cells Try.zeroCells116 116)).alloc (.cells Try.zeroCells116 116)).setRow (w.heap.size + 1) (ints (tZero n)).toArray = W := ⟨_, rfl⟩
  have HX : Hid (Blk W (w.heap.size + 1) 116 (ints (tZero n)).toArray) := Lib.hid (by rw [← hW]; exact setRow_heap _ _ _ _ _ _ HZ1.out)
  have HZ : Hid (Blk W w.heap.size 116 Try.zeroCells116) := Lib.hid (by rw [← hW]; exact (setRow_other _ _ _ _ (by omega)).trans HZ0.out)
  have HBW : Hid (Below w.heap.size w W) := Lib.hid (by rw [← hW]; exact below_setRow HB.out (by omega) _)
  have H0 := Lib.hid h
  rw [hW]
  obtain ⟨q, hq⟩ : ∃ q, w.heap.size = q := ⟨_, rfl⟩
  rw [hq] at HX HZ HBW ⊢
  have HQ := Lib.hid hq
  have HOL := Lib.hid hL
  have HML := Lib.hid hml
  have HTB : Hid (∀ j : Nat, j ≤ m → TabOk (12 + 24 * j) (tabTo n L j)) := Lib.hid (fun j hj => TabOk.tab h12 (fun o ho => okOrd_len (hL o ho)) j (by omega))
  clear hW hq hz1 HZ0 HZ1 HL HB hcs hT0 hsz0 hold hone h hL hml
  go_wp2_with fail
  go_loopw [12] (fun i wr => ∃ j : Nat, j ≤ m ∧ i = .int .i64 j ∧ Blk wr (q + 1) 116 (ints (tabTo n L j)).toArray ∧ Blk wr q 116 Try.zeroCells116 ∧ Below q w wr) (fun i _ => m - (intOf i).toNat)
  case atStart => exact ⟨0, by omega, rfl, HX.out, HZ.out, HBW.out⟩
  case round =>
    obtain ⟨j, hj, rfl, hx, hz, hb⟩ := hrel
    have HXJ := Lib.hid hx
    have HZJ := Lib.hid hz
    have HBJ := Lib.hid hb
    have HLJ := Lib.hid (H0.out.below (by rw [HQ.out]; exact hb))
    have hqr := hx.lt
    clear hx hz hb HX HZ HBW
    have HTJ := Lib.hid (HTB.out j hj)
    by_cases hjm : j < m
    · obtain ⟨ad, B, k, d, o, rfl, hadb, ho, hro, hcell⟩ := HLJ.out.at_ hjm
      have hok := HOL.out o (List.mem_of_getElem? ho.out)
      have HRO := Lib.hid hro
      have hkn : k ≤ 12 := by have := hro.len; have := okOrd_len hok; omega
      have HO12 : Hid (∀ v ∈ o, 0 ≤ v ∧ v < 12) := Lib.hid (fun v hv => by have := okOrd_mem hok v hv; omega)
      have HSUC : Hid (tabTo n L (j + 1) = wAll o (tabTo n L j)) := Lib.hid (tabTo_succ ho.out)
      have HTN : Hid (TabOk (12 + 24 * ((j + 1 : Nat) : Int)) (wAll o (tabTo n L j))) := Lib.hid (by rw [← HSUC.out]; exact HTB.out (j + 1) hjm)
      obtain ⟨E, hE⟩ : ∃ E, tabTo n L j = E := ⟨_, rfl⟩
      rw [hE] at HXJ HTJ HSUC HTN
      have hszE := tab_size HTJ.out
      have hszN := tab_size HTN.out
      have hold : (ints E).toArray.size = (ints (wAll o E)).toArray.size := by rw [List.size_toArray, List.size_toArray, ints_length, ints_length, HTJ.out.len, HTN.out.len]
      have hone : (ints (wAll o E)).toArray.all (·.oneCell') = true := by simp only [List.all_toArray]; exact List.all_eq_true.2 (ints_oneCell' _)
      have hw0 : (0 : Int) ≤ 12 + 24 * j := by omega
      have hw1 : (12 : Int) + 24 * j ≤ 1000000 := by omega
      have HWC := Lib.hid (with_any (12 + 24 * j) E o B k d wr HTJ.out HRO.out hw0 hw1 hkn HO12.out)
      clear hE hok hro
      go_wp2_with (first
        | (refine wpList_load_row rfl _ (.tmp 5) rfl (q + 1) rfl _ _ _ _ HXJ.out Try.underlying116 rfl hszE ?_)
        | (go_at_call 111; refine HWC.out.mono ?_; rintro e w2 ⟨rfl, b2⟩; have HX2 := Lib.hid (HXJ.out.below b2); have HZ2 := Lib.hid (HZJ.out.below b2); have HB2 := Lib.hid (HBJ.out.trans (b2.mono (by omega))))
        | (refine wpList_store_row rfl _ (.tmp 5) (.tmp 18) rfl (q + 1) (ints (wAll o E)).toArray rfl rfl _ _ HX2.out hszN hold hone ?_))
      go_roundw
      case rel =>
        exact ⟨j + 1, by omega, by go_num, by rw [HSUC.out]; exact setRow_heap _ _ _ _ _ _ HX2.out, (setRow_other _ _ _ _ (by omega)).trans HZ2.out, below_setRow HB2.out (by omega) _⟩
      case measure => simp [intOf]; omega
    · have hjm2 : j = m := by omega
      subst hjm2
      have HWE : Hid (tabTo n L j = tabL n L) := Lib.hid (by unfold tabL; rw [HML.out])
      rw [HWE.out] at HXJ HTJ
      have hszE := tab_size HTJ.out
      have hold : Try.zeroCells116.size = (ints (tabL n L)).toArray.size := by rw [tabZero, List.size_toArray, List.size_toArray, ints_length, ints_length, HTJ.out.len]; rfl
      have hone : (ints (tabL n L)).toArray.all (·.oneCell') = true := by simp only [List.all_toArray]; exact List.all_eq_true.2 (ints_oneCell' _)
      go_wp2_with (first | (refine wpList_load_row rfl _ (.tmp 5) rfl (q + 1) rfl _ _ _ _ HXJ.out Try.underlying116 rfl hszE ?_) | (refine wpList_store_row rfl _ (.tmp 4) (.tmp 20) rfl q (ints (tabL n L)).toArray rfl rfl _ _ HZJ.out hszE hold hone ?_))
      exact bodyPost_ret (v := .agg (ints (tabL n L)).toArray) (results_cell_row rfl _ _ q 116 _ (0, 0) _ rfl (setRow_heap wr q _ _ _ _ HZJ.out) Try.underlying116 rfl hszE) rfl ⟨rfl, by rw [HQ.out]; exact below_setRow HBJ.out (Nat.le_refl _) _⟩
end Go.Proofs.Ytcmacejpoihhlaa
