/- Walk: a stock made of numbers. Plain law: courses, and what counting tells along one. -/
import Derived.Test.YtcmacejpoihhlaaMgF
import Derived.Test.YtcmacejpoihhlaaMgE
import Derived.Test.YtcmacejpoihhlaaMgH
namespace Go.Proofs.Ytcmacejpoihhlaa
open Go.RowKit

theorem stk_of {w : World} {g : Nat} {A : Option Addr} {k c : Nat} {d : Int} (h : Blk w g 24 #[.slice A k c, .int .i64 d]) : w.cell? ⟨g, 0, none⟩ = some (.slice A k c) ∧ w.frozen? ⟨g, 0, none⟩ = false :=
  ⟨by rw [h.cell]; rfl, h.frozen 0⟩
theorem Blk.below2 {w w' : World} {g B : Nat} {t : TypeId} {cs : Array Value} (h : Blk w g t cs) (hb : Below B w w') (hg : g < B) : Blk w' g t cs := (hb.block g hg).trans h
/-- a stock of the callee's own, the box g turned: its bounds -/
def StockMade (kinds count draw : Nat) (g : Nat) (w : World) (e : Ending) (w' : World) : Prop :=
  ∃ (A : Option Addr) (n c : Nat) (l : List Int) (d : Nat), e = .returned (.agg #[.slice A n c, .int .i64 d]) ∧ (1 ≤ n ∧ n ≤ kinds ∧ 1 ≤ d ∧ d ≤ draw ∧ (d : Int) ≤ sumI l) ∧ (∀ x ∈ l, 1 ≤ x ∧ x ≤ count) ∧ OwnI w' w.heap.size 3 A n c l ∧ Spun g w w'

set_option maxHeartbeats 2000000 in
set_option maxRecDepth 100000 in
theorem stockOf_any (g kinds count draw : Nat) (w : World) (h : IsBox w g) (hk1 : 1 ≤ kinds) (hk6 : kinds ≤ 6) (hc1 : 1 ≤ count) (hc9 : count ≤ 9) (hd1 : 1 ≤ draw) (hd9 : draw ≤ 9) :
    Calls Try.prog 21 #[.pointer (some ⟨g, 0, none⟩), .int .i64 kinds, .int .i64 count, .int .i64 draw] w (StockMade kinds count draw g w) := by
  have hgl := h.lt
  go_enter Try.func21, Try.ntmps21
  go_upto_region 3 with fail
  have HBX := Lib.hid ((h.alloc (.cells #[.slice none 0 0, .int .i64 0] 24)).alloc (.cells #[.slice none 0 0, .int .i64 0] 24))
  have HB := Lib.hid (((Below.refl _ w).alloc (Nat.le_refl _) (.cells #[.slice none 0 0, .int .i64 0] 24)).alloc (by simp) (.cells #[.slice none 0 0, .int .i64 0] 24))
  have hx0 := (Blk.new w 24 #[.slice none 0 0, .int .i64 0]).alloc (.cells #[.slice none 0 0, .int .i64 0] 24)
  have hx1 := Blk.new (w.alloc (.cells #[.slice none 0 0, .int .i64 0] 24)) 24 #[.slice none 0 0, .int .i64 0]
  rw [show (w.alloc (.cells #[.slice none 0 0, .int .i64 0] 24)).heap.size = w.heap.size + 1 by simp] at hx1
  have hsz : ((w.alloc (.cells #[.slice none 0 0, .int .i64 0] 24)).alloc (.cells #[.slice none 0 0, .int .i64 0] 24)).heap.size = w.heap.size + 2 := by simp
  have HX0 := Lib.hid hx0
  have HX1 := Lib.hid hx1
  clear hx0 hx1
  generalize (w.alloc (.cells #[.slice none 0 0, .int .i64 0] 24)).alloc (.cells #[.slice none 0 0, .int .i64 0] 24) = W at HBX HB HX0 HX1 hsz ⊢
  have HSP : Hid (Spun g w W) := Lib.hid ⟨HBX.out, grown_of_below HB.out _⟩
  clear HB h
  go_wp2_with fail
  refine (any_any g 1 kinds W HBX.out (by omega) (by omega) (by omega) (by omega)).mono ?_; rintro e w1 ⟨k, rfl, hk0, hk2, hst⟩
  obtain ⟨k, rfl⟩ : ∃ k' : Nat, k = k' := ⟨k.toNat, by omega⟩
  have hkk : 1 ≤ k ∧ k ≤ kinds := by omega
  have HX01 : Hid (Blk w1 w.heap.size 24 #[.slice none 0 0, .int .i64 0]) := Lib.hid (HX0.out.grown hst.grown (fun e => by injection e with e; omega))
  have HX11 : Hid (Blk w1 (w.heap.size + 1) 24 #[.slice none 0 0, .int .i64 0]) := Lib.hid (HX1.out.grown hst.grown (fun e => by injection e with e; omega))
  have HSP1 := Lib.hid (HSP.out.trans hst.spun)
  have hsz1 : w.heap.size + 2 ≤ w1.heap.size := by rw [hst.size]; omega
  clear hst hk0 hk2 HX0 HX1 HSP HBX hsz
  go_wp2_with fail
  go_loopw [10, 11] (fun s i wr => ∃ (j : Nat) (L : List Int) (A : Option Addr) (c : Nat), j ≤ k ∧ i = .int .i64 ((k : Int) - j) ∧ s = .int .i64 (sumI L) ∧ (∀ x ∈ L, 1 ≤ x ∧ x ≤ (count : Int)) ∧ Blk wr (w.heap.size + 1) 24 #[.slice A j c, .int .i64 0] ∧ OwnI wr (w.heap.size + 2) 3 A j c L ∧ Blk wr w.heap.size 24 #[.slice none 0 0, .int .i64 0] ∧ w.heap.size + 2 ≤ wr.heap.size ∧ Spun g w wr) (fun _ i _ => (intOf i).toNat)
  case atStart => exact ⟨0, [], none, 0, by omega, by simp, rfl, by simp, HX11.out, OwnI.nil_ _ _ _, HX01.out, hsz1, HSP1.out⟩
  case round =>
    obtain ⟨j, L, A, c, hj, rfl, rfl, hL, hblk, hown, hz, hszr, hsp⟩ := hrel
    have HLB := Lib.hid hL
    have HBK := Lib.hid hblk
    have HO := Lib.hid hown
    have HZ := Lib.hid hz
    have HSPR := Lib.hid hsp
    have hll := hown.len
    have hsb := sumI_bd (B := 9) L (fun x hx => by have := hL x hx; omega)
    rw [hll] at hsb
    obtain ⟨s, hs⟩ : ∃ s, sumI L = s := ⟨_, rfl⟩
    rw [hs] at hsb ⊢
    have HS := Lib.hid hs
    have HLL := Lib.hid hll
    clear hL hblk hown hz hsp hs hll HX01 HX11 HSP1
    by_cases hlt : j < k
    · obtain ⟨ct, hct⟩ : ∃ ct : Int, (k : Int) - j = ct := ⟨_, rfl⟩
      have hct0 : 0 < ct := by omega
      have hct6 : ct ≤ 6 := by omega
      have HCT : Hid (ct - 1 = (k : Int) - ((j + 1 : Nat) : Int) ∧ ct ≤ 6) := Lib.hid (by omega)
      rw [hct]
      clear hct
      go_upto_region 6 with fail
      have hq0 := stk_of HBK.out
      have hgne : g ≠ w.heap.size + 1 := by omega
      have hA : ∀ b, A.map (·.block) = some b → w.heap.size + 2 ≤ b := fun b hb => (HO.out.1.block hb).1
      have hAg : A.map (·.block) = none ∨ A.map (·.block) ≠ some g := by
        cases e : A.map (·.block) with
        | none => exact .inl rfl
        | some b => exact .inr (fun e2 => by injection e2 with e2; have := hA b e; omega)
      have hXg : some (w.heap.size + 1) ≠ some g := fun e => by injection e with e; omega
      have hj6 : j + 1 ≤ 1000000 := by omega
      have hv9 : ∀ v : Int, 1 ≤ v → (v ≤ (count : Int) ∨ v = 1) → I64 v ∧ 1 ≤ v ∧ v ≤ (count : Int) := fun v h1 h2 => ⟨I64.small (by omega), h1, by omega⟩
      have HVV := Lib.hid hv9
      have HAG := Lib.hid (And.intro hAg hXg)
      clear hA hAg hXg hv9
      have hc0 := hq0.1
      have hf0 := hq0.2
      clear hq0
      go_region_law (first
        | (refine step_appI1 w2 (by rfl) (.tmp 20) (.tmp 24) (by rfl) (v := v) _ (by rfl) (by rfl) HO2.out HV.out.1 hj6 hsz2 ?_; intro A' c' w3 hown hgrow hbel; have HX3 := Lib.hid (HX2.out.below2 hbel (Nat.lt_succ_self _)); have hc4 := (stk_of HX3.out).1; have hf4 := (stk_of HX3.out).2)
        | (go_simp; go_at_call 26; refine (any_any g 1 count wr.drew HSPR.out.box.drew (by omega) (by omega) (by omega) (by omega)).mono ?_; rintro e w2 ⟨v, rfl, hv0, hv1, hst⟩; have HX2 := Lib.hid (HBK.out.drew.grown hst.grown HAG.out.2); have HO2 := Lib.hid (HO.out.drew.grown hst.grown HAG.out.1); have hsz2 := Nat.le_trans hszr hst.grown.size; have HV := Lib.hid (HVV.out v hv0 hv1); have HST := Lib.hid hst; have hc2 := (stk_of HX2.out).1; have hc3 := (stk_of (HX2.out.alloc (.cells #[.int .i64 v] 3))).1; clear hst))
      all_goals
        have hA'b : ∀ b, A'.map (·.block) = some b → w.heap.size + 2 ≤ b := fun b hb => (hown.1.block hb).1
        have HX4 := Lib.hid (HX3.out.set_ 0 (.slice A' (j + 1) c'))
        have HO4 := Lib.hid (hown.far (p := ⟨w.heap.size + 1, 0, none⟩) (fun e => by have := hA'b _ e; simp at this) (.slice A' (j + 1) c'))
        have HZ4 := Lib.hid (((HZ.out.drew.grown HST.out.grown (fun e => by injection e with e; omega)).below2 hbel (by omega)).far (p := ⟨w.heap.size + 1, 0, none⟩) (by simp) (.slice A' (j + 1) c'))
        have HSP4 : Hid (Spun g w (w3.setCell ⟨w.heap.size + 1, 0, none⟩ (.slice A' (j + 1) c'))) := Lib.hid (((HSPR.out.then_ ((Below.refl _ wr).drew)).trans HST.out.spun).below_ ((hbel.mono (Nat.le_add_right _ 2)).setCell (p := ⟨w.heap.size + 1, 0, none⟩) (by simp) _) hgl)
        have hsz4 : w.heap.size + 2 ≤ (w3.setCell ⟨w.heap.size + 1, 0, none⟩ (.slice A' (j + 1) c')).heap.size := by have := hbel.size; simp [World.setCell]; omega
        clear hA'b hown hgrow hbel HX3 hc4 hf4 HX2 HO2 hc2 hc3 HST HZ HBK HO HAG hc0 hf0 HSPR hszr hsz2
        generalize w3.setCell ⟨w.heap.size + 1, 0, none⟩ (.slice A' (j + 1) c') = w4 at HX4 HO4 HZ4 HSP4 hsz4 ⊢
        obtain ⟨g', rfl, _, _⟩ := HO4.out.form (Nat.succ_pos _)
        have k0 : w4.cell? ⟨w.heap.size + 1, 0, none⟩ = some (.slice (some ⟨g', 0, none⟩) (j + 1) c') := by rw [HX4.out.cell]; rfl
        have k1 : w4.cell? ⟨g', j, none⟩ = some (.int .i64 v) := HO4.out.cellAt (by rw [List.getElem?_append_right (by rw [HLL.out]; omega), HLL.out, Nat.sub_self]; rfl)
        have hv1 := HV.out.2
        have HSS : Hid (sumI (L ++ [v]) = s + v) := Lib.hid (by rw [sumI_snoc, HS.out])
        have HLV : Hid (∀ x ∈ L ++ [v], 1 ≤ x ∧ x ≤ (count : Int)) := Lib.hid (fun x hx => by
          rcases List.mem_append.1 hx with hx | hx
          · exact HLB.out x hx
          · simp at hx; subst hx; exact hv1)
        have hj9 : j + 1 ≤ 6 := by omega
        have e1 : ((j + 1 : Nat) : Int) - 1 = j := by omega
        go_wp2
        go_roundw
        case rel => exact ⟨j + 1, L ++ [v], some ⟨g', 0, none⟩, c', by omega, by rw [HCT.out.1], by rw [HSS.out], HLV.out, HX4.out, HO4.out, HZ4.out, hsz4, HSP4.out⟩
        case measure => simp [intOf]; omega
    · obtain rfl : j = k := by omega
      rw [Int.sub_self]
      have HSB : Hid (0 ≤ s ∧ s ≤ 54) := Lib.hid (by omega)
      have hs1 : 1 ≤ s := by
        rw [← HS.out]
        have h0 := sum_ge_mem (c := L) (fun x hx => by have := HLB.out x hx; omega) (L.getD 0 0) (getD_mem (by rw [HLL.out]; omega))
        have h1 := HLB.out _ (getD_mem (l := L) (i := 0) (by rw [HLL.out]; omega))
        omega
      have HMC : Hid (∀ (m : Int) W', IsBox W' g → 1 ≤ m → m ≤ 60 → Calls Try.prog 26 #[.pointer (some ⟨g, 0, none⟩), .int .i64 1, .int .i64 m] W' (Anyed 1 m g W')) := Lib.hid (fun m W' h' h1 h2 => any_any g 1 m W' h' (by omega) (by omega) (by omega) (by omega))
      have HS54 : Hid (1 ≤ s ∧ s ≤ 60 ∧ (1 : Int) ≤ draw ∧ (draw : Int) ≤ 60) := Lib.hid (by omega)
      go_upto_region 8 with fail
      have hA : ∀ b, A.map (·.block) = some b → w.heap.size + 2 ≤ b := fun b hb => (HO.out.1.block hb).1
      have hAg : A.map (·.block) = none ∨ A.map (·.block) ≠ some g := by
        cases e : A.map (·.block) with
        | none => exact .inl rfl
        | some b => exact .inr (fun e2 => by injection e2 with e2; have := hA b e; omega)
      have HAG := Lib.hid (And.intro hAg hA)
      have hc1 : wr.cell? ⟨w.heap.size + 1, 1, none⟩ = some (.int .i64 0) := by rw [HBK.out.cell]; rfl
      have hf1 := HBK.out.frozen 1
      clear hA hAg
      go_wp2_with fail
      all_goals first
        | (with_reducible refine (HMC.out s wr HSPR.out.box HS54.out.1 HS54.out.2.1).mono ?_)
        | (with_reducible refine (HMC.out draw wr HSPR.out.box HS54.out.2.2.1 HS54.out.2.2.2).mono ?_)
      all_goals rintro e w2 ⟨v, rfl, hv0, hv1, hst⟩
      all_goals
       obtain ⟨d, rfl⟩ : ∃ d : Nat, v = d := ⟨v.toNat, by omega⟩
       have HD : Hid (1 ≤ d ∧ d ≤ draw ∧ (d : Int) ≤ s) := Lib.hid (by omega)
       have HX2 := Lib.hid (HBK.out.grown hst.grown (fun e => by injection e with e; omega))
       have HO2 := Lib.hid (HO.out.grown hst.grown HAG.out.1)
       have HZ2 := Lib.hid (HZ.out.grown hst.grown (fun e => by injection e with e; omega))
       have hsz2 := Nat.le_trans hszr hst.grown.size
       have HST := Lib.hid hst
       have hc2 : w2.cell? ⟨w.heap.size + 1, 1, none⟩ = some (.int .i64 0) := by rw [HX2.out.cell]; rfl
       have hf2 := HX2.out.frozen 1
       clear hst hc1 hf1
       go_upto_region 9 with fail
       have HX3 := Lib.hid (HX2.out.set_ 1 (.int .i64 (d : Int)))
       have HO3 := Lib.hid (HO2.out.far (p := ⟨w.heap.size + 1, 1, none⟩) (fun e => by have := HAG.out.2 _ e; simp at this) (.int .i64 (d : Int)))
       have HZ3 := Lib.hid (HZ2.out.far (p := ⟨w.heap.size + 1, 1, none⟩) (by simp) (.int .i64 (d : Int)))
       have HSP3 : Hid (Spun g w (w2.setCell ⟨w.heap.size + 1, 1, none⟩ (.int .i64 (d : Int)))) := Lib.hid ((HSPR.out.trans HST.out.spun).below_ ((Below.refl w.heap.size w2).setCell (p := ⟨w.heap.size + 1, 1, none⟩) (by simp) _) hgl)
       clear HX2 HO2 HZ2 HST hc2 hf2 hsz2 HBK HO HZ HSPR HMC HAG
       generalize w2.setCell ⟨w.heap.size + 1, 1, none⟩ (.int .i64 (d : Int)) = w3 at HX3 HO3 HZ3 HSP3 ⊢
       have k0 : w3.cell? ⟨w.heap.size + 1, 0, none⟩ = some (.slice A j c) := by rw [HX3.out.cell]; rfl
       have k1 : w3.cell? ⟨w.heap.size + 1, 1, none⟩ = some (.int .i64 d) := by rw [HX3.out.cell]; rfl
       have z0 : w3.cell? ⟨w.heap.size, 0, none⟩ = some (.slice none 0 0) := by rw [HZ3.out.cell]; rfl
       have z1 : w3.cell? ⟨w.heap.size, 1, none⟩ = some (.int .i64 0) := by rw [HZ3.out.cell]; rfl
       have f0 := HZ3.out.frozen 0
       have f1 := HZ3.out.frozen 1
       have HXF := Lib.hid ((HZ3.out.set_ 0 (.slice A j c)).set_ 1 (.int .i64 (d : Int)))
       have HOF := Lib.hid (((HO3.out.far (p := ⟨w.heap.size, 0, none⟩) (fun e => by have h : w.heap.size + 2 ≤ w.heap.size := (HO3.out.1.block e).1; omega) (.slice A j c)).far (p := ⟨w.heap.size, 1, none⟩) (fun e => by have h : w.heap.size + 2 ≤ w.heap.size := (HO3.out.1.block e).1; omega) (.int .i64 (d : Int))).mono (Nat.le_add_right _ 2))
       have HSF : Hid (Spun g w ((w3.setCell ⟨w.heap.size, 0, none⟩ (.slice A j c)).setCell ⟨w.heap.size, 1, none⟩ (.int .i64 (d : Int)))) := Lib.hid (HSP3.out.below_ (((Below.refl w.heap.size w3).setCell (p := ⟨w.heap.size, 0, none⟩) (Nat.le_refl _) _).setCell (p := ⟨w.heap.size, 1, none⟩) (Nat.le_refl _) _) hgl)
       go_wp2
       exact bodyPost_ret (v := .agg #[.slice A j c, .int .i64 d]) (results_cell_row rfl _ _ w.heap.size 24 _ (0, 0) _ rfl HXF.out Try.underlying24 rfl (by kernel_rfl)) rfl ⟨A, j, c, L, d, rfl, ⟨hkk.1, hkk.2, HD.out.1, HD.out.2.1, by rw [HS.out]; exact HD.out.2.2⟩, HLB.out, HOF.out, HSF.out⟩

/-! ### The numbers from 0 on, in some order -/
def rangeI (n : Nat) : List Int := (List.range n).map Int.ofNat
theorem rangeI_succ (n : Nat) : rangeI (n + 1) = rangeI n ++ [(n : Int)] := by unfold rangeI; rw [List.range_succ, List.map_append]; rfl
theorem rangeI_len (n : Nat) : (rangeI n).length = n := by simp [rangeI]
theorem rangeI_mem {n : Nat} {v : Int} : v ∈ rangeI n ↔ 0 ≤ v ∧ v < n := mem_rangeI
theorem swap_perm {l : List Int} {i j : Nat} {u v : Int} (hi : l[i]? = some u) (hj : l[j]? = some v) : ((l.set i v).set j u).Perm l := by
  obtain ⟨hi', rfl⟩ := List.getElem?_eq_some_iff.1 hi
  obtain ⟨hj', rfl⟩ := List.getElem?_eq_some_iff.1 hj
  exact List.set_set_perm hi' hj'
/-- an order of the callee's own, the box g turned -/
def Ordered (n g : Nat) (w : World) (e : Ending) (w' : World) : Prop :=
  ∃ (A : Option Addr) (c : Nat) (L : List Int), e = .returned (.slice A n c) ∧ L.Perm (rangeI n) ∧ OwnI w' w.heap.size 3 A n c L ∧ Spun g w w'

set_option maxHeartbeats 1000000 in
set_option maxRecDepth 100000 in
theorem order_any (g n : Nat) (w : World) (h : IsBox w g) (hn : n ≤ 1000) : Calls Try.prog 39 #[.pointer (some ⟨g, 0, none⟩), .int .i64 n] w (Ordered n g w) := by
  have hgl := h.lt
  have HBX := Lib.hid h
  clear h
  go_enter Try.func39, Try.ntmps39
  go_wp2
  go_loopw [5, 6] (fun s i wr => ∃ (j : Nat) (L : List Int) (A : Option Addr) (c : Nat), j ≤ n ∧ i = .int .i64 j ∧ s = .slice A j c ∧ L.Perm (rangeI j) ∧ OwnI wr w.heap.size 3 A j c L ∧ Spun g w wr) (fun _ i _ => n - (intOf i).toNat)
  case atStart => exact ⟨0, [], none, 0, by omega, rfl, rfl, List.Perm.refl _, OwnI.nil_ _ _ _, ⟨HBX.out, World.grownBy.refl _ _⟩⟩
  case round =>
    obtain ⟨j, L, A, c, hj, rfl, rfl, hp, hown, hsp⟩ := hrel
    have HP := Lib.hid hp
    have HO := Lib.hid hown
    have HSP := Lib.hid hsp
    clear hp hown hsp HBX
    by_cases hlt : j < n
    · have hAg : A.map (·.block) = none ∨ A.map (·.block) ≠ some g := by
        cases e : A.map (·.block) with
        | none => exact .inl rfl
        | some b => exact .inr (fun e2 => by injection e2 with e2; have := (HO.out.1.block e).1; omega)
      have HAG := Lib.hid hAg
      have hj1 : ((j : Int) + 1) ≤ 1000 := by omega
      clear hAg
      go_wp2_with fail
      refine (up_any g ((j : Int) + 1) wr HSP.out.box (by omega) (by omega)).mono ?_; rintro e w2 ⟨v, rfl, hv0, hv1, hst⟩
      obtain ⟨v, rfl⟩ : ∃ v' : Nat, v = v' := ⟨v.toNat, by omega⟩
      have hvj : v ≤ j := by omega
      have HO2 := Lib.hid (HO.out.grown hst.grown HAG.out)
      have HSP2 := Lib.hid (HSP.out.trans hst.spun)
      have hsz2 : w.heap.size ≤ w2.heap.size := HSP2.out.grown.size
      clear hst hv1 hv0 HO HSP HAG
      go_upto_region 7 with (at_builtin; go_must (refine wpList_appI1 w2 rfl (.tmp 17) (.tmp 19) rfl (v := (j : Int)) _ rfl rfl HO2.out (I64.small (by omega)) (by omega) hsz2 ?_); intro A' c' w3 kk; have KK := Lib.hid kk; clear kk)
      have HO3 := Lib.hid KK.out.own
      have HSP3 := Lib.hid (HSP2.out.below_ KK.out.below hgl)
      clear KK HO2 HSP2
      obtain ⟨g', rfl, hg', _⟩ := HO3.out.form (Nat.succ_pos _)
      have hll : (L ++ [(j : Int)]).length = j + 1 := HO3.out.len
      obtain ⟨x, hx⟩ : ∃ x, (L ++ [(j : Int)])[v]? = some x := ⟨_, get_getD (by rw [hll]; omega)⟩
      obtain ⟨y, hy⟩ : ∃ y, (L ++ [(j : Int)])[j]? = some y := ⟨_, get_getD (by rw [hll]; omega)⟩
      have k0 := HO3.out.cellAt hx
      have k1 := HO3.out.cellAt hy
      have f0 := HO3.out.frozenAt v
      have f1 := HO3.out.frozenAt j
      have HI := Lib.hid (And.intro (HO3.out.2 x (List.mem_of_getElem? hx)) (HO3.out.2 y (List.mem_of_getElem? hy)))
      have HPP : Hid ((((L ++ [(j : Int)]).set j x).set v y).Perm (rangeI (j + 1))) := Lib.hid ((swap_perm hy hx).trans (by rw [rangeI_succ]; exact HP.out.append_right _))
      have HGG := Lib.hid hg'
      have HXY : Hid (v = j → x = y) := Lib.hid (fun e => by subst e; rw [hx] at hy; injection hy)
      have hvj2 : v < j + 1 := by omega
      have hjj2 : j < j + 1 := by omega
      clear hx hy hll hg'
      have HF : Hid (∀ w4, w4 = ((w3.setCell ⟨g', j, none⟩ (.int .i64 x)).setCell ⟨g', v, none⟩ (.int .i64 y)).drew → OwnI w4 w.heap.size 3 (some ⟨g', 0, none⟩) (j + 1) c' (((L ++ [(j : Int)]).set j x).set v y) ∧ Spun g w w4) := Lib.hid (fun w4 e => by
        subst e
        exact ⟨((HO3.out.stored j HI.out.1).stored v HI.out.2).drew, HSP3.out.below_ ((((Below.refl w.heap.size w3).setCell (p := ⟨g', j, none⟩) HGG.out _).setCell (p := ⟨g', v, none⟩) HGG.out _).drew) hgl⟩)
      by_cases hvj3 : v = j
      · obtain rfl := HXY.out hvj3
        subst hvj3
        go_region
        go_wp2
        go_roundw
        case rel => exact ⟨v + 1, _, _, c', by omega, by go_num, rfl, HPP.out, (HF.out _ rfl).1, (HF.out _ rfl).2⟩
        case measure => simp [intOf]; omega
      · have hvj4 : v < j := by omega
        clear hvj3
        go_region
        go_wp2
        go_roundw
        case rel => exact ⟨j + 1, _, _, c', by omega, by go_num, rfl, HPP.out, (HF.out _ rfl).1, (HF.out _ rfl).2⟩
        case measure => simp [intOf]; omega
    · obtain rfl : j = n := by omega
      go_wp2
      go_ret
      exact ⟨A, c, L, rfl, HP.out, HO.out, HSP.out⟩
end Go.Proofs.Ytcmacejpoihhlaa

namespace Go.Proofs.Ytcmacejpoihhlaa
open Go.RowKit

/-! ### All packets, kind by kind -/
def packTo (c : List Int) : Nat → List Int
  | 0 => []
  | k + 1 => packTo c k ++ List.replicate (c.getD k 0).toNat (k : Int)
theorem packTo_len {c : List Int} (h : ∀ x ∈ c, 0 ≤ x) (k : Nat) (hk : k ≤ c.length) : ((packTo c k).length : Int) = sumI (c.take k) := by
  induction k with
  | zero => simp [packTo]
  | succ k ih =>
    have h0 := h _ (getD_mem (l := c) (i := k) (by omega))
    rw [take_of_get (get_getD (l := c) (i := k) (by omega)), sumI_snoc, ← ih (by omega)]
    simp only [packTo, List.length_append, List.length_replicate]
    omega
theorem packTo_all {c : List Int} (h : ∀ x ∈ c, 0 ≤ x) : ((packTo c c.length).length : Int) = sumI c := by
  rw [packTo_len h _ (Nat.le_refl _), List.take_length]
theorem packTo_count (c : List Int) (m k : Nat) : (packTo c k).countP (fun x => x.toNat == m) = if m < k then (c.getD m 0).toNat else 0 := by
  induction k with
  | zero => simp [packTo]
  | succ k ih =>
    simp only [packTo]
    rw [List.countP_append, ih, List.countP_replicate]
    by_cases h1 : m < k
    · rw [if_pos h1, if_neg (by simp; omega), if_pos (by omega)]; rfl
    · rw [if_neg h1]
      by_cases h2 : k = m
      · subst h2; rw [if_pos (by simp), if_pos (by omega)]; omega
      · rw [if_neg (by simp; omega), if_neg (by omega)]
theorem packTo_mem {c : List Int} {k : Nat} : ∀ x ∈ packTo c k, 0 ≤ x ∧ x < k := by
  induction k with
  | zero => simp [packTo]
  | succ k ih =>
    intro x hx
    simp only [packTo] at hx
    rcases List.mem_append.1 hx with hx | hx
    · have := ih x hx; omega
    · rw [(List.mem_replicate.1 hx).2]; omega

/-- a course: some packets of the stock, in some order -/
structure CourseOk (c : List Int) (d : Nat) (L : List Int) : Prop where
  len : L.length = d
  mem : ∀ k ∈ L, 0 ≤ k ∧ k < c.length
  cnt : ∀ m, L.countP (fun x => x.toNat == m) ≤ (c.getD m 0).toNat
theorem course_ok {c Q : List Int} {d : Nat} (hp : Q.Perm (packTo c c.length)) (hd : d ≤ Q.length) : CourseOk c d (Q.take d) := by
  refine ⟨by simp; omega, fun k hk => ?_, fun m => ?_⟩
  · have := packTo_mem k (hp.mem_iff.1 (List.mem_of_mem_take hk)); omega
  · have h1 : (Q.take d).countP (fun x => x.toNat == m) ≤ Q.countP fun x => x.toNat == m := countP_take_le Q m d
    have h2 := hp.countP_eq (fun x => x.toNat == m)
    rw [packTo_count] at h2
    split at h2 <;> omega
/-- the numbers at the places of an order -/
theorem perm_pick {O l : List Int} (h : O.Perm (rangeI l.length)) : (O.map fun i => l.getD i.toNat 0).Perm l := by
  have h1 := h.map (fun i : Int => l.getD i.toNat 0)
  have h2 : (rangeI l.length).map (fun i : Int => l.getD i.toNat 0) = l := by
    apply List.ext_getElem?
    intro j
    unfold rangeI
    rw [List.map_map, List.getElem?_map]
    by_cases hj : j < l.length
    · rw [List.getElem?_range hj]
      simp only [Option.map_some, Function.comp]
      rw [show (Int.ofNat j).toNat = j from rfl, get_getD hj]
    · rw [List.getElem?_eq_none (by simp; omega), List.getElem?_eq_none (by omega)]; rfl
  rwa [h2] at h1

/-! ### Along a course -/
theorem inK_course {c L : List Int} {d : Nat} (h : CourseOk c d L) (i : Nat) : inK c (L.take i) = true := by
  unfold inK
  rw [List.all_eq_true]
  intro k hk
  have := h.mem k (List.mem_of_mem_take hk)
  simp; omega
theorem left_course {c L : List Int} {d : Nat} (hc : ∀ x ∈ c, 0 ≤ x) (h : CourseOk c d L) (i : Nat) : ∀ x ∈ leftTo c L i, 0 ≤ x := by
  intro x hx
  obtain ⟨m, hm, rfl⟩ := List.getElem_of_mem hx
  rw [leftTo_len] at hm
  have h1 := left_get (seen := L) i m hm
  rw [getD_of_get (List.getElem?_eq_getElem (by rw [leftTo_len]; exact hm))] at h1
  have h2 := countP_take_le L m i
  have h3 := h.cnt m
  have h4 := hc _ (getD_mem hm)
  omega
theorem leftTo_take2 (c L : List Int) (i : Nat) : leftTo c (L.take i) i = leftTo c L i := by unfold leftTo; rw [List.take_take, Nat.min_self]
theorem negB_course {c L : List Int} {d : Nat} (hc : ∀ x ∈ c, 0 ≤ x) (h : CourseOk c d L) (i : Nat) : negB (leftTo c L i) = false := by
  unfold negB
  rw [List.any_eq_false]
  intro x hx
  have := left_course hc h i x hx
  simp; omega
theorem rest_left {c L : List Int} {d : Nat} (h : CourseOk c d L) (i : Nat) : restTo c (L.take i) i = pad6 (leftTo c L i) := by rw [leftTo_pad (inK_course h i), leftTo_take2]
theorem restE_course {c L : List Int} {d i : Nat} (hz : chkS c d = 0) (h : CourseOk c d L) (hi : i < d) :
    restE c d (L.take i) = (kindsOf (leftTo c L i) c.length, if (kindsOf (leftTo c L i) c.length).length = 1 then (d : Int) - i else 0, 0) := by
  have hk := chkS_ok hz
  have hc : ∀ x ∈ c, 0 ≤ x := fun x hx => by have := okCounts_mem hk.2.2.1 x hx; omega
  have hl : (L.take i).length = i := by have := h.len; simp; omega
  have hn : negB (restTo c (L.take i) (L.take i).length) = false := by rw [hl, rest_left h, negB_pad]; exact negB_course hc h i
  have hr : kindsOf (restTo c (L.take i) (L.take i).length) 6 = kindsOf (leftTo c L i) c.length := by
    rw [hl, rest_left h, kindsOf_pad (by rw [leftTo_len]; omega), leftTo_len]
  unfold restE
  rw [if_neg (by omega), if_neg (by omega), if_neg (by rw [inK_course h]; simp), if_neg (by rw [hn]; simp), if_neg (by omega), hr, hl]
theorem restE_course_end {c L : List Int} {d : Nat} (hz : chkS c d = 0) (h : CourseOk c d L) : restE c d (L.take d) = ([], 0, 0) := by
  have hk := chkS_ok hz
  have hc : ∀ x ∈ c, 0 ≤ x := fun x hx => by have := okCounts_mem hk.2.2.1 x hx; omega
  have hl : (L.take d).length = d := by have := h.len; simp; omega
  have hn : negB (restTo c (L.take d) (L.take d).length) = false := by rw [hl, rest_left h, negB_pad]; exact negB_course hc h d
  unfold restE
  rw [if_neg (by omega), if_neg (by omega), if_neg (by rw [inK_course h]; simp), if_neg (by rw [hn]; simp), if_pos (by omega)]
theorem left_sum {c L : List Int} {d : Nat} (h : CourseOk c d L) (i : Nat) (hi : i ≤ d) : sumI (leftTo c L i) = sumI c - i := by
  induction i with
  | zero => simp [leftTo]
  | succ i ih =>
    have hg := get_getD (l := L) (i := i) (by have := h.len; omega)
    have hm := h.mem _ (getD_mem (l := L) (i := i) (by have := h.len; omega))
    rw [leftTo_succ hg]
    unfold restStep
    rw [sumI_set (by rw [leftTo_len]; omega), ih (by omega)]
    omega
theorem kinds_one {l : List Int} (hp : ∀ x ∈ l, 0 ≤ x) (h : (kindsOf l l.length).length = 1) : ∃ k : Nat, k < l.length ∧ sumI l = l.getD k 0 := by
  match hK : kindsOf l l.length, h with
  | [v], _ =>
    obtain ⟨k, hk, rfl, hpos⟩ := kindsOf_mem.1 (show v ∈ kindsOf l l.length by rw [hK]; simp)
    refine ⟨k, hk, ?_⟩
    have hz : ∀ j, j < l.length → j ≠ k → l.getD j 0 = 0 := by
      intro j hj hne
      by_cases h0 : 0 < l.getD j 0
      · have := kindsOf_mem.2 ⟨j, hj, rfl, h0⟩
        rw [hK] at this
        simp at this; omega
      · have := hp _ (getD_mem hj); omega
    rw [sumI_sumR]
    have key : ∀ n, n ≤ l.length → sumR (fun j => l.getD j 0) n = if k < n then l.getD k 0 else 0 := by
      intro n
      induction n with
      | zero => intro _; rfl
      | succ n ih =>
        intro hn
        rw [sumR_succ, ih (by omega)]
        by_cases h1 : k < n
        · rw [if_pos h1, if_pos (by omega), hz n (by omega) (by omega)]; omega
        · rw [if_neg h1]
          by_cases h2 : n = k
          · subst h2; rw [if_pos (by omega)]; omega
          · rw [if_neg (by omega), hz n (by omega) h2]; rfl
    rw [key _ (Nat.le_refl _), if_pos hk]
theorem left_le {c L : List Int} {i : Nat} (m : Nat) (hm : m < c.length) : (leftTo c L i).getD m 0 ≤ c.getD m 0 := by rw [left_get _ _ hm]; omega
theorem sure_le {c L : List Int} {d i : Nat} (hz : chkS c d = 0) (h : CourseOk c d L) (hi : i < d) (h1 : (kindsOf (leftTo c L i) c.length).length = 1) : (d : Int) - i ≤ mostN c d := by
  have hk := chkS_ok hz
  have hc : ∀ x ∈ c, 0 ≤ x := fun x hx => by have := okCounts_mem hk.2.2.1 x hx; omega
  obtain ⟨k, hk1, hk2⟩ := kinds_one (l := leftTo c L i) (left_course hc h i) (by rw [leftTo_len]; exact h1)
  rw [leftTo_len] at hk1
  have h2 := left_le (L := L) (i := i) k hk1
  have h3 := left_sum h i (by omega)
  have h4 := mxC_ge (getD_mem hk1)
  unfold mostN; omega
theorem kinds_all {l : List Int} (hp : ∀ x ∈ l, 1 ≤ x) : ∀ j, j ≤ l.length → (kindsOf l j).length = j := by
  intro j
  induction j with
  | zero => intro _; rfl
  | succ j ih =>
    intro hj
    have := hp _ (getD_mem (l := l) (i := j) (by omega))
    rw [kindsOf_succ, if_pos (by omega), List.length_append, ih (by omega)]; rfl
theorem mx_lt_sum {c : List Int} (h1 : ∀ x ∈ c, 1 ≤ x) (h2 : 2 ≤ c.length) : mxC c + 1 ≤ sumI c := by
  have hm := mxC_mem (l := c) (by omega) (fun x hx => by have := h1 x hx; omega)
  obtain ⟨k, hk, hke⟩ := List.getElem_of_mem hm
  have hg : c.getD k 0 = mxC c := by rw [getD_of_get (List.getElem?_eq_getElem hk)]; exact hke
  have hs := sumI_set hk 0
  obtain ⟨j, hj, hjk⟩ : ∃ j, j < c.length ∧ j ≠ k := by
    by_cases h0 : k = 0
    · exact ⟨1, by omega, by omega⟩
    · exact ⟨0, by omega, by omega⟩
  have hv : (c.set k 0).getD j 0 = c.getD j 0 := by
    simp only [List.getD_eq_getElem?_getD, List.getElem?_set]
    rw [if_neg (by omega)]
  have h3 := sum_ge_mem (c := c.set k 0) (fun x hx => by
    rcases List.mem_or_eq_of_mem_set hx with hx | rfl
    · have := h1 x hx; omega
    · omega) _ (getD_mem (l := c.set k 0) (i := j) (by rw [List.length_set]; exact hj))
  have h4 := h1 _ (getD_mem hj)
  omega
/-- sure from the start, just if one kind is there -/
theorem sure_start {c L : List Int} {d : Nat} (hz : chkS c d = 0) : (mostN c d = d) ↔ (kindsOf (leftTo c L 0) c.length).length = 1 := by
  have hk := chkS_ok hz
  have hc : ∀ x ∈ c, 1 ≤ x := fun x hx => by have := okCounts_mem hk.2.2.1 x hx; omega
  rw [show leftTo c L 0 = c from rfl, kinds_all hc _ (Nat.le_refl _)]
  constructor
  · intro h
    by_cases h2 : 2 ≤ c.length
    · have := mx_lt_sum hc h2; unfold mostN at h; omega
    · omega
  · intro h
    match c, h, hc, hk with
    | [a], _, hc, hk =>
      have ha := hc a (by simp)
      have : sumI [a] = a := by rw [sumI_cons]; simp
      have h2 : mxC [a] = a := by unfold mxC; simp; omega
      unfold mostN; rw [this, h2]; omega

/-! ### All packets of the other kinds -/
def othTo (c : List Int) (k : Nat) : Nat → List Int
  | 0 => []
  | j + 1 => if j = k then othTo c k j else othTo c k j ++ List.replicate (c.getD j 0).toNat (j : Int)
theorem othTo_mem {c : List Int} {k j : Nat} : ∀ x ∈ othTo c k j, 0 ≤ x ∧ x < j := by
  induction j with
  | zero => simp [othTo]
  | succ j ih =>
    intro x hx
    simp only [othTo] at hx
    split at hx
    · have := ih x hx; omega
    · rcases List.mem_append.1 hx with hx | hx
      · have := ih x hx; omega
      · rw [(List.mem_replicate.1 hx).2]; omega
theorem othTo_count (c : List Int) (k m j : Nat) : (othTo c k j).countP (fun x => x.toNat == m) = if m < j ∧ m ≠ k then (c.getD m 0).toNat else 0 := by
  induction j with
  | zero => simp [othTo]
  | succ j ih =>
    simp only [othTo]
    by_cases hj : j = k
    · rw [if_pos hj, ih]
      by_cases h1 : m < j ∧ m ≠ k
      · rw [if_pos h1, if_pos (by omega)]
      · rw [if_neg h1, if_neg (by omega)]
    · rw [if_neg hj, List.countP_append, ih, List.countP_replicate]
      by_cases h1 : m < j ∧ m ≠ k
      · rw [if_pos h1, if_neg (by simp; omega), if_pos (by omega)]; rfl
      · rw [if_neg h1]
        by_cases h2 : j = m
        · subst h2; rw [if_pos (by simp), if_pos (by omega)]; omega
        · rw [if_neg (by simp; omega), if_neg (by omega)]
theorem othTo_len {c : List Int} (h : ∀ x ∈ c, 0 ≤ x) (k j : Nat) (hj : j ≤ c.length) : ((othTo c k j).length : Int) = sumI (c.take j) - if k < j then c.getD k 0 else 0 := by
  induction j with
  | zero => simp [othTo]
  | succ j ih =>
    have h0 := h _ (getD_mem (l := c) (i := j) (by omega))
    rw [take_of_get (get_getD (l := c) (i := j) (by omega)), sumI_snoc]
    have ih := ih (by omega)
    simp only [othTo]
    by_cases hjk : j = k
    · subst hjk
      rw [if_neg (by omega)] at ih
      rw [if_pos rfl, if_pos (by omega), ih]; omega
    · rw [if_neg hjk, List.length_append, List.length_replicate]
      by_cases h1 : k < j
      · rw [if_pos h1] at ih
        rw [if_pos (by omega)]; omega
      · rw [if_neg h1] at ih
        rw [if_neg (by omega)]; omega
theorem othTo_all {c : List Int} (h : ∀ x ∈ c, 0 ≤ x) {k : Nat} (hk : k < c.length) : ((othTo c k c.length).length : Int) = sumI c - c.getD k 0 := by
  rw [othTo_len h k _ (Nat.le_refl _), List.take_length, if_pos hk]
theorem restE_oth {c : List Int} {d k : Nat} (hz : chkS c d = 0) (hk : k < c.length) (hle : sumI c - c.getD k 0 ≤ d) : ∃ K, restE c d (othTo c k c.length) = (K, (d : Int) - (sumI c - c.getD k 0), 0) := by
  have hok := chkS_ok hz
  have hc1 : ∀ x ∈ c, 1 ≤ x := fun x hx => by have := okCounts_mem hok.2.2.1 x hx; omega
  have hc : ∀ x ∈ c, 0 ≤ x := fun x hx => by have := hc1 x hx; omega
  have hl := othTo_all hc hk
  generalize hS : othTo c k c.length = S at hl
  have hcnt : ∀ m, S.countP (fun x => x.toNat == m) = if m < c.length ∧ m ≠ k then (c.getD m 0).toNat else 0 := fun m => by rw [← hS]; exact othTo_count c k m c.length
  have hin : inK c S = true := by
    unfold inK
    rw [List.all_eq_true]
    intro x hx
    rw [← hS] at hx
    have := othTo_mem x hx
    simp; omega
  have hget : ∀ m, m < c.length → (leftTo c S S.length).getD m 0 = if m = k then c.getD m 0 else 0 := by
    intro m hm
    rw [left_get _ _ hm, List.take_length, hcnt]
    have := hc _ (getD_mem hm)
    by_cases h1 : m = k
    · rw [if_pos h1, if_neg (by omega)]; omega
    · rw [if_neg h1, if_pos (by omega)]; omega
  have hneg : negB (restTo c S S.length) = false := by
    rw [leftTo_pad hin, negB_pad]
    cases e : negB (leftTo c S S.length) with
    | false => rfl
    | true =>
      obtain ⟨m, hm, h1⟩ := negB_yes e
      rw [leftTo_len] at hm
      rw [hget m hm] at h1
      have := hc _ (getD_mem hm)
      split at h1 <;> omega
  by_cases he : (S.length : Int) = d
  · refine ⟨[], ?_⟩
    unfold restE
    rw [if_neg (by omega), if_neg (by omega), if_neg (by rw [hin]; simp), if_neg (by rw [hneg]; simp), if_pos he]
    congr 2; omega
  · have hK : kindsOf (restTo c S S.length) 6 = [(k : Int)] := by
      rw [leftTo_pad hin, kindsOf_pad (by rw [leftTo_len]; omega), leftTo_len]
      have key : ∀ j, j ≤ c.length → kindsOf (leftTo c S S.length) j = if k < j then [(k : Int)] else [] := by
        intro j
        induction j with
        | zero => intro _; rfl
        | succ j ih =>
          intro hj
          have := hc1 _ (getD_mem (l := c) (i := j) (by omega))
          rw [kindsOf_succ, hget j (by omega), ih (by omega)]
          by_cases h1 : j = k
          · subst h1; rw [if_pos rfl, if_pos (by omega), if_neg (by omega), if_pos (by omega)]; rfl
          · rw [if_neg h1, if_neg (by omega)]
            by_cases h2 : k < j
            · rw [if_pos h2, if_pos (by omega)]
            · rw [if_neg h2, if_neg (by omega)]
      rw [key _ (Nat.le_refl _), if_pos hk]
    refine ⟨[(k : Int)], ?_⟩
    unfold restE
    rw [if_neg (by omega), if_neg (by omega), if_neg (by rw [hin]; simp), if_neg (by rw [hneg]; simp), if_neg he, hK, if_pos (show [(k : Int)].length = 1 from rfl), hl]

/-! ### A round of the statement -/
structure CountRound (c L : List Int) (d i : Nat) (K : List Int) (S : Int) (T : Nat → Nat) : Prop where
  ans : restE c d (L.take i) = (K, S, 0)
  t0 : T 0 = 0
  ts : ∀ (k : Nat) v, (leftTo c L i)[k]? = some v → T (k + 1) = if 0 < v ∧ i < d then T k + 1 else T k
  tl : ∀ k, T k ≤ k
  tn : T c.length = K.length
  has : ∀ (k : Nat) v, (leftTo c L i)[k]? = some v → K.contains (k : Int) = (decide (0 < v) && decide (i < d))
  sure : S = if T c.length = 1 then (d : Int) - i else 0
  most : 0 ≤ S ∧ S ≤ mostN c d
  start : i = 0 → ((cntV (mostN c d) d == 1) = (S == d))
theorem cntV_one {m d : Int} : (cntV m d == 1) = (m == d) := by
  unfold cntV
  by_cases h : m = d
  · rw [if_pos h]; simp [h]
  · rw [if_neg h]
    by_cases h0 : m = 0
    · rw [if_pos h0]; simp [h]
    · rw [if_neg h0]; simp [h]
theorem cntV_two {m d : Int} (hd : 1 ≤ d) : (cntV m d == 2) = (m == 0) := by
  unfold cntV
  by_cases h : m = d
  · rw [if_pos h]; simp; omega
  · rw [if_neg h]
    by_cases h0 : m = 0
    · rw [if_pos h0]; simp [h0]
    · rw [if_neg h0]; simp [h0]
theorem count_round {c L : List Int} {d i : Nat} (hz : chkS c d = 0) (h : CourseOk c d L) (hi : i ≤ d) : ∃ K S T, CountRound c L d i K S T := by
  have hk := chkS_ok hz
  have hmb := mostN_bd hz
  by_cases hlt : i < d
  · have hr := restE_course hz h hlt
    refine ⟨kindsOf (leftTo c L i) c.length, _, fun k => (kindsOf (leftTo c L i) k).length, ⟨hr, rfl, ?_, fun k => kindsOf_len _ k, rfl, ?_, rfl, ?_, ?_⟩⟩
    · intro k v hv
      simp only [kindsOf_succ]
      rw [getD_of_get hv]
      by_cases h0 : 0 < v
      · rw [if_pos h0, if_pos ⟨h0, hlt⟩]; simp
      · rw [if_neg h0, if_neg (by omega)]
    · intro k v hv
      have hkl : k < c.length := by have := (List.getElem?_eq_some_iff.1 hv).1; rwa [leftTo_len] at this
      rw [decide_eq_true hlt, Bool.and_true, Bool.eq_iff_iff, List.contains_iff_mem, decide_eq_true_eq, kindsOf_mem]
      constructor
      · rintro ⟨j, hj, e, h0⟩
        have : j = k := by omega
        subst this
        rwa [getD_of_get hv] at h0
      · intro h0
        exact ⟨k, hkl, rfl, by rw [getD_of_get hv]; exact h0⟩
    · by_cases h1 : (kindsOf (leftTo c L i) c.length).length = 1
      · rw [if_pos h1]
        have := sure_le hz h hlt h1
        omega
      · rw [if_neg h1]; omega
    · intro h0
      subst h0
      rw [cntV_one]
      have hs := sure_start (L := L) (d := d) hz
      by_cases h1 : (kindsOf (leftTo c L 0) c.length).length = 1
      · rw [if_pos h1, hs.2 h1]; simp
      · rw [if_neg h1]
        have : ¬ mostN c d = d := fun e => h1 (hs.1 e)
        rw [Bool.eq_iff_iff]; simp only [beq_iff_eq]; omega
  · obtain rfl : i = d := by omega
    have hr := restE_course_end hz h
    refine ⟨[], 0, fun _ => 0, ⟨hr, rfl, ?_, fun k => Nat.zero_le _, rfl, ?_, ?_, by omega, fun h0 => by omega⟩⟩
    · intro k v _; rw [if_neg (by omega)]
    · intro k v _; rw [decide_eq_false hlt, Bool.and_false]; rfl
    · rw [if_neg (by omega)]
end Go.Proofs.Ytcmacejpoihhlaa
