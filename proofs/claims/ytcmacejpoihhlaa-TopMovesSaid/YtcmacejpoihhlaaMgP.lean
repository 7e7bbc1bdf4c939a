/- Walks: a course of a stock, what a list has, and what is known for sure behind all other kinds. -/
import Derived.Test.YtcmacejpoihhlaaMgL
import Derived.Test.YtcmacejpoihhlaaMgN
namespace Go.Proofs.Ytcmacejpoihhlaa
open Go.RowKit

def hasB (l : List Int) (x : Int) : Bool := l.contains x
set_option maxHeartbeats 400000 in
theorem has_any (A : Option Addr) (n c : Nat) (l : List Int) (x : Int) (w : World) (h : RdI w A n l) : Calls Try.prog 53 #[.slice A n c, .int .i64 x] w fun e w' => e = .returned (.bool (hasB l x)) ∧ w' = w := by
  have hlen := h.len
  have hbd := h.bd
  have HL := Lib.hid hlen
  clear hlen
  go_enter Try.func53, Try.ntmps53
  go_wp2
  go_loop [5] (fun i => ∃ k : Nat, k ≤ n ∧ i = .int .i64 k ∧ Hid ((l.take k).contains x = false)) (fun i => n - (intOf i).toNat)
  case atStart => exact ⟨0, by omega, rfl, Lib.hid rfl⟩
  case round =>
    obtain ⟨k, hk, rfl, HK⟩ := hrel
    by_cases hlt : k < n
    · obtain ⟨ad, v, rfl, _, hv, _, hcell⟩ := h.at_ hlt
      by_cases hvx : v = x
      · subst hvx
        have HR : Hid (hasB l v = true) := Lib.hid (by unfold hasB; rw [List.contains_iff_mem]; exact List.mem_of_getElem? hv.out)
        go_wp2
        go_ret
        exact ⟨ret_bool HR.out.symm, rfl⟩
      · have HT : Hid ((l.take (k + 1)).contains x = false) := Lib.hid (by
          have h1 := HK.out
          rw [take_of_get hv.out]
          cases e : (l.take k ++ [v]).contains x with
          | false => rfl
          | true =>
            rw [List.contains_iff_mem] at e
            rcases List.mem_append.1 e with e | e
            · rw [← List.contains_iff_mem, h1] at e; cases e
            · simp at e; exact absurd e.symm hvx)
        have g : (v == x) = false := by simpa using hvx
        clear hvx
        go_wp2
        go_round
        case rel => exact ⟨k + 1, by omega, by go_num, HT⟩
        case measure => simp [intOf]; omega
    · have HR : Hid (hasB l x = false) := Lib.hid (by unfold hasB; have := HK.out; rwa [List.take_of_length_le (by rw [HL.out]; omega)] at this)
      go_wp2
      go_ret
      exact ⟨ret_bool HR.out.symm, rfl⟩

/-- a course of the callee's own, the box g turned -/
def Coursed (c : List Int) (d g : Nat) (w : World) (e : Ending) (w' : World) : Prop :=
  ∃ (A : Option Addr) (c' : Nat) (L : List Int), e = .returned (.slice A d c') ∧ CourseOk c d L ∧ OwnI w' w.heap.size 3 A d c' L ∧ Spun g w w'

theorem packTo_small {c : List Int} (h : ∀ x ∈ c, 0 ≤ x ∧ x ≤ 9) (k : Nat) : (packTo c k).length ≤ 9 * k := by
  induction k with
  | zero => simp [packTo]
  | succ k ih =>
    simp only [packTo, List.length_append, List.length_replicate]
    have : c.getD k 0 ≤ 9 := by
      rw [List.getD_eq_getElem?_getD]
      cases e : c[k]? with
      | none => simp
      | some v => exact (h v (List.mem_of_getElem? e)).2
    omega
theorem RdI.spun {w w' : World} {g n : Nat} {A : Option Addr} {l : List Int} (h : RdI w A n l) (hs : Spun g w w') (hA : ∀ b, A.map (·.block) = some b → b ≠ g) : RdI w' A n l :=
  h.grown hs.grown (fun b e1 e2 => by injection e1 with e1; exact hA b e2 e1.symm)
theorem OwnI.spun_ {w w' : World} {g n c base : Nat} {t : TypeId} {A : Option Addr} {l : List Int} (h : OwnI w base t A n c l) (hs : Spun g w w') (hg : g < base) : OwnI w' base t A n c l :=
  h.grown hs.grown (by
    cases e : A.map (·.block) with
    | none => exact .inl rfl
    | some b => exact .inr (fun e2 => by injection e2 with e2; have := (h.1.block e).1; omega))

set_option maxHeartbeats 1000000 in
set_option maxRecDepth 100000 in
theorem courseOf_any (g : Nat) (A : Option Addr) (n c : Nat) (l : List Int) (d : Nat) (w : World) (hb : IsBox w g) (h : RdI w A n l) (hA : ∀ b, A.map (·.block) = some b → b ≠ g) (h6 : n ≤ 6) (h9 : ∀ x ∈ l, 1 ≤ x ∧ x ≤ 9) (hd : (d : Int) ≤ sumI l) :
    Calls Try.prog 24 #[.pointer (some ⟨g, 0, none⟩), .agg #[.slice A n c, .int .i64 d]] w (Coursed l d g w) := by
  have hlen := h.len
  have hgl := hb.lt
  go_enter Try.func24, Try.ntmps24
  go_upto_region 1 with fail
  have HA := Lib.hid (h.alloc (.cells #[.slice A n c, .int .i64 d] 24))
  have HB := Lib.hid ((Below.refl _ w).alloc (Nat.le_refl _) (.cells #[.slice A n c, .int .i64 d] 24))
  have HX := Lib.hid (Blk.new w 24 #[.slice A n c, .int .i64 d])
  have HBX := Lib.hid (hb.alloc (.cells #[.slice A n c, .int .i64 d] 24))
  have HL := Lib.hid hlen
  have H9 := Lib.hid h9
  have HD := Lib.hid hd
  have HAN := Lib.hid hA
  clear h hb hlen h9 hd hA
  have hWs : w.heap.size < (w.alloc (.cells #[.slice A n c, .int .i64 d] 24)).heap.size := by simp
  generalize w.alloc (.cells #[.slice A n c, .int .i64 d] 24) = W at HA HB HX HBX hWs ⊢
  have c0 : W.cell? ⟨w.heap.size, 0, none⟩ = some (.slice A n c) := by rw [HX.out.cell]; rfl
  go_wp2_with fail
  go_loopw [5, 6] (fun s k wr => ∃ (j : Nat) (A' : Option Addr) (c' : Nat), j ≤ n ∧ k = .int .i64 j ∧ s = .slice A' (packTo l j).length c' ∧ OwnI wr W.heap.size 3 A' (packTo l j).length c' (packTo l j) ∧ Below W.heap.size W wr) (fun _ k _ => n - (intOf k).toNat)
  case atStart => exact ⟨0, none, 0, by omega, rfl, rfl, OwnI.nil_ _ _ _, Below.refl _ _⟩
  case round =>
    obtain ⟨k, A', c', hk, rfl, rfl, hown, hbel⟩ := hrel
    have HO := Lib.hid hown
    have HBE := Lib.hid hbel
    have HA1 := Lib.hid (HA.out.below hbel)
    have e0 := (hbel.cell (p := ⟨w.heap.size, 0, none⟩) hWs).trans c0
    have hszr := hbel.size
    have hpl := packTo_small (c := l) (fun x hx => by have := H9.out x hx; omega) k
    clear hown hbel
    by_cases hlt : k < n
    · obtain ⟨ad, v, rfl, _, hv, _, hcell⟩ := HA1.out.at_ hlt
      have hv9 := H9.out v (List.mem_of_getElem? hv.out)
      obtain ⟨v, rfl⟩ : ∃ v' : Nat, v = v' := ⟨v.toNat, by omega⟩
      have HN : Hid (packTo l (k + 1) = packTo l k ++ List.replicate v (k : Int)) := Lib.hid (by simp only [packTo]; rw [getD_of_get hv.out]; rfl)
      have HNL : Hid ((packTo l (k + 1)).length = (packTo l k).length + v) := Lib.hid (by rw [HN.out]; simp)
      have hadl : ad.block < W.heap.size := by
        obtain ⟨ad', _, e, hb, _⟩ := HA.out.at_ hlt
        injection e with e; subst e; exact hb
      obtain ⟨w1, rfl⟩ : ∃ w1, w1 = wr := ⟨_, rfl⟩
      go_wp2_with fail
      go_loopw [5, 7] (fun s i wr => ∃ (j : Nat) (A' : Option Addr) (c' : Nat), j ≤ v ∧ i = .int .i64 j ∧ s = .slice A' ((packTo l k).length + j) c' ∧ OwnI wr W.heap.size 3 A' ((packTo l k).length + j) c' (packTo l k ++ List.replicate j (k : Int)) ∧ Below W.heap.size W wr) (fun _ i _ => v - (intOf i).toNat)
      case atStart => exact ⟨0, A', c', by omega, rfl, rfl, by simpa using HO.out, HBE.out⟩
      case round =>
        obtain ⟨j, A2, c2, hj, rfl, rfl, hown, hbel⟩ := hrel
        have HO2 := Lib.hid hown
        have HBE2 := Lib.hid hbel
        have i0 := (hbel.cell (p := ⟨w.heap.size, 0, none⟩) hWs).trans c0
        have hcell2 : wr.cell? (ad.add k) = some (.int .i64 v) := by
          have h1 := (HBE.out.cell (p := ad.add k) (by rw [block_of_add]; exact hadl))
          have h2 := (hbel.cell (p := ad.add k) (by rw [block_of_add]; exact hadl))
          rw [h2, ← h1]; exact hcell
        have hsz2 := hbel.size
        clear hown hbel
        by_cases hjv : j < v
        · have HR : Hid (packTo l k ++ List.replicate (j + 1) (k : Int) = (packTo l k ++ List.replicate j (k : Int)) ++ [(k : Int)]) := Lib.hid (by rw [List.replicate_succ', List.append_assoc])
          go_wp2_with (at_builtin; go_must (refine wpList_appI1 _ rfl (.tmp 27) (.tmp 29) rfl _ rfl rfl HO2.out (v := (k : Int)) (I64.small (by omega)) (by omega) hsz2 ?_); intro A3 c3 w' kk; have KK := Lib.hid kk; clear kk)
          go_roundw
          case rel => exact ⟨j + 1, A3, c3, by omega, by go_num, rfl, by rw [HR.out]; exact KK.out.own, HBE2.out.trans KK.out.below⟩
          case measure => simp [intOf]; omega
        · obtain rfl : j = v := by omega
          rw [← HNL.out] at HO2 ⊢
          rw [← HN.out] at HO2
          go_wp2
          go_roundw
          case rel => exact ⟨k + 1, A2, c2, by omega, by go_num, rfl, HO2.out, HBE2.out⟩
          case measure => simp [intOf]; omega
    · obtain rfl : k = n := by omega
      have HPL : Hid (((packTo l k).length : Int) = sumI l) := Lib.hid (by have := packTo_all (c := l) (fun x hx => by have := H9.out x hx; omega); rw [HL.out] at this; exact this)
      have HDN : Hid (d ≤ (packTo l k).length) := Lib.hid (by have h1 := HPL.out; have h2 := HD.out; omega)
      have HPK : Hid (packTo l l.length = packTo l k) := Lib.hid (by rw [HL.out])
      have HXR := Lib.hid (HX.out.below HBE.out)
      have HSP : Hid (Spun g w wr) := Lib.hid ⟨HBX.out.below HBE.out, grown_of_below (HB.out.trans (HBE.out.mono HB.out.size)) _⟩
      obtain ⟨N, hN⟩ : ∃ N, (packTo l k).length = N := ⟨_, rfl⟩
      obtain ⟨P, hP⟩ : ∃ P, packTo l k = P := ⟨_, rfl⟩
      rw [hN, hP] at HO
      rw [hN] at HDN hpl ⊢
      rw [hP] at HPK hN
      have HNN := Lib.hid hN
      clear hN hP HPL
      go_wp2_with fail
      refine (order_any g N wr HSP.out.box (by omega)).mono ?_; rintro e w2 ⟨B, cb, O, rfl, hperm, hownO, hsp⟩
      have HPE := Lib.hid hperm
      have hle : w.heap.size < wr.heap.size := by omega
      have HOP := Lib.hid (HO.out.spun_ hsp (by omega))
      have HOO := Lib.hid hownO
      have HX2 : Hid (Blk w2 w.heap.size 24 #[.slice A k c, .int .i64 d]) := Lib.hid (HXR.out.grown hsp.grown (fun e => by injection e with e; omega))
      have HSP2 := Lib.hid (HSP.out.trans hsp)
      have hsz2 := hsp.grown.size
      have f1 : w2.cell? ⟨w.heap.size, 1, none⟩ = some (.int .i64 d) := by rw [HX2.out.cell]; rfl
      clear hperm hownO hsp HSP HXR HO e0
      go_wp2_with fail
      go_loopw [9, 10] (fun s i wr => ∃ (j : Nat) (A3 : Option Addr) (c3 : Nat), j ≤ d ∧ i = .int .i64 j ∧ s = .slice A3 j c3 ∧ OwnI wr w2.heap.size 3 A3 j c3 ((O.map fun i => P.getD i.toNat 0).take j) ∧ Below w2.heap.size w2 wr) (fun _ i _ => d - (intOf i).toNat)
      case atStart => exact ⟨0, none, 0, by omega, rfl, rfl, OwnI.nil_ _ _ _, Below.refl _ _⟩
      case round =>
        obtain ⟨j, A3, c3, hj, rfl, rfl, hown, hbel⟩ := hrel
        have HO3 := Lib.hid hown
        have HB3 := Lib.hid hbel
        have HOP3 := Lib.hid (HOP.out.rd.below hbel)
        have HOO3 := Lib.hid (HOO.out.rd.below hbel)
        have f2 := (hbel.cell (p := ⟨w.heap.size, 1, none⟩) (by show w.heap.size < _; omega)).trans f1
        have hsz3 := hbel.size
        clear hown hbel
        by_cases hjd : j < d
        · have hdn := HDN.out
          obtain ⟨bd, o, rfl, _, ho, _, hco⟩ := HOO3.out.at_ (show j < N by omega)
          have hom := rangeI_mem.1 (HPE.out.mem_iff.1 (List.mem_of_getElem? ho.out))
          obtain ⟨o, rfl⟩ : ∃ o' : Nat, o = o' := ⟨o.toNat, by omega⟩
          obtain ⟨pd, v, rfl, _, hv, hv64, hcv⟩ := HOP3.out.at_ (show o < N by omega)
          have hoN : (o : Int) < N := hom.2
          have HT : Hid ((O.map fun i => P.getD i.toNat 0).take (j + 1) = (O.map fun i => P.getD i.toNat 0).take j ++ [v]) := Lib.hid (take_of_get (by rw [List.getElem?_map, ho.out]; simp only [Option.map_some, Int.toNat_natCast]; rw [getD_of_get hv.out]))
          have hjN : j < N := by omega
          have hd54 : d ≤ 1000 := by omega
          clear hom
          go_wp2_with (at_builtin; go_must (refine wpList_appI1 _ rfl (.tmp 41) (.tmp 49) rfl _ rfl rfl HO3.out (v := v) hv64 (by omega) hsz3 ?_); intro A4 c4 w' kk; have KK := Lib.hid kk; clear kk)
          go_roundw
          case rel => exact ⟨j + 1, A4, c4, by omega, by go_num, rfl, by rw [HT.out]; exact KK.out.own, HB3.out.trans KK.out.below⟩
          case measure => simp [intOf]; omega
        · obtain rfl : j = d := by omega
          have HC : Hid (CourseOk l j ((O.map fun i => P.getD i.toNat 0).take j)) := Lib.hid (course_ok (by
            rw [HPK.out]
            exact perm_pick (by rw [HNN.out]; exact HPE.out)) (by rw [List.length_map, HPE.out.length_eq, rangeI_len]; exact HDN.out))
          have HSF := Lib.hid (HSP2.out.below_ (HB3.out.mono HSP2.out.grown.size) hgl)
          have HOF := Lib.hid (HO3.out.mono HSP2.out.grown.size)
          go_wp2
          go_ret
          exact ⟨A3, c3, _, rfl, HC.out, HOF.out, HSF.out⟩

theorem mostTo_nn (c : List Int) (d : Int) (k : Nat) : 0 ≤ mostTo c d k := by
  induction k with
  | zero => exact Int.le_refl _
  | succ k ih => rw [mostTo_succ]; omega
theorem mostTo_le {c : List Int} {d : Int} (hz : chkS c d = 0) (k : Nat) (hk : k ≤ c.length) : mostTo c d k ≤ d := by
  have h := chkS_ok hz
  have hc := okCounts_mem h.2.2.1
  induction k with
  | zero => show (0 : Int) ≤ d; omega
  | succ k ih =>
    have h1 := ih (by omega)
    have h2 := sum_ge_mem (c := c) (fun v hv => by have := hc v hv; omega) _ (getD_mem (l := c) (i := k) (by omega))
    rw [mostTo_succ]; omega
theorem othTo_small {c : List Int} (h : ∀ x ∈ c, 0 ≤ x ∧ x ≤ 9) (k j : Nat) : (othTo c k j).length ≤ 9 * j := by
  induction j with
  | zero => simp [othTo]
  | succ j ih =>
    simp only [othTo]
    split
    · omega
    · have : c.getD j 0 ≤ 9 := by
        rw [List.getD_eq_getElem?_getD]
        cases e : c[j]? with
        | none => simp
        | some v => exact (h v (List.mem_of_getElem? e)).2
      rw [List.length_append, List.length_replicate]; omega

set_option maxHeartbeats 2000000 in
set_option maxRecDepth 100000 in
theorem reached_any (A : Option Addr) (n c : Nat) (l : List Int) (d : Nat) (m : Int) (w : World) (h : RdI w A n l) (hz : chkS l d = 0) (hm : mostN l d = m) :
    Calls Try.prog 54 #[.agg #[.slice A n c, .int .i64 d], .int .i64 m] w fun e w' => e = .returned (.bool true) ∧ Below w.heap.size w w' := by
  have hlen := h.len
  have hok := chkS_ok hz
  have hd64 : I64 d := I64.small (by omega)
  have h6 : n ≤ 6 := by omega
  have hd9 : d ≤ 9 := by omega
  have H9 : Hid (∀ x ∈ l, 1 ≤ x ∧ x ≤ 9) := Lib.hid (okCounts_mem hok.2.2.1)
  have HS54 := Lib.hid hok.2.2.2.2.2
  clear hok
  go_enter Try.func54, Try.ntmps54
  go_upto_region 1 with fail
  have HA := Lib.hid (h.alloc (.cells #[.slice A n c, .int .i64 d] 24))
  have HB := Lib.hid ((Below.refl _ w).alloc (Nat.le_refl _) (.cells #[.slice A n c, .int .i64 d] 24))
  have HX := Lib.hid (Blk.new w 24 #[.slice A n c, .int .i64 d])
  have HL := Lib.hid hlen
  have HZ := Lib.hid hz
  have HM := Lib.hid hm
  clear h hlen hz hm
  have hWs : w.heap.size < (w.alloc (.cells #[.slice A n c, .int .i64 d] 24)).heap.size := by simp
  generalize w.alloc (.cells #[.slice A n c, .int .i64 d] 24) = W at HA HB HX hWs ⊢
  have c0 : W.cell? ⟨w.heap.size, 0, none⟩ = some (.slice A n c) := by rw [HX.out.cell]; rfl
  have c1 : W.cell? ⟨w.heap.size, 1, none⟩ = some (.int .i64 d) := by rw [HX.out.cell]; rfl
  go_wp2_with fail
  go_loopw [5, 6] (fun b k wr => ∃ j : Nat, j ≤ n ∧ k = .int .i64 j ∧ b = .int .i64 (mostTo l d j) ∧ Below W.heap.size W wr) (fun _ k _ => n - (intOf k).toNat)
  case atStart => exact ⟨0, by omega, rfl, rfl, Below.refl _ _⟩
  case round =>
    obtain ⟨k, hk, rfl, rfl, hbel⟩ := hrel
    obtain ⟨b, hb⟩ : ∃ b, mostTo l d k = b := ⟨_, rfl⟩
    have hb0 := mostTo_nn l d k
    have hb9 := mostTo_le HZ.out k (by rw [HL.out]; exact hk)
    rw [hb] at hb0 hb9 ⊢
    have HBB := Lib.hid hb
    have HBE := Lib.hid hbel
    have HA1 := Lib.hid (HA.out.below hbel)
    have e0 := (hbel.cell (p := ⟨w.heap.size, 0, none⟩) hWs).trans c0
    have e1 := (hbel.cell (p := ⟨w.heap.size, 1, none⟩) hWs).trans c1
    have hszr := hbel.size
    obtain ⟨w1, rfl⟩ : ∃ w1, w1 = wr := ⟨_, rfl⟩
    clear hbel hb
    by_cases hlt : k < n
    · go_wp2_with fail
      go_loopw [7, 8] (fun s i wr => ∃ (j : Nat) (A' : Option Addr) (c' : Nat), j ≤ n ∧ i = .int .i64 j ∧ s = .slice A' (othTo l k j).length c' ∧ OwnI wr w1.heap.size 3 A' (othTo l k j).length c' (othTo l k j) ∧ Below w1.heap.size w1 wr) (fun _ i _ => n - (intOf i).toNat)
      case atStart => exact ⟨0, none, 0, by omega, rfl, rfl, OwnI.nil_ _ _ _, Below.refl _ _⟩
      case round =>
        obtain ⟨j, A', c', hj, rfl, rfl, hown, hbel⟩ := hrel
        have HO := Lib.hid hown
        have HBE2 := Lib.hid hbel
        have HA2 := Lib.hid (HA1.out.below hbel)
        have hlw : w.heap.size < w1.heap.size := by omega
        have i0 := (hbel.cell (p := ⟨w.heap.size, 0, none⟩) hlw).trans e0
        have i1 := (hbel.cell (p := ⟨w.heap.size, 1, none⟩) hlw).trans e1
        have hsz2 := hbel.size
        have hol := othTo_small (c := l) (fun x hx => by have := H9.out x hx; omega) k j
        clear hown hbel
        by_cases hjn : j < n
        · obtain ⟨ad, v, rfl, hadl, hv, _, hcell⟩ := HA2.out.at_ hjn
          have hv9 := H9.out v (List.mem_of_getElem? hv.out)
          obtain ⟨v, rfl⟩ : ∃ v' : Nat, v = v' := ⟨v.toNat, by omega⟩
          by_cases hjk : j = k
          · have HN : Hid (othTo l k (j + 1) = othTo l k j) := Lib.hid (by simp only [othTo]; rw [if_pos hjk])
            have gk : ((j : Int) != k) = false := by simp; omega
            have hv0 : (0 : Int) < v := by omega
            subst hjk
            go_wp2_with fail
            go_loopw [7, 9] (fun s i w3 => s = .slice A' (othTo l j j).length c' ∧ i = .int .i64 0 ∧ w3 = wr) (fun _ _ _ => 0)
            case atStart => exact ⟨rfl, rfl, rfl⟩
            case round =>
              obtain ⟨rfl, rfl, rfl⟩ := hrel
              go_wp2
              go_roundw
              case rel => exact ⟨j + 1, A', c', by omega, by go_num, by rw [HN.out], by rw [HN.out]; exact HO.out, HBE2.out⟩
              case measure => simp [intOf]; omega
          · have HN : Hid (othTo l k (j + 1) = othTo l k j ++ List.replicate v (j : Int)) := Lib.hid (by simp only [othTo]; rw [if_neg hjk, getD_of_get hv.out]; rfl)
            have HNL : Hid ((othTo l k (j + 1)).length = (othTo l k j).length + v) := Lib.hid (by rw [HN.out]; simp)
            have gk : ((j : Int) != k) = true := by simp; omega
            have hadw1 : ad.block < w1.heap.size := by
              obtain ⟨ad', _, e, hb, _⟩ := HA1.out.at_ hjn
              injection e with e; subst e; exact hb
            obtain ⟨w2, rfl⟩ : ∃ w2, w2 = wr := ⟨_, rfl⟩
            clear hjk
            go_wp2_with fail
            go_loopw [7, 9] (fun s i wr => ∃ (q : Nat) (A2 : Option Addr) (c2 : Nat), q ≤ v ∧ i = .int .i64 q ∧ s = .slice A2 ((othTo l k j).length + q) c2 ∧ OwnI wr w1.heap.size 3 A2 ((othTo l k j).length + q) c2 (othTo l k j ++ List.replicate q (j : Int)) ∧ Below w1.heap.size w1 wr ∧ wr.cell? (ad.add j) = some (.int .i64 v)) (fun _ i _ => v - (intOf i).toNat)
            case atStart => exact ⟨0, A', c', by omega, rfl, rfl, by simpa using HO.out, HBE2.out, hcell⟩
            case round =>
              obtain ⟨q, A2, c2, hq, rfl, rfl, hown, hbel, hcl⟩ := hrel
              have HO2 := Lib.hid hown
              have HBE3 := Lib.hid hbel
              have j0 := (hbel.cell (p := ⟨w.heap.size, 0, none⟩) hlw).trans e0
              have hsz3 := hbel.size
              clear hown hbel
              by_cases hqv : q < v
              · have HR : Hid (othTo l k j ++ List.replicate (q + 1) (j : Int) = (othTo l k j ++ List.replicate q (j : Int)) ++ [(j : Int)]) := Lib.hid (by rw [List.replicate_succ', List.append_assoc])
                go_wp2_with (at_builtin; go_must (refine wpList_appI1 _ rfl (.tmp 41) (.tmp 43) rfl _ rfl rfl HO2.out (v := (j : Int)) (I64.small (by omega)) (by omega) hsz3 ?_); intro A3 c3 w' kk; have KK := Lib.hid kk; clear kk)
                go_roundw
                case rel => exact ⟨q + 1, A3, c3, by omega, by go_num, rfl, by rw [HR.out]; exact KK.out.own, HBE3.out.trans KK.out.below, (KK.out.below.cell (p := ad.add j) (by rw [block_of_add]; exact hadw1)).trans hcl⟩
                case measure => simp [intOf]; omega
              · obtain rfl : q = v := by omega
                rw [← HNL.out] at HO2 ⊢
                rw [← HN.out] at HO2
                go_wp2
                go_roundw
                case rel => exact ⟨j + 1, A2, c2, by omega, by go_num, rfl, HO2.out, HBE3.out⟩
                case measure => simp [intOf]; omega
        · obtain rfl : j = n := by omega
          obtain ⟨ad, v, rfl, hadl, hv, _, hcell⟩ := HA1.out.at_ hlt
          have HOL := othTo_all (c := l) (fun x hx => by have := H9.out x hx; omega) (k := k) (by rw [HL.out]; exact hlt)
          have HRE : Hid (∀ _h : sumI l - l.getD k 0 ≤ d, ∃ K, restE l d (othTo l k j) = (K, (d : Int) - (sumI l - l.getD k 0), 0)) := Lib.hid (fun hle => by have := restE_oth HZ.out (k := k) (by rw [HL.out]; exact hlt) hle; rwa [HL.out] at this)
          have HMS : Hid (mostTo l d (k + 1) = max b (d - (sumI l - l.getD k 0))) := Lib.hid (by rw [mostTo_succ, HBB.out])
          rw [HL.out] at HOL
          obtain ⟨o, ho⟩ : ∃ o, sumI l - l.getD k 0 = o := ⟨_, rfl⟩
          rw [ho] at HOL HRE HMS
          obtain ⟨S, hS⟩ : ∃ S, othTo l k j = S := ⟨_, rfl⟩
          rw [hS] at HO hol HOL HRE ⊢
          have HOLL := Lib.hid HOL
          clear HOL ho hS hv
          by_cases hod : o ≤ d
          · obtain ⟨K, hK⟩ := HRE.out hod
            have HKE := Lib.hid hK
            clear hK
            have hle : ¬ ((d : Int) < S.length) := by rw [HOLL.out]; omega
            have hle2 : (S.length : Int) ≤ d := by omega
            clear hle
            go_wp2_with fail
            refine (rest_any _ _ _ _ _ _ l S d wr HA2.out HO.out.rd hd64).mono ?_; rintro e w3 ⟨A3, c3, rfl, _, hb3⟩
            rw [HKE.out]
            have HBF := Lib.hid (HBE.out.trans ((HBE2.out.trans (hb3.mono HBE2.out.size)).mono HBE.out.size))
            have ho0 : 0 ≤ o := by have := HOLL.out; omega
            clear hb3
            go_wp2
            go_roundw
            case rel => exact ⟨k + 1, by omega, by go_num, by rw [HMS.out], HBF.out⟩
            case measure => simp [intOf]; omega
          · have hlt2 : (d : Int) < S.length := by rw [HOLL.out]; omega
            have HMB : Hid (max b ((d : Int) - o) = b) := Lib.hid (by omega)
            have HBF := Lib.hid (HBE.out.trans (HBE2.out.mono HBE.out.size))
            clear hod
            go_wp2
            go_roundw
            case rel => exact ⟨k + 1, by omega, by go_num, by rw [HMS.out, HMB.out], HBF.out⟩
            case measure => simp [intOf]; omega
    · obtain rfl : k = n := by omega
      have HE : Hid (b = m) := Lib.hid (by rw [← HBB.out, ← HM.out, ← HL.out]; exact mostTo_all (by have := HS54.out; omega))
      rw [HE.out]
      have HBF := Lib.hid (HB.out.trans (HBE.out.mono HB.out.size))
      go_wp2
      go_ret
      exact ⟨ret_bool (by simp), HBF.out⟩
end Go.Proofs.Ytcmacejpoihhlaa
