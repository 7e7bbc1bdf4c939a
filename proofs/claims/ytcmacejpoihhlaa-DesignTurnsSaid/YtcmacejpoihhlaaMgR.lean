/- Walks: a course of a stock, what a list has, and what is known for sure behind all other kinds. Walks: orders of guests: the reference's check and counts. Walks: orders of guests: what the reference counts. Walks: orders of guests: how fair they are, as the reference counts. -/
import Derived.Test.YtcmacejpoihhlaaMgN
import Derived.Test.YtcmacejpoihhlaaMgP
namespace Go.Proofs.Ytcmacejpoihhlaa
open Go.RowKit

def hasB (l : List Int) (x : Int) : Bool := l.contains x
set_option maxHeartbeats 400000 in
theorem has_any (A : Option Addr) (n c : Nat) (l : List Int) (x : Int) (w : World) (h : RdI w A n l) : Calls Try.prog 53 #[.slice A n c, .int .i64 x] w fun e w' => e = .returned (.bool (hasB l x)) ∧ w' = w := by
  have hlen := h.len
  have hbd := h.bd
  have HL := Lib.hid hlen
  clear hlen
  go_enter Try.func53, Try.ntmps53
  go_wp2
  go_loop [5] (fun i => ∃ k : Nat, k ≤ n ∧ i = .int .i64 k ∧ Hid ((l.take k).contains x = false)) (fun i => n - (intOf i).toNat)
  case atStart => exact ⟨0, by omega, rfl, Lib.hid rfl⟩
  case round =>
    obtain ⟨k, hk, rfl, HK⟩ := hrel
    by_cases hlt : k < n
    · obtain ⟨ad, v, rfl, _, hv, _, hcell⟩ := h.at_ hlt
      by_cases hvx : v = x
      · subst hvx
        have HR : Hid (hasB l v = true) := Lib.hid (by unfold hasB; rw [List.contains_iff_mem]; exact List.mem_of_getElem? hv.out)
        go_wp2
        go_ret
        exact ⟨ret_bool HR.out.symm, rfl⟩
      · have HT : Hid ((l.take (k + 1)).contains x = false) := Lib.hid (by
          have h1 := HK.out
          rw [take_of_get hv.out]
          cases e : (l.take k ++ [v]).contains x with
          | false => rfl
          | true =>
            rw [List.contains_iff_mem] at e
            rcases List.mem_append.1 e with e | e
            · rw [← List.contains_iff_mem, h1] at e; cases e
            · simp at e; exact absurd e.symm hvx)
        have g : (v == x) = false := by simpa using hvx
        clear hvx
        go_wp2
        go_round
        case rel => exact ⟨k + 1, by omega, by go_num, HT⟩
        case measure => simp [intOf]; omega
    · have HR : Hid (hasB l x = false) := Lib.hid (by unfold hasB; have := HK.out; rwa [List.take_of_length_le (by rw [HL.out]; omega)] at this)
      go_wp2
      go_ret
      exact ⟨ret_bool HR.out.symm, rfl⟩

/-- a course of the callee's own, the box g turned -/
def Coursed (c : List Int) (d g : Nat) (w : World) (e : Ending) (w' : World) : Prop :=
  ∃ (A : Option Addr) (c' : Nat) (L : List Int), e = .returned (.slice A d c') ∧ CourseOk c d L ∧ OwnI w' w.heap.size 3 A d c' L ∧ Spun g w w'

theorem packTo_small {c : List Int} (h : ∀ x ∈ c, 0 ≤ x ∧ x ≤ 9) (k : Nat) : (packTo c k).length ≤ 9 * k := by
  induction k with
  | zero => simp [packTo]
  | succ k ih =>
    simp only [packTo, List.length_append, List.length_replicate]
    have : c.getD k 0 ≤ 9 := by
      rw [List.getD_eq_getElem?_getD]
      cases e : c[k]? with
      | none => simp
      | some v => exact (h v (List.mem_of_getElem? e)).2
    omega
theorem RdI.spun {w w' : World} {g n : Nat} {A : Option Addr} {l : List Int} (h : RdI w A n l) (hs : Spun g w w') (hA : ∀ b, A.map (·.block) = some b → b ≠ g) : RdI w' A n l :=
  h.grown hs.grown (fun b e1 e2 => by injection e1 with e1; exact hA b e2 e1.symm)
theorem OwnI.spun_ {w w' : World} {g n c base : Nat} {t : TypeId} {A : Option Addr} {l : List Int} (h : OwnI w base t A n c l) (hs : Spun g w w') (hg : g < base) : OwnI w' base t A n c l :=
  h.grown hs.grown (by
    cases e : A.map (·.block) with
    | none => exact .inl rfl
    | some b => exact .inr (fun e2 => by injection e2 with e2; have := (h.1.block e).1; omega))

set_option maxHeartbeats 1000000 in
set_option maxRecDepth 100000 in
theorem courseOf_any (g : Nat) (A : Option Addr) (n c : Nat) (l : List Int) (d : Nat) (w : World) (hb : IsBox w g) (h : RdI w A n l) (hA : ∀ b, A.map (·.block) = some b → b ≠ g) (h6 : n ≤ 6) (h9 : ∀ x ∈ l, 1 ≤ x ∧ x ≤ 9) (hd : (d : Int) ≤ sumI l) :
    Calls Try.prog 24 #[.pointer (some ⟨g, 0, none⟩), .agg #[.slice A n c, .int .i64 d]] w (Coursed l d g w) := by
  have hlen := h.len
  have hgl := hb.lt
  go_enter Try.func24, Try.ntmps24
  go_upto_region 1 with fail
  have HA := Lib.hid (h.alloc (.cells #[.slice A n c, .int .i64 d] 24))
  have HB := Lib.hid ((Below.refl _ w).alloc (Nat.le_refl _) (.cells #[.slice A n c, .int .i64 d] 24))
  have HX := Lib.hid (Blk.new w 24 #[.slice A n c, .int .i64 d])
  have HBX := Lib.hid (hb.alloc (.cells #[.slice A n c, .int .i64 d] 24))
  have HL := Lib.hid hlen
  have H9 := Lib.hid h9
  have HD := Lib.hid hd
  have HAN := Lib.hid hA
  clear h hb hlen h9 hd hA
  have hWs : w.heap.size < (w.alloc (.cells #[.slice A n c, .int .i64 d] 24)).heap.size := by simp
  generalize w.alloc (.cells #[.slice A n c, .int .i64 d] 24) = W at HA HB HX HBX hWs ⊢
  have c0 : W.cell? ⟨w.heap.size, 0, none⟩ = some (.slice A n c) := by rw [HX.out.cell]; rfl
  go_wp2_with fail
  go_loopw [5, 6] (fun s k wr => ∃ (j : Nat) (A' : Option Addr) (c' : Nat), j ≤ n ∧ k = .int .i64 j ∧ s = .slice A' (packTo l j).length c' ∧ OwnI wr W.heap.size 3 A' (packTo l j).length c' (packTo l j) ∧ Below W.heap.size W wr) (fun _ k _ => n - (intOf k).toNat)
  case atStart => exact ⟨0, none, 0, by omega, rfl, rfl, OwnI.nil_ _ _ _, Below.refl _ _⟩
  case round =>
    obtain ⟨k, A', c', hk, rfl, rfl, hown, hbel⟩ := hrel
    have HO := Lib.hid hown
    have HBE := Lib.hid hbel
    have HA1 := Lib.hid (HA.out.below hbel)
    have e0 := (hbel.cell (p := ⟨w.heap.size, 0, none⟩) hWs).trans c0
    have hszr := hbel.size
    have hpl := packTo_small (c := l) (fun x hx => by have := H9.out x hx; omega) k
    clear hown hbel
    by_cases hlt : k < n
    · obtain ⟨ad, v, rfl, _, hv, _, hcell⟩ := HA1.out.at_ hlt
      have hv9 := H9.out v (List.mem_of_getElem? hv.out)
      obtain ⟨v, rfl⟩ : ∃ v' : Nat, v = v' := ⟨v.toNat, by omega⟩
      have HN : Hid (packTo l (k + 1) = packTo l k ++ List.replicate v (k : Int)) := Lib.hid (by simp only [packTo]; rw [getD_of_get hv.out]; rfl)
      have HNL : Hid ((packTo l (k + 1)).length = (packTo l k).length + v) := Lib.hid (by rw [HN.out]; simp)
      have hadl : ad.block < W.heap.size := by
        obtain ⟨ad', _, e, hb, _⟩ := HA.out.at_ hlt
        injection e with e; subst e; exact hb
      obtain ⟨w1, rfl⟩ : ∃ w1, w1 = wr := ⟨_, rfl⟩
      go_wp2_with fail
      go_loopw [5, 7] (fun s i wr => ∃ (j : Nat) (A' : Option Addr) (c' : Nat), j ≤ v ∧ i = .int .i64 j ∧ s = .slice A' ((packTo l k).length + j) c' ∧ OwnI wr W.heap.size 3 A' ((packTo l k).length + j) c' (packTo l k ++ List.replicate j (k : Int)) ∧ Below W.heap.size W wr) (fun _ i _ => v - (intOf i).toNat)
      case atStart => exact ⟨0, A', c', by omega, rfl, rfl, by simpa using HO.out, HBE.out⟩
      case round =>
        obtain ⟨j, A2, c2, hj, rfl, rfl, hown, hbel⟩ := hrel
        have HO2 := Lib.hid hown
        have HBE2 := Lib.hid hbel
        have i0 := (hbel.cell (p := ⟨w.heap.size, 0, none⟩) hWs).trans c0
        have hcell2 : wr.cell? (ad.add k) = some (.int .i64 v) := by
          have h1 := (HBE.out.cell (p := ad.add k) (by rw [block_of_add]; exact hadl))
          have h2 := (hbel.cell (p := ad.add k) (by rw [block_of_add]; exact hadl))
          rw [h2, ← h1]; exact hcell
        have hsz2 := hbel.size
        clear hown hbel
        by_cases hjv : j < v
        · have HR : Hid (packTo l k ++ List.replicate (j + 1) (k : Int) = (packTo l k ++ List.replicate j (k : Int)) ++ [(k : Int)]) := Lib.hid (by rw [List.replicate_succ', List.append_assoc])
          go_wp2_with (at_builtin; go_must (refine wpList_appI1 _ rfl (.tmp 27) (.tmp 29) rfl _ rfl rfl HO2.out (v := (k : Int)) (I64.small (by omega)) (by omega) hsz2 ?_); intro A3 c3 w' kk; have KK := Lib.hid kk; clear kk)
          go_roundw
          case rel => exact ⟨j + 1, A3, c3, by omega, by go_num, rfl, by rw [HR.out]; exact KK.out.own, HBE2.out.trans KK.out.below⟩
          case measure => simp [intOf]; omega
        · obtain rfl : j = v := by omega
          rw [← HNL.out] at HO2 ⊢
          rw [← HN.out] at HO2
          go_wp2
          go_roundw
          case rel => exact ⟨k + 1, A2, c2, by omega, by go_num, rfl, HO2.out, HBE2.out⟩
          case measure => simp [intOf]; omega
    · obtain rfl : k = n := by omega
      have HPL : Hid (((packTo l k).length : Int) = sumI l) := Lib.hid (by have := packTo_all (c := l) (fun x hx => by have := H9.out x hx; omega); rw [HL.out] at this; exact this)
      have HDN : Hid (d ≤ (packTo l k).length) := Lib.hid (by have h1 := HPL.out; have h2 := HD.out; omega)
      have HPK : Hid (packTo l l.length = packTo l k) := Lib.hid (by rw [HL.out])
      have HXR := Lib.hid (HX.out.below HBE.out)
      have HSP : Hid (Spun g w wr) := Lib.hid ⟨HBX.out.below HBE.out, grown_of_below (HB.out.trans (HBE.out.mono HB.out.size)) _⟩
      obtain ⟨N, hN⟩ : ∃ N, (packTo l k).length = N := ⟨_, rfl⟩
      obtain ⟨P, hP⟩ : ∃ P, packTo l k = P := ⟨_, rfl⟩
      rw [hN, hP] at HO
      rw [hN] at HDN hpl ⊢
      rw [hP] at HPK hN
      have HNN := Lib.hid hN
      clear hN hP HPL
      go_wp2_with fail
      refine (order_any g N wr HSP.out.box (by omega)).mono ?_; rintro e w2 ⟨B, cb, O, rfl, hperm, hownO, hsp⟩
      have HPE := Lib.hid hperm
      have hle : w.heap.size < wr.heap.size := by omega
      have HOP := Lib.hid (HO.out.spun_ hsp (by omega))
      have HOO := Lib.hid hownO
      have HX2 : Hid (Blk w2 w.heap.size 24 #[.slice A k c, .int .i64 d]) := Lib.hid (HXR.out.grown hsp.grown (fun e => by injection e with e; omega))
      have HSP2 := Lib.hid (HSP.out.trans hsp)
      have hsz2 := hsp.grown.size
      have f1 : w2.cell? ⟨w.heap.size, 1, none⟩ = some (.int .i64 d) := by rw [HX2.out.cell]; rfl
      clear hperm hownO hsp HSP HXR HO e0
      go_wp2_with fail
      go_loopw [9, 10] (fun s i wr => ∃ (j : Nat) (A3 : Option Addr) (c3 : Nat), j ≤ d ∧ i = .int .i64 j ∧ s = .slice A3 j c3 ∧ OwnI wr w2.heap.size 3 A3 j c3 ((O.map fun i => P.getD i.toNat 0).take j) ∧ Below w2.heap.size w2 wr) (fun _ i _ => d - (intOf i).toNat)
      case atStart => exact ⟨0, none, 0, by omega, rfl, rfl, OwnI.nil_ _ _ _, Below.refl _ _⟩
      case round =>
        obtain ⟨j, A3, c3, hj, rfl, rfl, hown, hbel⟩ := hrel
        have HO3 := Lib.hid hown
        have HB3 := Lib.hid hbel
        have HOP3 := Lib.hid (HOP.out.rd.below hbel)
        have HOO3 := Lib.hid (HOO.out.rd.below hbel)
        have f2 := (hbel.cell (p := ⟨w.heap.size, 1, none⟩) (by show w.heap.size < _; omega)).trans f1
        have hsz3 := hbel.size
        clear hown hbel
        by_cases hjd : j < d
        · have hdn := HDN.out
          obtain ⟨bd, o, rfl, _, ho, _, hco⟩ := HOO3.out.at_ (show j < N by omega)
          have hom := rangeI_mem.1 (HPE.out.mem_iff.1 (List.mem_of_getElem? ho.out))
          obtain ⟨o, rfl⟩ : ∃ o' : Nat, o = o' := ⟨o.toNat, by omega⟩
          obtain ⟨pd, v, rfl, _, hv, hv64, hcv⟩ := HOP3.out.at_ (show o < N by omega)
          have hoN : (o : Int) < N := hom.2
          have HT : Hid ((O.map fun i => P.getD i.toNat 0).take (j + 1) = (O.map fun i => P.getD i.toNat 0).take j ++ [v]) := Lib.hid (take_of_get (by rw [List.getElem?_map, ho.out]; simp only [Option.map_some, Int.toNat_natCast]; rw [getD_of_get hv.out]))
          have hjN : j < N := by omega
          have hd54 : d ≤ 1000 := by omega
          clear hom
          go_wp2_with (at_builtin; go_must (refine wpList_appI1 _ rfl (.tmp 41) (.tmp 49) rfl _ rfl rfl HO3.out (v := v) hv64 (by omega) hsz3 ?_); intro A4 c4 w' kk; have KK := Lib.hid kk; clear kk)
          go_roundw
          case rel => exact ⟨j + 1, A4, c4, by omega, by go_num, rfl, by rw [HT.out]; exact KK.out.own, HB3.out.trans KK.out.below⟩
          case measure => simp [intOf]; omega
        · obtain rfl : j = d := by omega
          have HC : Hid (CourseOk l j ((O.map fun i => P.getD i.toNat 0).take j)) := Lib.hid (course_ok (by
            rw [HPK.out]
            exact perm_pick (by rw [HNN.out]; exact HPE.out)) (by rw [List.length_map, HPE.out.length_eq, rangeI_len]; exact HDN.out))
          have HSF := Lib.hid (HSP2.out.below_ (HB3.out.mono HSP2.out.grown.size) hgl)
          have HOF := Lib.hid (HO3.out.mono HSP2.out.grown.size)
          go_wp2
          go_ret
          exact ⟨A3, c3, _, rfl, HC.out, HOF.out, HSF.out⟩

theorem mostTo_nn (c : List Int) (d : Int) (k : Nat) : 0 ≤ mostTo c d k := by
  induction k with
  | zero => exact Int.le_refl _
  | succ k ih => rw [mostTo_succ]; omega
theorem mostTo_le {c : List Int} {d : Int} (hz : chkS c d = 0) (k : Nat) (hk : k ≤ c.length) : mostTo c d k ≤ d := by
  have h := chkS_ok hz
  have hc := okCounts_mem h.2.2.1
  induction k with
  | zero => show (0 : Int) ≤ d; omega
  | succ k ih =>
    have h1 := ih (by omega)
    have h2 := sum_ge_mem (c := c) (fun v hv => by have := hc v hv; omega) _ (getD_mem (l := c) (i := k) (by omega))
    rw [mostTo_succ]; omega
theorem othTo_small {c : List Int} (h : ∀ x ∈ c, 0 ≤ x ∧ x ≤ 9) (k j : Nat) : (othTo c k j).length ≤ 9 * j := by
  induction j with
  | zero => simp [othTo]
  | succ j ih =>
    simp only [othTo]
    split
    · omega
    · have : c.getD j 0 ≤ 9 := by
        rw [List.getD_eq_getElem?_getD]
        cases e : c[j]? with
        | none => simp
        | some v => exact (h v (List.mem_of_getElem? e)).2
      rw [List.length_append, List.length_replicate]; omega

set_option maxHeartbeats 2000000 in
set_option maxRecDepth 100000 in
theorem reached_any (A : Option Addr) (n c : Nat) (l : List Int) (d : Nat) (m : Int) (w : World) (h : RdI w A n l) (hz : chkS l d = 0) (hm : mostN l d = m) :
    Calls Try.prog 54 #[.agg #[.slice A n c, .int .i64 d], .int .i64 m] w fun e w' => e = .returned (.bool true) ∧ Below w.heap.size w w' := by
  have hlen := h.len
  have hok := chkS_ok hz
  have hd64 : I64 d := I64.small (by omega)
  have h6 : n ≤ 6 := by omega
  have hd9 : d ≤ 9 := by omega
  have H9 : Hid (∀ x ∈ l, 1 ≤ x ∧ x ≤ 9) := Lib.hid (okCounts_mem hok.2.2.1)
  have HS54 := Lib.hid hok.2.2.2.2.2
  clear hok
  go_enter Try.func54, Try.ntmps54
  go_upto_region 1 with fail
  have HA := Lib.hid (h.alloc (.cells #[.slice A n c, .int .i64 d] 24))
  have HB := Lib.hid ((Below.refl _ w).alloc (Nat.le_refl _) (.cells #[.slice A n c, .int .i64 d] 24))
  have HX := Lib.hid (Blk.new w 24 #[.slice A n c, .int .i64 d])
  have HL := Lib.hid hlen
  have HZ := Lib.hid hz
  have HM := Lib.hid hm
  clear h hlen hz hm
  have hWs : w.heap.size < (w.alloc (.cells #[.slice A n c, .int .i64 d] 24)).heap.size := by simp
  generalize w.alloc (.cells #[.slice A n c, .int .i64 d] 24) = W at HA HB HX hWs ⊢
  have c0 : W.cell? ⟨w.heap.size, 0, none⟩ = some (.slice A n c) := by rw [HX.out.cell]; rfl
  have c1 : W.cell? ⟨w.heap.size, 1, none⟩ = some (.int .i64 d) := by rw [HX.out.cell]; rfl
  go_wp2_with fail
  go_loopw [5, 6] (fun b k wr => ∃ j : Nat, j ≤ n ∧ k = .int .i64 j ∧ b = .int .i64 (mostTo l d j) ∧ Below W.heap.size W wr) (fun _ k _ => n - (intOf k).toNat)
  case atStart => exact ⟨0, by omega, rfl, rfl, Below.refl _ _⟩
  case round =>
    obtain ⟨k, hk, rfl, rfl, hbel⟩ := hrel
    obtain ⟨b, hb⟩ : ∃ b, mostTo l d k = b := ⟨_, rfl⟩
    have hb0 := mostTo_nn l d k
    have hb9 := mostTo_le HZ.out k (by rw [HL.out]; exact hk)
    rw [hb] at hb0 hb9 ⊢
    have HBB := Lib.hid hb
    have HBE := Lib.hid hbel
    have HA1 := Lib.hid (HA.out.below hbel)
    have e0 := (hbel.cell (p := ⟨w.heap.size, 0, none⟩) hWs).trans c0
    have e1 := (hbel.cell (p := ⟨w.heap.size, 1, none⟩) hWs).trans c1
    have hszr := hbel.size
    obtain ⟨w1, rfl⟩ : ∃ w1, w1 = wr := ⟨_, rfl⟩
    clear hbel hb
    by_cases hlt : k < n
    · go_wp2_with fail
      go_loopw [7, 8] (fun s i wr => ∃ (j : Nat) (A' : Option Addr) (c' : Nat), j ≤ n ∧ i = .int .i64 j ∧ s = .slice A' (othTo l k j).length c' ∧ OwnI wr w1.heap.size 3 A' (othTo l k j).length c' (othTo l k j) ∧ Below w1.heap.size w1 wr) (fun _ i _ => n - (intOf i).toNat)
      case atStart => exact ⟨0, none, 0, by omega, rfl, rfl, OwnI.nil_ _ _ _, Below.refl _ _⟩
      case round =>
        obtain ⟨j, A', c', hj, rfl, rfl, hown, hbel⟩ := hrel
        have HO := Lib.hid hown
        have HBE2 := Lib.hid hbel
        have HA2 := Lib.hid (HA1.out.below hbel)
        have hlw : w.heap.size < w1.heap.size := by omega
        have i0 := (hbel.cell (p := ⟨w.heap.size, 0, none⟩) hlw).trans e0
        have i1 := (hbel.cell (p := ⟨w.heap.size, 1, none⟩) hlw).trans e1
        have hsz2 := hbel.size
        have hol := othTo_small (c := l) (fun x hx => by have := H9.out x hx; omega) k j
        clear hown hbel
        by_cases hjn : j < n
        · obtain ⟨ad, v, rfl, hadl, hv, _, hcell⟩ := HA2.out.at_ hjn
          have hv9 := H9.out v (List.mem_of_getElem? hv.out)
          obtain ⟨v, rfl⟩ : ∃ v' : Nat, v = v' := ⟨v.toNat, by omega⟩
          by_cases hjk : j = k
          · have HN : Hid (othTo l k (j + 1) = othTo l k j) := Lib.hid (by simp only [othTo]; rw [if_pos hjk])
            have gk : ((j : Int) != k) = false := by simp; omega
            have hv0 : (0 : Int) < v := by omega
            subst hjk
            go_wp2_with fail
            go_loopw [7, 9] (fun s i w3 => s = .slice A' (othTo l j j).length c' ∧ i = .int .i64 0 ∧ w3 = wr) (fun _ _ _ => 0)
            case atStart => exact ⟨rfl, rfl, rfl⟩
            case round =>
              obtain ⟨rfl, rfl, rfl⟩ := hrel
              go_wp2
              go_roundw
              case rel => exact ⟨j + 1, A', c', by omega, by go_num, by rw [HN.out], by rw [HN.out]; exact HO.out, HBE2.out⟩
              case measure => simp [intOf]; omega
          · have HN : Hid (othTo l k (j + 1) = othTo l k j ++ List.replicate v (j : Int)) := Lib.hid (by simp only [othTo]; rw [if_neg hjk, getD_of_get hv.out]; rfl)
            have HNL : Hid ((othTo l k (j + 1)).length = (othTo l k j).length + v) := Lib.hid (by rw [HN.out]; simp)
            have gk : ((j : Int) != k) = true := by simp; omega
            have hadw1 : ad.block < w1.heap.size := by
              obtain ⟨ad', _, e, hb, _⟩ := HA1.out.at_ hjn
              injection e with e; subst e; exact hb
            obtain ⟨w2, rfl⟩ : ∃ w2, w2 = wr := ⟨_, rfl⟩
            clear hjk
            go_wp2_with fail
            go_loopw [7, 9] (fun s i wr => ∃ (q : Nat) (A2 : Option Addr) (c2 : Nat), q ≤ v ∧ i = .int .i64 q ∧ s = .slice A2 ((othTo l k j).length + q) c2 ∧ OwnI wr w1.heap.size 3 A2 ((othTo l k j).length + q) c2 (othTo l k j ++ List.replicate q (j : Int)) ∧ Below w1.heap.size w1 wr ∧ wr.cell? (ad.add j) = some (.int .i64 v)) (fun _ i _ => v - (intOf i).toNat)
            case atStart => exact ⟨0, A', c', by omega, rfl, rfl, by simpa using HO.out, HBE2.out, hcell⟩
            case round =>
              obtain ⟨q, A2, c2, hq, rfl, rfl, hown, hbel, hcl⟩ := hrel
              have HO2 := Lib.hid hown
              have HBE3 := Lib.hid hbel
              have j0 := (hbel.cell (p := ⟨w.heap.size, 0, none⟩) hlw).trans e0
              have hsz3 := hbel.size
              clear hown hbel
              by_cases hqv : q < v
              · have HR : Hid (othTo l k j ++ List.replicate (q + 1) (j : Int) = (othTo l k j ++ List.replicate q (j : Int)) ++ [(j : Int)]) := Lib.hid (by rw [List.replicate_succ', List.append_assoc])
                go_wp2_with (at_builtin; go_must (refine wpList_appI1 _ rfl (.tmp 41) (.tmp 43) rfl _ rfl rfl HO2.out (v := (j : Int)) (I64.small (by omega)) (by omega) hsz3 ?_); intro A3 c3 w' kk; have KK := Lib.hid kk; clear kk)
                go_roundw
                case rel => exact ⟨q + 1, A3, c3, by omega, by go_num, rfl, by rw [HR.out]; exact KK.out.own, HBE3.out.trans KK.out.below, (KK.out.below.cell (p := ad.add j) (by rw [block_of_add]; exact hadw1)).trans hcl⟩
                case measure => simp [intOf]; omega
              · obtain rfl : q = v := by omega
                rw [← HNL.out] at HO2 ⊢
                rw [← HN.out] at HO2
                go_wp2
                go_roundw
                case rel => exact ⟨j + 1, A2, c2, by omega, by go_num, rfl, HO2.out, HBE3.out⟩
                case measure => simp [intOf]; omega
        · obtain rfl : j = n := by omega
          obtain ⟨ad, v, rfl, hadl, hv, _, hcell⟩ := HA1.out.at_ hlt
          have HOL := othTo_all (c := l) (fun x hx => by have := H9.out x hx; omega) (k := k) (by rw [HL.out]; exact hlt)
          have HRE : Hid (∀ _h : sumI l - l.getD k 0 ≤ d, ∃ K, restE l d (othTo l k j) = (K, (d : Int) - (sumI l - l.getD k 0), 0)) := Lib.hid (fun hle => by have := restE_oth HZ.out (k := k) (by rw [HL.out]; exact hlt) hle; rwa [HL.out] at this)
          have HMS : Hid (mostTo l d (k + 1) = max b (d - (sumI l - l.getD k 0))) := Lib.hid (by rw [mostTo_succ, HBB.out])
          rw [HL.out] at HOL
          obtain ⟨o, ho⟩ : ∃ o, sumI l - l.getD k 0 = o := ⟨_, rfl⟩
          rw [ho] at HOL HRE HMS
          obtain ⟨S, hS⟩ : ∃ S, othTo l k j = S := ⟨_, rfl⟩
          rw [hS] at HO hol HOL HRE ⊢
          have HOLL := Lib.hid HOL
          clear HOL ho hS hv
          by_cases hod : o ≤ d
          · obtain ⟨K, hK⟩ := HRE.out hod
            have HKE := Lib.hid hK
            clear hK
            have hle : ¬ ((d : Int) < S.length) := by rw [HOLL.out]; omega
            have hle2 : (S.length : Int) ≤ d := by omega
            clear hle
            go_wp2_with fail
            refine (rest_any _ _ _ _ _ _ l S d wr HA2.out HO.out.rd hd64).mono ?_; rintro e w3 ⟨A3, c3, rfl, _, hb3⟩
            rw [HKE.out]
            have HBF := Lib.hid (HBE.out.trans ((HBE2.out.trans (hb3.mono HBE2.out.size)).mono HBE.out.size))
            have ho0 : 0 ≤ o := by have := HOLL.out; omega
            clear hb3
            go_wp2
            go_roundw
            case rel => exact ⟨k + 1, by omega, by go_num, by rw [HMS.out], HBF.out⟩
            case measure => simp [intOf]; omega
          · have hlt2 : (d : Int) < S.length := by rw [HOLL.out]; omega
            have HMB : Hid (max b ((d : Int) - o) = b) := Lib.hid (by omega)
            have HBF := Lib.hid (HBE.out.trans (HBE2.out.mono HBE.out.size))
            clear hod
            go_wp2
            go_roundw
            case rel => exact ⟨k + 1, by omega, by go_num, by rw [HMS.out, HMB.out], HBF.out⟩
            case measure => simp [intOf]; omega
    · obtain rfl : k = n := by omega
      have HE : Hid (b = m) := Lib.hid (by rw [← HBB.out, ← HM.out, ← HL.out]; exact mostTo_all (by have := HS54.out; omega))
      rw [HE.out]
      have HBF := Lib.hid (HB.out.trans (HBE.out.mono HB.out.size))
      go_wp2
      go_ret
      exact ⟨ret_bool (by simp), HBF.out⟩
end Go.Proofs.Ytcmacejpoihhlaa

namespace Go.Proofs.Ytcmacejpoihhlaa
open Go.RowKit

theorem okOrd_out {n : Nat} {l : List Int} {k : Nat} {v : Int} (hv : l[k]? = some v) (h : v < 0 ∨ (n : Int) - 1 < v) : okOrd n l = false := by
  cases e : okOrd n l with
  | false => rfl
  | true => have := okOrd_mem e v (List.mem_of_getElem? hv); omega
theorem okOrd_twice {n : Nat} {l : List Int} {k j : Nat} {v : Int} (hk : l[k]? = some v) (hj : l[j]? = some v) (hjk : j < k) (hkn : k < n) : okOrd n l = false := by
  cases e : okOrd n l with
  | false => rfl
  | true =>
    have := okOrd_ne e hkn hjk
    rw [getD_of_get hk, getD_of_get hj] at this
    exact absurd rfl this

set_option maxHeartbeats 2000000 in
set_option maxRecDepth 100000 in
theorem rcheckO_q (A : Option Addr) (m c : Nat) (L : List (List Int)) (n : Int) (w : World) (h : RdL w A m L) (_hn : I64 n) : Calls Try.prog 63 #[.int .i64 n, .slice A m c] w fun e w' => e = .returned (.int .i64 (ordE n L)) ∧ ∃ k, w' = w.drewN k := by
  have hml := h.len
  have hmb := h.bd
  have HL := Lib.hid hml
  by_cases h1 : n < 1 ∨ 12 < n
  · have HV := Lib.hid (ordE_range (L := L) h1)
    have HW := Lib.hid (within_no (lo := 1) (n := n) (hi := 12) (by omega))
    clear h1 hml
    go_enter Try.func63, Try.ntmps63
    go_wp2_with fail
    refine (rwithin_any n 1 12 w).mono ?_; rintro e w' ⟨rfl, rfl⟩
    rw [HW.out]
    go_wp2
    go_ret
    exact ⟨ret_int HV.out.symm, 0, rfl⟩
  have hn12 : 1 ≤ n ∧ n ≤ 12 := by omega
  obtain ⟨n, rfl⟩ : ∃ n' : Nat, n = n' := ⟨n.toNat, by omega⟩
  have HW := Lib.hid (within_yes (lo := 1) (n := (n : Int)) (hi := 12) (by omega) (by omega))
  have hn12' : n ≤ 12 := by omega
  have hn1' : 1 ≤ n := by omega
  clear h1
  by_cases h60 : 60 < m
  · have HV := Lib.hid (ordE_full (L := L) hn12 (by omega))
    have h60I : (60 : Int) < m := by omega
    clear hml hn12
    go_enter Try.func63, Try.ntmps63
    go_wp2_with fail
    refine (rwithin_any n 1 12 w).mono ?_; rintro e w' ⟨rfl, rfl⟩
    rw [HW.out]
    go_wp2
    go_ret
    exact ⟨ret_int HV.out.symm, 0, rfl⟩
  have h60I : (m : Int) ≤ 60 := by omega
  have HV3 : Hid (∀ (j : Nat) o, L[j]? = some o → okOrd n o = false → ordE n L = 3) := Lib.hid (fun j o hj ho => ordE_form ⟨hn1', hn12'⟩ (by omega) hj ho)
  have H0 := Lib.hid h
  clear hml hn12 h
  go_enter Try.func63, Try.ntmps63
  go_wp2_with fail
  refine (rwithin_any n 1 12 w).mono ?_; rintro e w' ⟨rfl, rfl⟩
  rw [HW.out]
  go_wp2_with fail
  go_loopw [5] (fun i wr => ∃ j : Nat, j ≤ m ∧ i = .int .i64 j ∧ Hid (∀ o ∈ L.take j, okOrd n o = true) ∧ ∃ k, wr = w'.drewN k) (fun i _ => m - (intOf i).toNat)
  case atStart => exact ⟨0, by omega, rfl, Lib.hid (fun o ho => by cases ho), 0, rfl⟩
  case round =>
    obtain ⟨j, hj, rfl, HJ, d0, rfl⟩ := hrel
    by_cases hjm : j < m
    · obtain ⟨ad, B, q, d, o, rfl, hadb, ho, hro, hcell⟩ := H0.out.at_ hjm
      have HR := Lib.hid hro
      have hjI : (j : Int) < m := by omega
      have HOL := Lib.hid hro.len
      clear hro
      by_cases hqn : q = n
      · subst hqn
        go_wp2_with fail
        go_loopw [6] (fun i wr => ∃ k : Nat, k ≤ q ∧ i = .int .i64 k ∧ Hid (∀ x : Nat, x < k → 0 ≤ o.getD x 0 ∧ o.getD x 0 < (q : Int)) ∧ Hid (∀ x y : Nat, x < k → y < x → o.getD y 0 ≠ o.getD x 0) ∧ ∃ k, wr = w'.drewN k) (fun i _ => q - (intOf i).toNat)
        case atStart => exact ⟨0, by omega, rfl, Lib.hid (fun x hx => by omega), Lib.hid (fun x y hx => by omega), d0, rfl⟩
        case round =>
          obtain ⟨k, hk, rfl, HG, HD, d1, rfl⟩ := hrel
          by_cases hkq : k < q
          · obtain ⟨bd, v, rfl, _, hv, _, hcv⟩ := HR.out.at_ hkq
            have hkI : (k : Int) < q := by omega
            have hq1 : (q : Int) - 1 = ((q - 1 : Nat) : Int) := by omega
            by_cases hr : v < 0 ∨ (q : Int) - 1 < v
            · have HB := Lib.hid (HV3.out j o ho.out (okOrd_out hv.out hr))
              have HWN := Lib.hid (within_no (lo := 0) (n := v) (hi := (q : Int) - 1) hr)
              clear hr hq1
              go_wp2_with fail
              refine (rwithin_any v 0 ((q : Int) - 1) _).mono ?_; rintro e w2 ⟨rfl, rfl⟩
              rw [HWN.out]
              go_wp2
              go_ret
              exact ⟨ret_int HB.out.symm, _, rfl⟩
            · have HWY := Lib.hid (within_yes (lo := 0) (n := v) (hi := (q : Int) - 1) (by omega) (by omega))
              have hv0 : 0 ≤ v := by omega
              have hvq : v < q := by omega
              clear hr hq1
              go_wp2_with fail
              refine (rwithin_any v 0 ((q : Int) - 1) _).mono ?_; rintro e w2 ⟨rfl, hw2⟩
              subst hw2
              rw [HWY.out]
              go_wp2_with fail
              go_loopw [7] (fun i wr => ∃ y : Nat, y ≤ k ∧ i = .int .i64 y ∧ Hid (∀ x : Nat, x < y → o.getD x 0 ≠ v) ∧ ∃ k, wr = w'.drewN k) (fun i _ => k - (intOf i).toNat)
              case atStart => exact ⟨0, by omega, rfl, Lib.hid (fun x hx => by omega), d1, rfl⟩
              case round =>
                obtain ⟨y, hy, rfl, HY, d2, rfl⟩ := hrel
                by_cases hyk : y < k
                · obtain ⟨bd', u, e, _, hu, _, hcu⟩ := HR.out.at_ (show y < q by omega)
                  injection e with e
                  subst e
                  have hyI : (y : Int) < q := by omega
                  by_cases huv : u = v
                  · subst huv
                    have HB := Lib.hid (HV3.out j o ho.out (okOrd_twice hv.out hu.out hyk hkq))
                    go_upto_region 18 with fail
                    go_quiet (fail)
                    go_wp2
                    go_ret
                    exact ⟨ret_int HB.out.symm, by first | exact ⟨_, rfl⟩ | exact ⟨_, World.drewN_drewN _ _ _⟩⟩
                  · have HY2 : Hid (∀ x : Nat, x < y + 1 → o.getD x 0 ≠ v) := Lib.hid (fun x hx => by
                      by_cases e : x = y
                      · rw [e, getD_of_get hu.out]; exact huv
                      · exact HY.out x (by omega))
                    have guv : (u == v) = false := by simpa using huv
                    clear huv
                    go_upto_region 18 with fail
                    go_quiet (fail)
                    go_wp2
                    go_roundw
                    case rel => exact ⟨y + 1, by omega, by go_num, HY2, _, rfl⟩
                    case measure => simp [intOf]; omega
                · have HG2 : Hid (∀ x : Nat, x < k + 1 → 0 ≤ o.getD x 0 ∧ o.getD x 0 < (q : Int)) := Lib.hid (fun x hx => by
                    by_cases e : x = k
                    · rw [e, getD_of_get hv.out]; exact ⟨hv0, hvq⟩
                    · exact HG.out x (by omega))
                  have HD2 : Hid (∀ x y : Nat, x < k + 1 → y < x → o.getD y 0 ≠ o.getD x 0) := Lib.hid (fun x z hx hz => by
                    by_cases e : x = k
                    · rw [e, getD_of_get hv.out]; exact HY.out z (by omega)
                    · exact HD.out x z (by omega) hz)
                  go_wp2
                  go_roundw
                  case rel => exact ⟨k + 1, by omega, by go_num, HG2, HD2, _, rfl⟩
                  case measure => simp [intOf]; omega
          · have HT : Hid (∀ o' ∈ L.take (j + 1), okOrd q o' = true) := Lib.hid (fun o' ho' => by
              rw [take_of_get ho.out] at ho'
              rcases List.mem_append.1 ho' with h9 | h9
              · exact HJ.out o' h9
              · simp at h9; subst h9
                exact okOrd_ref HOL.out (fun k' hk' => HG.out k' (by omega)) (fun k' j' hk' hj' => HD.out k' j' (by omega) hj'))
            go_wp2
            go_roundw
            case rel => exact ⟨j + 1, by omega, by go_num, HT, _, rfl⟩
            case measure => simp [intOf]; omega
      · have HB := Lib.hid (HV3.out j o ho.out (okOrd_nolen (by rw [HOL.out]; exact hqn)))
        have gq : ((q : Int) != n) = true := by simp; omega
        clear hqn
        go_wp2
        go_ret
        exact ⟨ret_int HB.out.symm, _, rfl⟩
    · have HZ : Hid (ordE (n : Int) L = 0) := Lib.hid (ordE_of hn1' hn12' (by rw [HL.out]; omega) (fun o ho => HJ.out o (by rw [List.take_of_length_le (by rw [HL.out]; omega)]; exact ho)))
      go_wp2
      go_ret
      exact ⟨ret_int HZ.out.symm, _, rfl⟩
theorem rcheckO_any (A : Option Addr) (m c : Nat) (L : List (List Int)) (n : Int) (w : World) (h : RdL w A m L) (hn : I64 n) : Calls Try.prog 63 #[.int .i64 n, .slice A m c] w fun e w' => e = .returned (.int .i64 (ordE n L)) ∧ Below w.heap.size w w' :=
  (rcheckO_q A m c L n w h hn).mono fun _ _ ⟨h1, k, h2⟩ => ⟨h1, by rw [h2]; exact below_drewN (Below.refl _ _) k⟩
end Go.Proofs.Ytcmacejpoihhlaa

namespace Go.Proofs.Ytcmacejpoihhlaa
open Go.RowKit

theorem sS_01 {n : Nat} {f : Nat → Int} (h : ∀ k, f k = 0 ∨ f k = 1) : 0 ≤ sS n f ∧ sS n f ≤ n := by
  induction n with
  | zero => simp [sS_zero]
  | succ n ih => rw [sS_succ]; have := h n; omega
theorem plc_succ (L : List (List Int)) (a b j : Nat) : plc L a b (j + 1) = plc L a b j + if (L.getD j []).getD b 0 = (a : Int) then 1 else 0 := sS_succ _ _
theorem adj_succ (o : List Int) (b a k : Nat) : adj o b a (k + 1) = adj o b a k + if 0 < k ∧ o.getD (k - 1) 0 = (b : Int) ∧ o.getD k 0 = (a : Int) then 1 else 0 := sS_succ _ _
theorem adj_one (o : List Int) (b a : Nat) : adj o b a 1 = 0 := rfl
theorem fol_succ (L : List (List Int)) (b a j : Nat) : fol L b a (j + 1) = fol L b a j + adj (L.getD j []) b a (L.getD j []).length := sS_succ _ _
theorem plc_bd (L : List (List Int)) (a b j : Nat) : 0 ≤ plc L a b j ∧ plc L a b j ≤ j := sS_01 fun k => by split <;> simp
theorem adj_bd (o : List Int) (b a k : Nat) : 0 ≤ adj o b a k ∧ adj o b a k ≤ k := sS_01 fun k => by split <;> simp
theorem fol_bd {L : List (List Int)} {n : Nat} (h : ∀ o ∈ L, o.length = n) (b a : Nat) {j : Nat} (hj : j ≤ L.length) : 0 ≤ fol L b a j ∧ fol L b a j ≤ (j * n : Nat) := by
  induction j with
  | zero => exact ⟨Int.le_refl _, by rw [Nat.zero_mul]; exact Int.le_refl _⟩
  | succ j ih =>
    have h1 := ih (by omega)
    have h2 := adj_bd (L.getD j []) b a (L.getD j []).length
    have h3 : (L.getD j []).length = n := h _ (by rw [List.getD_eq_getElem?_getD, List.getElem?_eq_getElem (by omega)]; exact List.getElem_mem _)
    rw [fol_succ, Nat.succ_mul]
    rw [h3] at h2 ⊢
    omega

set_option maxHeartbeats 1000000 in
set_option maxRecDepth 100000 in
theorem placed_any (A : Option Addr) (m c n : Nat) (L : List (List Int)) (a b : Nat) (w : World) (h : RdL w A m L) (hm : m ≤ 61) (hL : Hid (∀ o ∈ L, o.length = n)) (hb : b < n) : Calls Try.prog 128 #[.slice A m c, .int .i64 (a : Int), .int .i64 (b : Int)] w (Num (plF L a b) w) := by
  have hml := h.len
  have HE : Hid (plF L a b = plc L a b m) := Lib.hid (by unfold plF; rw [hml])
  have H0 := Lib.hid h
  clear hml h
  go_enter Try.func128, Try.ntmps128
  go_wp2_with fail
  go_loop [7, 8] (fun v i => ∃ j : Nat, j ≤ m ∧ i = .int .i64 j ∧ ∃ y : Int, v = .int .i64 y ∧ Hid (y = plc L a b j) ∧ 0 ≤ y ∧ y ≤ j) (fun _ i => m - (intOf i).toNat)
  case atStart => exact ⟨0, by omega, rfl, 0, rfl, Lib.hid rfl, by omega, by omega⟩
  case round =>
    obtain ⟨j, hj, rfl, y, rfl, HY, hy0, hyj⟩ := hrel
    by_cases hjm : j < m
    · obtain ⟨ad, B, q, d, o, rfl, _, ho, hro, hcell⟩ := H0.out.at_ hjm
      have hqn : q = n := by rw [← hro.len]; exact hL.out o (List.mem_of_getElem? ho.out)
      subst hqn
      obtain ⟨bd, v, rfl, _, hv, _, hcv⟩ := hro.at_ hb
      clear hro
      have hjI : (j : Int) < m := by omega
      have hbI : (b : Int) < q := by omega
      have HS : Hid (plc L a b (j + 1) = y + if v = (a : Int) then 1 else 0) := Lib.hid (by rw [plc_succ, HY.out, getD_of_get ho.out, getD_of_get hv.out])
      by_cases hva : v = (a : Int)
      · have HS2 : Hid (y + 1 = plc L a b (j + 1)) := Lib.hid (by rw [HS.out, if_pos hva])
        have gva : (v == (a : Int)) = true := by simpa using hva
        clear hva
        go_wp2
        go_round
        case rel => exact ⟨j + 1, by omega, by go_num, y + 1, by go_num, HS2, by omega, by omega⟩
        case measure => simp [intOf]; omega
      · have HS2 : Hid (y = plc L a b (j + 1)) := Lib.hid (by rw [HS.out, if_neg hva]; omega)
        have gva : (v == (a : Int)) = false := by simpa using hva
        clear hva
        go_wp2
        go_round
        case rel => exact ⟨j + 1, by omega, by go_num, y, rfl, HS2, by omega, by omega⟩
        case measure => simp [intOf]; omega
    · have HZ : Hid (y = plF L a b) := Lib.hid (by rw [HE.out, HY.out, show j = m by omega])
      go_wp2
      go_ret
      exact ⟨ret_int HZ.out, rfl⟩

theorem seqd_I64 {l : List Int} (h : l ≠ []) {M : Int} (hl : ∀ v ∈ l, 0 ≤ v ∧ v ≤ M) : 0 ≤ mnD l ∧ mnD l ≤ M ∧ 0 ≤ mxD l ∧ mxD l ≤ M := by
  have h1 := hl _ (mxD_spec l h).1
  have h2 := hl _ (mnD_spec l h).1
  omega
theorem take_ne {l : List Int} {j : Nat} (h0 : 0 < j) (hl : l ≠ []) : l.take j ≠ [] := by
  cases l with
  | nil => exact absurd rfl hl
  | cons x r =>
    cases j with
    | zero => omega
    | succ j => simp
/-- the state of the loop over a list: the list itself first -/
def mxA (l : List Int) (j : Nat) : Int := if j = 0 then l.getD 0 0 else mxD (l.take j)
def mnA (l : List Int) (j : Nat) : Int := if j = 0 then l.getD 0 0 else mnD (l.take j)
theorem mxA_succ {l : List Int} {j : Nat} {v : Int} (h : l[j]? = some v) : mxA l (j + 1) = max (mxA l j) v := by
  unfold mxA
  rw [if_neg (by omega)]
  by_cases e : j = 0
  · subst e
    rw [if_pos rfl, getD_of_get h, take_of_get h]
    show mxD ([] ++ [v]) = _
    simp [mxD]
  · rw [if_neg e, take_of_get h, mxD_snoc (take_ne (by omega) (by rintro rfl; simp at h))]
theorem mnA_succ {l : List Int} {j : Nat} {v : Int} (h : l[j]? = some v) : mnA l (j + 1) = min (mnA l j) v := by
  unfold mnA
  rw [if_neg (by omega)]
  by_cases e : j = 0
  · subst e
    rw [if_pos rfl, getD_of_get h, take_of_get h]
    show mnD ([] ++ [v]) = _
    simp [mnD]
  · rw [if_neg e, take_of_get h, mnD_snoc (take_ne (by omega) (by rintro rfl; simp at h))]
theorem mxA_end {l : List Int} (h : l ≠ []) : mxA l l.length = mxD l := by unfold mxA; rw [if_neg (by cases l with | nil => exact absurd rfl h | cons x r => simp), List.take_length]
theorem mnA_end {l : List Int} (h : l ≠ []) : mnA l l.length = mnD l := by unfold mnA; rw [if_neg (by cases l with | nil => exact absurd rfl h | cons x r => simp), List.take_length]

set_option maxHeartbeats 1000000 in
set_option maxRecDepth 100000 in
theorem followed_any (A : Option Addr) (m c n : Nat) (L : List (List Int)) (a b : Nat) (w : World) (h : RdL w A m L) (hm : m ≤ 61) (hL : Hid (∀ o ∈ L, o.length = n)) (hn : n ≤ 12) (hn1 : 1 ≤ n) : Calls Try.prog 129 #[.slice A m c, .int .i64 (a : Int), .int .i64 (b : Int)] w (Num (foF L a b) w) := by
  have HLm := Lib.hid h.len
  have HE : Hid (foF L a b = fol L a b m) := Lib.hid (by unfold foF; rw [HLm.out])
  have H0 := Lib.hid h
  clear h
  go_enter Try.func129, Try.ntmps129
  go_wp2_with fail
  go_loop [7, 8] (fun v i => ∃ j : Nat, j ≤ m ∧ i = .int .i64 j ∧ ∃ y : Int, v = .int .i64 y ∧ Hid (y = fol L a b j) ∧ 0 ≤ y ∧ y ≤ 1000) (fun _ i => m - (intOf i).toNat)
  case atStart => exact ⟨0, by omega, rfl, 0, rfl, Lib.hid rfl, by omega, by omega⟩
  case round =>
    obtain ⟨j, hj, rfl, y, rfl, HY, hy0, hyj⟩ := hrel
    by_cases hjm : j < m
    · obtain ⟨ad, B, q, d, o, rfl, _, ho, hro, hcell⟩ := H0.out.at_ hjm
      have hqn : q = n := by rw [← hro.len]; exact hL.out o (List.mem_of_getElem? ho.out)
      subst hqn
      have HR := Lib.hid hro
      have HOL := Lib.hid hro.len
      clear hro
      have hjI : (j : Int) < m := by omega
      have HB : Hid (∀ k : Nat, k ≤ q → 0 ≤ fol L a b j + adj o a b k ∧ fol L a b j + adj o a b k ≤ 1000) := Lib.hid (fun k hk => by
        have h1 := fol_bd hL.out a b (j := j) (by rw [HLm.out]; exact hj)
        have h2 := adj_bd o a b k
        have h3 : j * q ≤ 61 * 12 := Nat.mul_le_mul (by omega) hn
        omega)
      go_wp2_with fail
      go_loop [7, 9] (fun v i => ∃ k : Nat, 1 ≤ k ∧ k ≤ q ∧ i = .int .i64 k ∧ ∃ y : Int, v = .int .i64 y ∧ Hid (y = fol L a b j + adj o a b k) ∧ 0 ≤ y ∧ y ≤ 1000) (fun _ i => q - (intOf i).toNat)
      case atStart => exact ⟨1, by omega, by omega, rfl, y, rfl, Lib.hid (by rw [adj_one, HY.out]; omega), hy0, hyj⟩
      case round =>
        clear HY hy0 hyj
        obtain ⟨k, hk1, hk, rfl, y, rfl, HY, hy0, hyj⟩ := hrel
        by_cases hkq : k < q
        · obtain ⟨k, rfl⟩ : ∃ k' : Nat, k = k' + 1 := ⟨k - 1, by omega⟩
          obtain ⟨bd, u, rfl, _, hu, _, hcu⟩ := HR.out.at_ (show k < q by omega)
          obtain ⟨bd', v, e, _, hv, _, hcv⟩ := HR.out.at_ hkq
          injection e with e
          subst e
          have hcv2 : w.cell? { block := bd.block, off := bd.off + (k + 1) } = some (.int .i64 v) := by simpa [Addr.add] using hcv
          have hkI : (k : Int) + 1 < q := by omega
          have hB2 := HB.out (k + 1 + 1) (by omega)
          have HS : Hid (fol L a b j + adj o a b (k + 1 + 1) = y + if u = (a : Int) ∧ v = (b : Int) then 1 else 0) := Lib.hid (by
            rw [adj_succ, HY.out, getD_of_get hv.out, show k + 1 - 1 = k by omega, getD_of_get hu.out, Int.add_assoc]
            by_cases h9 : u = (a : Int) ∧ v = (b : Int)
            · rw [if_pos h9, if_pos ⟨by omega, h9⟩]
            · rw [if_neg h9, if_neg (fun h => h9 h.2)])
          have HB3 := Lib.hid hB2
          clear hB2
          by_cases hua : u = (a : Int)
          · have gua : (u == (a : Int)) = true := by simpa using hua
            by_cases hvb : v = (b : Int)
            · have gvb : (v == (b : Int)) = true := by simpa using hvb
              have HS2 : Hid (y + 1 = fol L a b j + adj o a b (k + 1 + 1)) := Lib.hid (by rw [HS.out, if_pos ⟨hua, hvb⟩])
              have hy2 : y + 1 ≤ 1000 := by rw [HS2.out]; exact HB3.out.2
              clear hua hvb
              go_wp2
              go_round
              case rel => exact ⟨k + 1 + 1, by omega, by omega, by go_num, y + 1, by go_num, HS2, by omega, hy2⟩
              case measure => simp [intOf]; omega
            · have gvb : (v == (b : Int)) = false := by simpa using hvb
              have HS2 : Hid (y = fol L a b j + adj o a b (k + 1 + 1)) := Lib.hid (by rw [HS.out, if_neg (fun h => hvb h.2)]; omega)
              clear hua hvb
              go_wp2
              go_round
              case rel => exact ⟨k + 1 + 1, by omega, by omega, by go_num, y, rfl, HS2, by omega, by omega⟩
              case measure => simp [intOf]; omega
          · have gua : (u == (a : Int)) = false := by simpa using hua
            have HS2 : Hid (y = fol L a b j + adj o a b (k + 1 + 1)) := Lib.hid (by rw [HS.out, if_neg (fun h => hua h.1)]; omega)
            clear hua
            go_wp2
            go_round
            case rel => exact ⟨k + 1 + 1, by omega, by omega, by go_num, y, rfl, HS2, by omega, by omega⟩
            case measure => simp [intOf]; omega
        · have HZ : Hid (y = fol L a b (j + 1)) := Lib.hid (by
            have e : k = q := by omega
            rw [fol_succ, HY.out, getD_of_get ho.out, HOL.out, e])
          go_wp2
          go_round
          case rel => exact ⟨j + 1, by omega, by go_num, y, rfl, HZ, by omega, by omega⟩
          case measure => simp [intOf]; omega
    · have HZ : Hid (y = foF L a b) := Lib.hid (by rw [HE.out, HY.out, show j = m by omega])
      go_wp2
      go_ret
      exact ⟨ret_int HZ.out, rfl⟩

set_option maxHeartbeats 1000000 in
set_option maxRecDepth 100000 in
theorem difference_any (A : Option Addr) (m c : Nat) (l : List Int) (w : World) (h : RdI w A m l) (M : Int) (hM : M ≤ 1000) (hl : Hid (∀ v ∈ l, 0 ≤ v ∧ v ≤ M)) : Calls Try.prog 130 #[.slice A m c] w fun e w' => e = .returned (.int .i64 (difD l)) ∧ ∃ k, w' = w.drewN k := by
  have HLm := Lib.hid h.len
  have hmb := h.bd
  have H0 := Lib.hid h
  clear h
  by_cases hm0 : m = 0
  · subst hm0
    have HZ : Hid (difD l = 0) := Lib.hid (by
      have : l = [] := List.length_eq_zero_iff.1 HLm.out
      rw [this]; rfl)
    go_enter Try.func130, Try.ntmps130
    go_wp2
    go_ret
    exact ⟨ret_int HZ.out.symm, 0, rfl⟩
  have hne : l ≠ [] := by rintro rfl; exact hm0 HLm.out.symm
  have HNE := Lib.hid hne
  obtain ⟨ad, v0, rfl, _, hv0, hv0b, hcv0⟩ := H0.out.at_ (show 0 < m by omega)
  rw [show ad.add 0 = ad from rfl] at hcv0
  have gm : ((m : Int) == 0) = false := by simp; omega
  have hmI : (0 : Int) < m := by omega
  have HX0 : Hid (v0 = mxA l 0) := Lib.hid (by unfold mxA; rw [if_pos rfl, getD_of_get hv0.out])
  have HN0 : Hid (v0 = mnA l 0) := Lib.hid (by unfold mnA; rw [if_pos rfl, getD_of_get hv0.out])
  have HB0 := Lib.hid (hl.out v0 (List.mem_of_getElem? hv0.out))
  clear hne
  go_enter Try.func130, Try.ntmps130
  go_upto_region 3 with fail
  go_quiet (fail)
  go_wp2_with fail
  go_loopw [3, 4, 5] (fun a b i wr => ∃ j : Nat, j ≤ m ∧ i = .int .i64 j ∧ ∃ x y : Int, a = .int .i64 x ∧ b = .int .i64 y ∧ Hid (x = mnA l j ∧ y = mxA l j) ∧ Hid (0 ≤ x ∧ x ≤ M ∧ 0 ≤ y ∧ y ≤ M) ∧ ∃ k, wr = w.drewN k) (fun _ _ i _ => m - (intOf i).toNat)
  case atStart => exact ⟨0, by omega, rfl, v0, v0, rfl, rfl, Lib.hid ⟨HN0.out, HX0.out⟩, Lib.hid ⟨HB0.out.1, HB0.out.2, HB0.out.1, HB0.out.2⟩, _, rfl⟩
  case round =>
    obtain ⟨j, hj, rfl, x, y, rfl, rfl, HXY, HBD, d0, rfl⟩ := hrel
    by_cases hjm : j < m
    · obtain ⟨ad', v, e, _, hv, hvb, hcv⟩ := H0.out.at_ hjm
      injection e with e
      subst e
      have hjI : (j : Int) < m := by omega
      have HS : Hid (min x v = mnA l (j + 1) ∧ max y v = mxA l (j + 1)) := Lib.hid (by rw [mnA_succ hv.out, mxA_succ hv.out, HXY.out.1, HXY.out.2]; exact ⟨rfl, rfl⟩)
      have HB2 : Hid (0 ≤ min x v ∧ min x v ≤ M ∧ 0 ≤ max y v ∧ max y v ≤ M) := Lib.hid (by
        have h1 := hl.out v (List.mem_of_getElem? hv.out)
        have h2 := HBD.out
        omega)
      go_upto_region 7 with fail
      go_quiet (fail)
      go_wp2
      go_roundw
      case rel => exact ⟨j + 1, by omega, by go_num, _, _, rfl, rfl, HS, HB2, _, rfl⟩
      case measure => simp [intOf]; omega
    · have HZ : Hid (y - x = difD l) := Lib.hid (by
        have h1 := HXY.out
        rw [show j = l.length by rw [HLm.out]; omega, mnA_end HNE.out, mxA_end HNE.out] at h1
        rw [h1.1, h1.2]; rfl)
      have h9 := HBD.out
      go_wp2
      go_ret
      exact ⟨ret_int HZ.out, _, rfl⟩
end Go.Proofs.Ytcmacejpoihhlaa

namespace Go.Proofs.Ytcmacejpoihhlaa
open Go.RowKit

theorem rowF_len (d : Bool) (f : Nat → Nat → Int) (a b : Nat) : (rowF d f a b).length ≤ b := by
  unfold rowF
  rw [List.length_map]
  exact Nat.le_trans (List.length_filter_le _ _) (by rw [List.length_range]; exact Nat.le_refl _)
theorem seqA_len (n : Nat) (d : Bool) (f : Nat → Nat → Int) (a : Nat) : (seqA n d f a).length ≤ a * n := by
  induction a with
  | zero => simp [seqA]
  | succ a ih =>
    rw [seqA_succ, List.length_append, Nat.succ_mul]
    have := rowF_len d f a n
    omega
theorem seqTo_len {n : Nat} (h12 : n ≤ 12) (d : Bool) (f : Nat → Nat → Int) {a b : Nat} (ha : a ≤ n) (hb : b ≤ n) : (seqTo n d f a b).length ≤ 156 := by
  unfold seqTo
  rw [List.length_append]
  have h1 := rowF_len d f a b
  have h2 := seqA_len n d f a
  have h3 : a * n ≤ 12 * 12 := Nat.mul_le_mul (by omega) h12
  omega
theorem own_sep {A B : Option Addr} (h : ∀ k, A.map (·.block) = some k → B.map (·.block) = some k → False) : B.map (·.block) = none ∨ B.map (·.block) ≠ A.map (·.block) := by
  cases e : B.map (·.block) with
  | none => exact .inl rfl
  | some k => exact .inr (fun h9 => h k h9.symm e)
/-- two lists of the callee's own -/
structure FaJ (w wr : World) (A1 : Option Addr) (c1 : Nat) (A2 : Option Addr) (c2 : Nat) (l1 l2 : List Int) : Prop where
  o1 : OwnI wr w.heap.size 3 A1 l1.length c1 l1
  o2 : OwnI wr w.heap.size 3 A2 l2.length c2 l2
  dis : ∀ k, A1.map (·.block) = some k → A2.map (·.block) = some k → False
  bel : Below w.heap.size w wr
section
variable {w wr w1 : World} {A1 A2 A' : Option Addr} {c1 c2 c' : Nat} {l1 l2 : List Int} {v : Int}
theorem FaJ.snoc1 (h : FaJ w wr A1 c1 A2 c2 l1 l2) (k : Apped wr w1 w.heap.size A1 A' (l1.length + 1) c' (l1 ++ [v])) : FaJ w w1 A' c' A2 c2 (l1 ++ [v]) l2 where
  o1 := by rw [List.length_append]; exact k.own
  o2 := h.o2.grown k.grown (own_sep h.dis)
  dis := fun j h1 h2 => by
    rcases k.at_ j h1 with e | e
    · exact h.dis j e h2
    · have := (h.o2.1.block h2).2; omega
  bel := h.bel.trans k.below
theorem FaJ.snoc2 (h : FaJ w wr A1 c1 A2 c2 l1 l2) (k : Apped wr w1 w.heap.size A2 A' (l2.length + 1) c' (l2 ++ [v])) : FaJ w w1 A1 c1 A' c' l1 (l2 ++ [v]) where
  o1 := h.o1.grown k.grown (own_sep fun j e e' => h.dis j e' e)
  o2 := by rw [List.length_append]; exact k.own
  dis := fun j h1 h2 => by
    rcases k.at_ j h2 with e | e
    · exact h.dis j h1 e
    · have := (h.o1.1.block h1).2; omega
  bel := h.bel.trans k.below
end

set_option maxHeartbeats 2000000 in
set_option maxRecDepth 100000 in
theorem fair_any (A : Option Addr) (m c n : Nat) (L : List (List Int)) (w : World) (h : RdL w A m L) (hm : m ≤ 61) (hL : Hid (∀ o ∈ L, o.length = n)) (hn : n ≤ 12) (hn1 : 1 ≤ n) :
    Calls Try.prog 108 #[.int .i64 (n : Int), .slice A m c] w fun e w' => e = .returned (.tuple #[.int .i64 (fair2 n L).1, .int .i64 (fair2 n L).2]) ∧ Below w.heap.size w w' := by
  have HLm := Lib.hid h.len
  have HPB : Hid (∀ a b : Nat, 0 ≤ plF L a b ∧ plF L a b ≤ 1000) := Lib.hid (fun a b => by
    have h1 := plc_bd L a b L.length
    have h2 := HLm.out
    unfold plF
    omega)
  have HNB : Hid (∀ a b : Nat, 0 ≤ foF L a b ∧ foF L a b ≤ 1000) := Lib.hid (fun a b => by
    have h1 := fol_bd hL.out a b (Nat.le_refl L.length)
    have h2 := HLm.out
    have h3 : L.length * n ≤ 61 * 12 := Nat.mul_le_mul (by omega) hn
    unfold foF
    omega)
  have HF1 : Hid (difD (seqTo n false (plF L) n 0) = (fair2 n L).1) := Lib.hid (by rw [seqTo_end]; rfl)
  have HF2 : Hid (difD (seqTo n true (foF L) n 0) = (fair2 n L).2) := Lib.hid (by rw [seqTo_end]; rfl)
  have HM1 : Hid (∀ v ∈ seqTo n false (plF L) n 0, 0 ≤ v ∧ v ≤ 1000) := Lib.hid (fun v hv => by
    rw [seqTo_end] at hv
    obtain ⟨a, b, _, _, _, rfl⟩ := mem_seqF.1 hv
    exact HPB.out a b)
  have HM2 : Hid (∀ v ∈ seqTo n true (foF L) n 0, 0 ≤ v ∧ v ≤ 1000) := Lib.hid (fun v hv => by
    rw [seqTo_end] at hv
    obtain ⟨a, b, _, _, _, rfl⟩ := mem_seqF.1 hv
    exact HNB.out a b)
  have H0 := Lib.hid h
  have HJ0 := Lib.hid (show FaJ w w none 0 none 0 [] [] from ⟨OwnI.nil_ _ _ _, OwnI.nil_ _ _ _, (fun k h _ => by cases h), Below.refl _ _⟩)
  clear h
  go_enter Try.func108, Try.ntmps108
  go_wp2_with fail
  go_loopw [6, 7, 8] (fun p q i wr => ∃ a : Nat, a ≤ n ∧ i = .int .i64 a ∧ ∃ (A1 : Option Addr) (c1 : Nat) (A2 : Option Addr) (c2 : Nat), p = .slice A1 (seqTo n false (plF L) a 0).length c1 ∧ q = .slice A2 (seqTo n true (foF L) a 0).length c2 ∧ Hid (FaJ w wr A1 c1 A2 c2 (seqTo n false (plF L) a 0) (seqTo n true (foF L) a 0))) (fun _ _ i _ => n - (intOf i).toNat)
  case atStart => exact ⟨0, by omega, rfl, none, 0, none, 0, rfl, rfl, HJ0⟩
  case round =>
    clear HJ0
    obtain ⟨a, ha, rfl, A1, c1, A2, c2, rfl, rfl, HJ⟩ := hrel
    by_cases han : a < n
    · have haI : (a : Int) < n := by omega
      go_wp2_with fail
      go_loopw [6, 7, 9] (fun p q i wr => ∃ b : Nat, b ≤ n ∧ i = .int .i64 b ∧ ∃ (A1 : Option Addr) (c1 : Nat) (A2 : Option Addr) (c2 : Nat), p = .slice A1 (seqTo n false (plF L) a b).length c1 ∧ q = .slice A2 (seqTo n true (foF L) a b).length c2 ∧ Hid (FaJ w wr A1 c1 A2 c2 (seqTo n false (plF L) a b) (seqTo n true (foF L) a b))) (fun _ _ i _ => n - (intOf i).toNat)
      case atStart => exact ⟨0, by omega, rfl, A1, c1, A2, c2, rfl, rfl, HJ⟩
      case round =>
        clear HJ
        obtain ⟨b, hb, rfl, A1, c1, A2, c2, rfl, rfl, HJ⟩ := hrel
        obtain ⟨wb, rfl⟩ : ∃ wb : World, wb = wr := ⟨_, rfl⟩
        by_cases hbn : b < n
        · have hbI : (b : Int) < n := by omega
          have HL1 := Lib.hid (seqTo_len hn false (plF L) ha (Nat.le_of_lt hbn))
          have HL2 := Lib.hid (seqTo_len hn true (foF L) ha (Nat.le_of_lt hbn))
          have HT1 : Hid (seqTo n false (plF L) a (b + 1) = seqTo n false (plF L) a b ++ [plF L a b]) := Lib.hid (seqTo_take rfl)
          have HC1 := Lib.hid (placed_any A m c n L a b wb (H0.out.below HJ.out.bel) hm hL hbn)
          have HS := Lib.hid HJ.out.bel.size
          by_cases hab : a = b
          · have gab : ((a : Int) != (b : Int)) = false := by rw [hab]; simp
            have HT2 : Hid (seqTo n true (foF L) a (b + 1) = seqTo n true (foF L) a b) := Lib.hid (seqTo_skip (by rw [hab]; simp))
            clear hab
            go_wp2_with fail
            refine HC1.out.mono ?_; rintro e w' ⟨rfl, rfl⟩
            go_wp2_with (first
              | (at_builtin; refine wpList_appI1 _ rfl (.tmp 20) (.tmp 25) rfl _ rfl rfl HJ.out.o1 (v := plF L a b) (I64.small (by have := HPB.out a b; omega)) (by have := HL1.out; omega) HS.out ?_; intro A3 c3 w3 kk; have KK := Lib.hid (HJ.out.snoc1 kk); clear kk))
            go_roundw
            case rel => exact ⟨b + 1, by omega, by go_num, A3, c3, A2, c2, by rw [HT1.out, List.length_append]; rfl, by rw [HT2.out], by rw [HT1.out, HT2.out]; exact KK⟩
            case measure => simp [intOf]; omega
          · have gab : ((a : Int) != (b : Int)) = true := by simp; omega
            have HT2 : Hid (seqTo n true (foF L) a (b + 1) = seqTo n true (foF L) a b ++ [foF L a b]) := Lib.hid (seqTo_take (by simpa using hab))
            clear hab
            go_wp2_with fail
            refine HC1.out.mono ?_; rintro e w' ⟨rfl, rfl⟩
            go_wp2_with (first
              | (at_builtin; refine wpList_appI1 _ rfl (.tmp 20) (.tmp 25) rfl _ rfl rfl HJ.out.o1 (v := plF L a b) (I64.small (by have := HPB.out a b; omega)) (by have := HL1.out; omega) HS.out ?_; intro A3 c3 w3 kk; have KK := Lib.hid (HJ.out.snoc1 kk); clear kk))
            have HC2 := Lib.hid (followed_any A m c n L a b w3 (H0.out.below KK.out.bel) hm hL hn hn1)
            have HS2 := Lib.hid KK.out.bel.size
            refine HC2.out.mono ?_; rintro e w4 ⟨rfl, rfl⟩
            go_wp2_with (first
              | (at_builtin; refine wpList_appI1 _ rfl (.tmp 30) (.tmp 35) rfl _ rfl rfl KK.out.o2 (v := foF L a b) (I64.small (by have := HNB.out a b; omega)) (by have := HL2.out; omega) HS2.out ?_; intro A5 c5 w5 kk; have KK2 := Lib.hid (KK.out.snoc2 kk); clear kk))
            go_roundw
            case rel => exact ⟨b + 1, by omega, by go_num, A3, c3, A5, c5, by rw [HT1.out, List.length_append]; rfl, by rw [HT2.out, List.length_append]; rfl, by rw [HT1.out, HT2.out]; exact KK2⟩
            case measure => simp [intOf]; omega
        · have hbe : b = n := by omega
          subst hbe
          have HE1 := Lib.hid (seqTo_row b false (plF L) a)
          have HE2 := Lib.hid (seqTo_row b true (foF L) a)
          go_wp2
          go_roundw
          case rel => exact ⟨a + 1, by omega, by go_num, A1, c1, A2, c2, by rw [HE1.out], by rw [HE2.out], by rw [← HE1.out, ← HE2.out]; exact HJ⟩
          case measure => simp [intOf]; omega
    · have hae : a = n := by omega
      subst hae
      have HD1 := Lib.hid (difference_any A1 _ c1 _ wr HJ.out.o1.rd 1000 (by omega) (Lib.hid HM1.out))
      go_wp2_with fail
      refine HD1.out.mono ?_; rintro e w1 ⟨rfl, k1, rfl⟩
      have HD2 := Lib.hid (difference_any A2 _ c2 _ (wr.drewN k1) (HJ.out.o2.rd.drewN k1) 1000 (by omega) (Lib.hid HM2.out))
      go_wp2_with fail
      refine HD2.out.mono ?_; rintro e w2 ⟨rfl, k2, rfl⟩
      go_wp2
      go_ret2
      refine ⟨?_, below_drewN HJ.out.bel _⟩
      rw [HF1.out, HF2.out]
      rfl
end Go.Proofs.Ytcmacejpoihhlaa
