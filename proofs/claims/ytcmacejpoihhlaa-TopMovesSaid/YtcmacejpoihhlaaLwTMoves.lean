/- Walk: the statement TopMoves. -/
import Derived.Test.YtcmacejpoihhlaaMgT
import Derived.Test.YtcmacejpoihhlaaMgS
namespace Go.Proofs.Ytcmacejpoihhlaa
open Go.RowKit

/-- what the statement TopMoves knows of memory -/
structure TopW (w : World) (g q z : Nat) (s : Scoring) (K A : Option Addr) (kn kc n : Nat) (p : List Int) (W : World) : Prop where
  box : IsBox W g
  x : Blk W q 79 (scCells s K kn kc)
  kr : RdI W K kn s.keys
  pr : RdI W A n p
  bel : Below w.heap.size w W
  kz : 0 < kn → ∀ b, K.map (·.block) = some b → b ≠ g ∧ b < z
  az : 0 < n → ∀ b, A.map (·.block) = some b → b ≠ g ∧ b < z
  qz : q ≠ g ∧ q < z
  gz : g < z
  zw : z ≤ W.heap.size
  wg : w.heap.size ≤ g
section
variable {w W W' : World} {g q z : Nat} {s : Scoring} {K A : Option Addr} {kn kc n : Nat} {p : List Int}
theorem TopW.spun (h : TopW w g q z s K A kn kc n p W) (hs : Spun g W W') : TopW w g q z s K A kn kc n p W' :=
  ⟨hs.box, h.x.grown hs.grown (fun e => by injection e with e; exact h.qz.1 e), h.kr.spun0 hs (fun hn b e => (h.kz hn b e).1), h.pr.spun0 hs (fun hn b e => (h.az hn b e).1),
    h.bel.trans (hs.below h.wg h.bel.size), h.kz, h.az, h.qz, h.gz, Nat.le_trans h.zw hs.grown.size, h.wg⟩
theorem TopW.belowZ (h : TopW w g q z s K A kn kc n p W) (hb : Below z W W') : TopW w g q z s K A kn kc n p W' := by
  refine ⟨?_, h.x.below2 hb h.qz.2, h.kr.belowB hb (fun hn b e => (h.kz hn b e).2), h.pr.belowB hb (fun hn b e => (h.az hn b e).2), h.bel.trans (hb.mono (by have := h.wg; have := h.gz; omega)), h.kz, h.az, h.qz, h.gz, Nat.le_trans h.zw hb.size, h.wg⟩
  obtain ⟨x, hx⟩ := h.box
  exact ⟨x, hx.below2 hb h.gz⟩
theorem TopW.below (h : TopW w g q z s K A kn kc n p W) (hb : Below W.heap.size W W') : TopW w g q z s K A kn kc n p W' := h.belowZ (hb.mono h.zw)
end
theorem lit3 (w : World) (a b c : Int) (t : TypeId) (h : ∀ v ∈ [a, b, c], I64 v) : RdI (w.alloc (.cells #[.int .i64 a, .int .i64 b, .int .i64 c] t)) (some ⟨w.heap.size, 0, none⟩) 3 [a, b, c] :=
  (OwnI.lit w t [a, b, c] 3 (by omega) rfl 0 (by omega) h).rd

set_option maxHeartbeats 8000000 in
set_option maxRecDepth 100000 in
theorem topMoves_any (A0 : Option Addr) (n0 c0 : Nat) (nums : List Int) (w : World) (h0 : RdI w A0 n0 nums) : Calls Try.prog 16 #[.slice A0 n0 c0] w fun e w' => e = .returned (.bool true) ∧ Below w.heap.size w w' := by
  go_enter Try.func16, Try.ntmps16
  go_wp2_with fail
  refine (boxOf_any A0 n0 c0 nums w h0).mono ?_; rintro e w1 ⟨g, rfl, hg, hbox, hb1⟩
  have HBX := Lib.hid hbox
  have HB := Lib.hid hb1
  have hgl := hbox.lt
  have hgw : w.heap.size ≤ g := hg
  clear h0 hbox hb1 hg
  go_wp2_with fail
  refine (scoringOf_any g w1 HBX.out).mono ?_; rintro e w2 ⟨s, K, kn, kc, rfl, hsok, hkc, hkown, hsp⟩
  have HSO := Lib.hid hsok
  have HK := Lib.hid hkown
  have HSP := Lib.hid hsp
  clear hsok hkown hsp HBX
  go_wp2_with fail
  refine (any_any g 1 9 w2 HSP.out.box (by omega) (by omega) (by omega) (by omega)).mono ?_; rintro e w3 ⟨n, rfl, hn1, hn9, hst⟩
  obtain ⟨n, rfl⟩ : ∃ n' : Nat, n = n' := ⟨n.toNat, by omega⟩
  have HK3 := Lib.hid (HK.out.spun_ hst.spun hgl)
  have HSP3 := Lib.hid (HSP.out.trans hst.spun)
  have hn9' : n ≤ 9 := by omega
  have hn1' : 1 ≤ n := by omega
  clear hst HK HSP hn9 hn1
  go_wp2_with fail
  refine (partitionOf_any g n w3 HSP3.out.box hn1' hn9').mono ?_; rintro e w4 ⟨A, c, p, rfl, hp, hown, hsp⟩
  have HPC := Lib.hid hp
  have HA := Lib.hid hown
  have HK4 := Lib.hid (HK3.out.spun_ hsp hgl)
  have HSP4 := Lib.hid (HSP3.out.trans hsp)
  have hg3 : g < w3.heap.size := HSP3.out.box.lt
  have hsz34 := hsp.grown.size
  clear hp hown hsp HK3 HSP3
  unfold scCells
  go_upto_region 3 with fail
  have HT : Hid (TopW w g w4.heap.size (w4.heap.size + 1) s K A kn kc n p (w4.alloc (.cells (scCells s K kn kc) 79))) := Lib.hid
    ⟨HSP4.out.box.alloc _, Blk.new _ _ _, HK4.out.rd.alloc _, HA.out.rd.alloc _, (HB.out.trans (HSP4.out.below hgw HB.out.size)).alloc (by have := HSP4.out.grown.size; have := HB.out.size; omega) _,
      (fun _ b e => by have := HK4.out.1.block e; omega), (fun _ b e => by have := HA.out.1.block e; omega), ⟨by omega, by omega⟩, by omega, by simp, hgw⟩
  unfold scCells at HT
  obtain ⟨W4, hW4⟩ : ∃ W', w4.alloc (.cells #[.int .i64 s.p1, .int .i64 s.p2, .int .i64 s.p3, .int .i64 s.p4, .int .i64 s.p5, .slice K kn kc] 79) = W' := ⟨_, rfl⟩
  rw [hW4] at HT ⊢
  obtain ⟨q, hq⟩ : ∃ q, w4.heap.size = q := ⟨_, rfl⟩
  rw [hq] at HT ⊢
  have HLP := Lib.hid HA.out.len
  have HP8 : Hid (∀ v ∈ p, 0 ≤ v ∧ v ≤ 8) := Lib.hid (fun v hv => by have := (chk_ok HPC.out).2.2.1 v hv; omega)
  clear hW4 hq HA HK4 HSP4 HB hsz34 hg3
  go_wp2_with fail
  go_loopw [6, 7] (fun o i wr => ∃ (k : Nat) (Ao : Option Addr) (co : Nat) (ans : List Int), k ≤ n ∧ i = .int .i64 k ∧ o = .slice Ao k co ∧ OwnI wr (q + 1) 3 Ao k co ans ∧ (∀ x ∈ ans, 0 ≤ x ∧ x ≤ 8) ∧ TopW w g q (q + 1) s K A kn kc n p wr) (fun _ i _ => n - (intOf i).toNat)
  case atStart => exact ⟨0, none, 0, [], by omega, rfl, rfl, OwnI.nil_ _ _ _, (fun x hx => by cases hx), HT.out⟩
  case round =>
    obtain ⟨k, Ao, co, ans, hk, rfl, rfl, hown, hans, ht⟩ := hrel
    have HO := Lib.hid hown
    have HAN := Lib.hid hans
    have HTR := Lib.hid ht
    have hgz := ht.gz
    have hzw := ht.zw
    clear hown hans ht HT
    by_cases hkn : k < n
    · obtain ⟨ad, v, rfl, hadl, hv, _, hcv⟩ := HTR.out.pr.at_ hkn
      have hv8 := HP8.out v (List.mem_of_getElem? hv.out)
      have hkI : (k : Int) < n := by omega
      have hk6 : k + 1 ≤ 1000000 := by omega
      have HADG := Lib.hid (HTR.out.az (by omega) ad.block rfl)
      have HSS : Hid (∀ W', TopW w g q (q + 1) s K (some ad) kn kc n p W' → W'.cell? (ad.add k) = some (.int .i64 v)) := Lib.hid (fun W' h => by
        obtain ⟨ad', v', e, _, hv', _, hc⟩ := h.pr.at_ hkn
        injection e with e; subst e
        have h9 := hv'.out; rw [hv.out] at h9; injection h9 with h9; subst h9
        exact hc)
      go_upto_region 7 with fail
      go_region_held3 (fun w' => w'.cell? (ad.add k) = some (.int .i64 v)) (first | exact hcv | exact m1 | exact m2 | exact m3 | exact m4 | exact m5 | exact hcv) (first
        | (go_at_call 48; refine (up_any g 9 wr.drew HTR.out.box.drew (by omega) (by omega)).mono ?_; rintro e w5 ⟨u, rfl, hu0, hu1, hst⟩; have HT5 := Lib.hid ((HTR.out.below ((Below.refl _ _).drew)).spun hst.spun); have HO5 := Lib.hid (HO.out.drew.spun_ hst.spun hgz); have m1 := HSS.out _ HT5.out; have HT5a := Lib.hid (HT5.out.below ((Below.refl _ _).alloc (Nat.le_refl _) (.cells #[.int .i64 v, .int .i64 v, .int .i64 u] 3))); have HO5a := Lib.hid (HO5.out.alloc (.cells #[.int .i64 v, .int .i64 v, .int .i64 u] 3)); have m2 := HSS.out _ HT5a.out; have HL3 := Lib.hid (lit3 w5 v v u 3 (by intro x hx; simp at hx; rcases hx with rfl | rfl; exact I64.small (by omega); exact I64.small (by omega))); have hz5 := HT5.out.zw; have HNG : Hid (∀ b, (some (⟨w5.heap.size, 0, none⟩ : Addr)).map (·.block) = some b → b ≠ g) := Lib.hid (fun b e => by have h9 : w5.heap.size = b := (by injection e); omega); have hu8 : u ≤ 8 := (by omega); clear hst)
        | (go_at_call 22; refine (pick_any g (some ⟨w5.heap.size, 0, none⟩) 3 3 [v, v, u] (w5.alloc (.cells #[.int .i64 v, .int .i64 v, .int .i64 u] 3)) HT5a.out.box HL3.out HNG.out (by omega) (by omega)).mono ?_; rintro e w6 ⟨x, rfl, hxm, hst⟩; have HT6 := Lib.hid (HT5a.out.spun hst.spun); have HO6 := Lib.hid (HO5a.out.spun_ hst.spun hgz); have m3 := HSS.out _ HT6.out; have hz6 := HT6.out.zw; have hx8 : 0 ≤ x ∧ x ≤ 8 := (by simp at hxm; omega); have HX64 : Hid (I64 x) := Lib.hid (I64.small (by omega)); have m4 := HSS.out _ (HT6.out.below ((Below.refl _ _).alloc (Nat.le_refl _) (.cells #[.int .i64 x] 3))); clear hst hxm)
        | (refine step_appI1 w6 (by rfl) (.tmp 31) (.tmp 45) (by rfl) (v := x) _ (by rfl) (by rfl) HO6.out HX64.out hk6 hz6 ?_; intro A7 c7 w7 hown hgrow hbel; have HO7 := Lib.hid hown; have HT7 := Lib.hid (HT6.out.belowZ hbel); have m5 := HSS.out _ HT7.out))
      all_goals
        clear m1 m2 m3 m4 m5 hcv
        have HA7 : Hid (∀ y ∈ ans ++ [x], 0 ≤ y ∧ y ≤ 8) := Lib.hid (fun y hy => by
          rcases List.mem_append.1 hy with hy | hy
          · exact HAN.out y hy
          · simp at hy; subst hy; exact hx8)
        go_wp2
        go_roundw
        case rel => exact ⟨k + 1, A7, c7, ans ++ [x], by omega, by go_num, rfl, HO7.out, HA7.out, HT7.out⟩
        case measure => simp [intOf]; omega
    · have hkn2 : k = n := by omega
      subst hkn2
      have HANL := Lib.hid HO.out.len
      have hk9 : k ≤ 9 := hn9'
      go_wp2_with fail
      refine (ints_any Ao k co ans wr HO.out.rd (by omega)).mono ?_; rintro e w5 ⟨Bo, cb, rfl, ho5, b5⟩
      rw [HANL.out] at ho5 ⊢
      have HO5 := Lib.hid (HO.out.below b5)
      have HT5 := Lib.hid (HTR.out.below b5)
      obtain ⟨gb, rfl, hgb1, hgb2⟩ := ho5.form (by omega)
      have HP5 := Lib.hid ho5
      have HOB : Hid (∀ b, Ao.map (·.block) = some b → b < wr.heap.size) := Lib.hid (fun b e => (HO.out.1.block e).2)
      clear ho5 b5 HO HTR
      go_wp2_with fail
      refine (up_any g k w5 HT5.out.box (by omega) (by omega)).mono ?_; rintro e w6 ⟨u1, rfl, hu0, hu1, hst⟩
      obtain ⟨u1, rfl⟩ : ∃ u' : Nat, u1 = u' := ⟨u1.toNat, by omega⟩
      have hu1k : u1 < k := by omega
      have HO6 := Lib.hid (HO5.out.spun_ hst.spun hgz)
      have HT6 := Lib.hid (HT5.out.spun hst.spun)
      have HP6 := Lib.hid (HP5.out.spun_ hst.spun (by omega))
      clear hst HO5 HT5 HP5 hu0 hu1
      go_wp2_with fail
      refine (up_any g 9 w6 HT6.out.box (by omega) (by omega)).mono ?_; rintro e w7 ⟨u2, rfl, hv0, hv1, hst⟩
      have hu28 : 0 ≤ u2 ∧ u2 ≤ 8 := by omega
      have HO7 := Lib.hid (HO6.out.spun_ hst.spun hgz)
      have HT7 := Lib.hid (HT6.out.spun hst.spun)
      have HP7 := Lib.hid (HP6.out.spun_ hst.spun (by omega))
      clear hst HO6 HT6 HP6 hv0 hv1
      obtain ⟨x0, hx0⟩ : ∃ x0, ans[u1]? = some x0 := ⟨_, get_getD (by rw [HANL.out]; exact hu1k)⟩
      have k0 := HP7.out.cellAt hx0
      have f0 := HP7.out.frozenAt u1
      have hu1I : (u1 : Int) < k := by omega
      have HOTL : Hid (ans.length = (ans.set u1 u2).length) := Lib.hid (by rw [List.length_set])
      have HOT8 : Hid (∀ v ∈ ans.set u1 u2, 0 ≤ v ∧ v ≤ 8) := Lib.hid (fun v hv => by
        rcases List.mem_or_eq_of_mem_set hv with hv | rfl
        · exact HAN.out v hv
        · exact hu28)
      have HSAME : Hid (∀ i, i < ans.length → i ≠ u1 → (ans.set u1 u2).getD i 0 = ans.getD i 0) := Lib.hid (fun i _ hi => by
        simp only [List.getD_eq_getElem?_getD, List.getElem?_set, if_neg (fun e => hi (Eq.symm e))])
      have HO8 := Lib.hid (HO7.out.far (p := ⟨gb, u1, none⟩) (fun e => by have h9 : gb < wr.heap.size := HOB.out _ e; omega) (.int .i64 u2))
      have HT8 := Lib.hid (HT7.out.belowZ ((Below.refl (q + 1) w7).setCell (p := ⟨gb, u1, none⟩) (by show q + 1 ≤ gb; omega) (.int .i64 u2)))
      have HP8' := Lib.hid (HP7.out.stored u1 (u := u2) (I64.small (by omega)))
      clear hx0
      go_upto_region 10 with fail
      obtain ⟨w8, hw8⟩ : ∃ w8, w7.setCell ⟨gb, u1, none⟩ (.int .i64 u2) = w8 := ⟨_, rfl⟩
      rw [hw8] at HO8 HT8 HP8' ⊢
      clear hw8 HO7 HT7 HP7 k0 f0 hu28
      have hh1 := hon_one (t := p) (x := ans) (y := ans.set u1 u2) HPC.out (by rw [HLP.out, HANL.out]) HOTL.out HSAME.out
      obtain ⟨a0, a1, a2, a3, a4, a5, a6, hma⟩ : ∃ a0 a1 a2 a3 a4 a5 a6, markV s p ans = .agg #[.int .i64 a0, .int .i64 a1, .int .i64 a2, .int .i64 a3, .int .i64 a4, .int .i64 a5, .int .i64 a6, .int .i64 (honL p ans)] := ⟨_, _, _, _, _, _, _, rfl⟩
      obtain ⟨o0, o1, o2, o3, o4, o5, o6, hmo⟩ : ∃ a0 a1 a2 a3 a4 a5 a6, markV s p (ans.set u1 u2) = .agg #[.int .i64 a0, .int .i64 a1, .int .i64 a2, .int .i64 a3, .int .i64 a4, .int .i64 a5, .int .i64 a6, .int .i64 (honL p (ans.set u1 u2))] := ⟨_, _, _, _, _, _, _, rfl⟩
      have HHO : Hid (honL p ans = max 0 (3 - mvN (ofL ans) p)) := Lib.hid rfl
      obtain ⟨h1, hh1e⟩ : ∃ h1, honL p ans = h1 := ⟨_, rfl⟩
      obtain ⟨h2, hh2e⟩ : ∃ h2, honL p (ans.set u1 u2) = h2 := ⟨_, rfl⟩
      have hb1 := hon_bd p ans HPC.out (by rw [HLP.out, HANL.out]) (by rw [HANL.out]; exact hn1') (by rw [HANL.out]; exact hk9)
      have hb2 := hon_bd p (ans.set u1 u2) HPC.out (by rw [HLP.out, ← HOTL.out, HANL.out]) (by rw [← HOTL.out, HANL.out]; exact hn1') (by rw [← HOTL.out, HANL.out]; exact hk9)
      rw [hh1e, hh2e] at hh1
      rw [hh1e] at hma HHO hb1
      rw [hh2e] at hmo hb2
      have HMK1 : Hid (∀ W, RdI W K kn s.keys → RdI W A k p → RdI W Ao k ans → Calls Try.prog 73 #[.agg #[.int .i64 s.p1, .int .i64 s.p2, .int .i64 s.p3, .int .i64 s.p4, .int .i64 s.p5, .slice K kn kc], .slice A k c, .slice Ao k co] W (Marked (.agg #[.int .i64 a0, .int .i64 a1, .int .i64 a2, .int .i64 a3, .int .i64 a4, .int .i64 a5, .int .i64 a6, .int .i64 h1]) W)) := Lib.hid (fun W x1 x2 x3 => by
        rw [← hma]; exact markP_any s K A Ao kn kc k c co p ans W x1 hkc x2 x3 HPC.out HAN.out HSO.out)
      have HMK2 : Hid (∀ W, RdI W K kn s.keys → RdI W A k p → RdI W (some ⟨gb, 0, none⟩) k (ans.set u1 u2) → Calls Try.prog 73 #[.agg #[.int .i64 s.p1, .int .i64 s.p2, .int .i64 s.p3, .int .i64 s.p4, .int .i64 s.p5, .slice K kn kc], .slice A k c, .slice (some ⟨gb, 0, none⟩) k cb] W (Marked (.agg #[.int .i64 o0, .int .i64 o1, .int .i64 o2, .int .i64 o3, .int .i64 o4, .int .i64 o5, .int .i64 o6, .int .i64 h2]) W)) := Lib.hid (fun W x1 x2 x3 => by
        rw [← hmo]; exact markP_any s K A (some ⟨gb, 0, none⟩) kn kc k c cb p (ans.set u1 u2) W x1 hkc x2 x3 HPC.out HOT8.out HSO.out)
      have HOE := Lib.hid (ofE_ok (l := ans) (by rw [HANL.out]; omega) (by rw [HANL.out]; omega))
      have HOL := Lib.hid ((ofL_length ans).trans HANL.out)
      have hco := chk_ofL (l := ans) (by rw [HANL.out]; omega) (by rw [HANL.out]; omega)
      have hll : (ofL ans).length = p.length := by rw [HOL.out, HLP.out]
      have HMV : Hid (movesP (ofL ans) p = (mvN (ofL ans) p, 0)) := Lib.hid (by rw [moves_eq]; exact movesR_ok hco HPC.out hll)
      have hmv0 := mv_nonneg hco HPC.out hll
      have hmv9 := mv_lt hco HPC.out hll
      rw [HOL.out] at hmv9
      obtain ⟨y, hy⟩ : ∃ y, mvN (ofL ans) p = y := ⟨_, rfl⟩
      rw [hy] at HMV HHO hmv0 hmv9
      have hd1 : h1 - h2 ≤ 1 := hh1.1
      have hd2 : h2 - h1 ≤ 1 := hh1.2
      clear hma hmo hh1e hh2e hh1 hco hll hy HOT8 HSAME
      have e0 : w8.cell? ⟨q, 0, none⟩ = some (.int .i64 s.p1) := by rw [HT8.out.x.cell]; rfl
      have e1 : w8.cell? ⟨q, 1, none⟩ = some (.int .i64 s.p2) := by rw [HT8.out.x.cell]; rfl
      have e2 : w8.cell? ⟨q, 2, none⟩ = some (.int .i64 s.p3) := by rw [HT8.out.x.cell]; rfl
      have e3 : w8.cell? ⟨q, 3, none⟩ = some (.int .i64 s.p4) := by rw [HT8.out.x.cell]; rfl
      have e4 : w8.cell? ⟨q, 4, none⟩ = some (.int .i64 s.p5) := by rw [HT8.out.x.cell]; rfl
      have e5 : w8.cell? ⟨q, 5, none⟩ = some (.slice K kn kc) := by rw [HT8.out.x.cell]; rfl
      go_wp2_with fail
      refine (HMK1.out w8 HT8.out.kr HT8.out.pr HO8.out.rd).mono ?_; rintro e w9 ⟨rfl, b9⟩
      have HT9 := Lib.hid (HT8.out.below b9)
      have HO9 := Lib.hid (HO8.out.below b9)
      have HP9 := Lib.hid (HP8'.out.below b9)
      clear b9 HT8 HO8 HP8' e0 e1 e2 e3 e4 e5
      go_upto_region 11 with fail
      have HTa := Lib.hid (HT9.out.below ((Below.refl _ _).alloc (Nat.le_refl _) (.cells #[.int .i64 a0, .int .i64 a1, .int .i64 a2, .int .i64 a3, .int .i64 a4, .int .i64 a5, .int .i64 a6, .int .i64 h1] 82)))
      have HOa := Lib.hid (HO9.out.alloc (.cells #[.int .i64 a0, .int .i64 a1, .int .i64 a2, .int .i64 a3, .int .i64 a4, .int .i64 a5, .int .i64 a6, .int .i64 h1] 82))
      have HPa := Lib.hid (HP9.out.alloc (.cells #[.int .i64 a0, .int .i64 a1, .int .i64 a2, .int .i64 a3, .int .i64 a4, .int .i64 a5, .int .i64 a6, .int .i64 h1] 82))
      have HRa := Lib.hid (Blk.new w9 82 #[.int .i64 a0, .int .i64 a1, .int .i64 a2, .int .i64 a3, .int .i64 a4, .int .i64 a5, .int .i64 a6, .int .i64 h1])
      obtain ⟨wa, hwa⟩ : ∃ W', w9.alloc (.cells #[.int .i64 a0, .int .i64 a1, .int .i64 a2, .int .i64 a3, .int .i64 a4, .int .i64 a5, .int .i64 a6, .int .i64 h1] 82) = W' := ⟨_, rfl⟩
      rw [hwa] at HTa HOa HPa HRa ⊢
      obtain ⟨r1, hr1⟩ : ∃ r1, w9.heap.size = r1 := ⟨_, rfl⟩
      rw [hr1] at HRa ⊢
      clear hwa hr1 HT9 HO9 HP9
      have e0 : wa.cell? ⟨q, 0, none⟩ = some (.int .i64 s.p1) := by rw [HTa.out.x.cell]; rfl
      have e1 : wa.cell? ⟨q, 1, none⟩ = some (.int .i64 s.p2) := by rw [HTa.out.x.cell]; rfl
      have e2 : wa.cell? ⟨q, 2, none⟩ = some (.int .i64 s.p3) := by rw [HTa.out.x.cell]; rfl
      have e3 : wa.cell? ⟨q, 3, none⟩ = some (.int .i64 s.p4) := by rw [HTa.out.x.cell]; rfl
      have e4 : wa.cell? ⟨q, 4, none⟩ = some (.int .i64 s.p5) := by rw [HTa.out.x.cell]; rfl
      have e5 : wa.cell? ⟨q, 5, none⟩ = some (.slice K kn kc) := by rw [HTa.out.x.cell]; rfl
      go_wp2_with fail
      refine (HMK2.out wa HTa.out.kr HTa.out.pr HPa.out.rd).mono ?_; rintro e w10 ⟨rfl, b10⟩
      have HTb := Lib.hid (HTa.out.below b10)
      have HOb := Lib.hid (HOa.out.below b10)
      have HRb := Lib.hid (HRa.out.below b10)
      clear b10 HTa HOa HPa HRa e0 e1 e2 e3 e4 e5
      go_upto_region 12 with fail
      have HTc := Lib.hid (HTb.out.below ((Below.refl _ _).alloc (Nat.le_refl _) (.cells #[.int .i64 o0, .int .i64 o1, .int .i64 o2, .int .i64 o3, .int .i64 o4, .int .i64 o5, .int .i64 o6, .int .i64 h2] 82)))
      have HOc := Lib.hid (HOb.out.alloc (.cells #[.int .i64 o0, .int .i64 o1, .int .i64 o2, .int .i64 o3, .int .i64 o4, .int .i64 o5, .int .i64 o6, .int .i64 h2] 82))
      have HRc := Lib.hid (HRb.out.alloc (.cells #[.int .i64 o0, .int .i64 o1, .int .i64 o2, .int .i64 o3, .int .i64 o4, .int .i64 o5, .int .i64 o6, .int .i64 h2] 82))
      have HSc := Lib.hid (Blk.new w10 82 #[.int .i64 o0, .int .i64 o1, .int .i64 o2, .int .i64 o3, .int .i64 o4, .int .i64 o5, .int .i64 o6, .int .i64 h2])
      obtain ⟨wc, hwc⟩ : ∃ W', w10.alloc (.cells #[.int .i64 o0, .int .i64 o1, .int .i64 o2, .int .i64 o3, .int .i64 o4, .int .i64 o5, .int .i64 o6, .int .i64 h2] 82) = W' := ⟨_, rfl⟩
      rw [hwc] at HTc HOc HRc HSc ⊢
      obtain ⟨r2, hr2⟩ : ∃ r2, w10.heap.size = r2 := ⟨_, rfl⟩
      rw [hr2] at HSc ⊢
      clear hwc hr2 HTb HOb HRb
      go_wp2_with fail
      refine (progOf_any Ao k co ans wc HOc.out.rd).mono ?_; rintro e w11 ⟨A11, c11, rfl, h11, b11⟩
      rw [HOE.out] at h11 ⊢
      simp only at h11 ⊢
      rw [HOL.out] at h11 ⊢
      have HL11 := Lib.hid h11.rd
      have HTd := Lib.hid (HTc.out.below b11)
      have HRd := Lib.hid (HRc.out.below b11)
      have HSd := Lib.hid (HSc.out.below b11)
      clear h11 b11 HTc HRc HSc HOc
      go_wp2_with fail
      refine (moves_any A11 A k k c11 c (ofL ans) p w11 HL11.out HTd.out.pr).mono ?_; rintro e w12 ⟨rfl, b12⟩
      rw [HMV.out]
      have HTe := Lib.hid (HTd.out.below b12)
      have hc1 : w12.cell? ⟨r1, 7, none⟩ = some (.int .i64 h1) := by rw [(HRd.out.below b12).cell]; rfl
      have hc2 : w12.cell? ⟨r2, 7, none⟩ = some (.int .i64 h2) := by rw [(HSd.out.below b12).cell]; rfl
      have hmx : max 0 (3 - y) = h1 := HHO.out.symm
      have hq1 : IntKind.i64.wrap (h1 - h2) = h1 - h2 := IntWalk.i64_in _ (by omega)
      have hq2 : IntKind.i64.wrap (h2 - h1) = h2 - h1 := IntWalk.i64_in _ (by omega)
      clear b12 HTd HRd HSd HL11 HMV hb1 hb2
      go_wp2_with fail
      refine (scored_any w12).mono ?_; rintro e w13 ⟨rfl, b13⟩
      have HBF := Lib.hid (HTe.out.bel.trans (b13.mono HTe.out.bel.size))
      clear b13
      go_wp2
      go_ret
      exact ⟨rfl, HBF.out⟩
end Go.Proofs.Ytcmacejpoihhlaa
