/- Walks: the program's Fairest. -/
import Derived.Test.YtcmacejpoihhlaaMgS
import Derived.Handy
namespace Go.Proofs.Ytcmacejpoihhlaa
open Go.RowKit

/-- numbers, two numbers and an error: what Fairest returns -/
def IntsNum2E (x : List Int × Int × Int × Int) (w : World) (e : Ending) (w' : World) : Prop :=
  ∃ (B : Option Addr) (k : Nat), e = .returned (.tuple #[.slice B x.1.length k, .int .i64 x.2.1, .int .i64 x.2.2.1, .int .i64 x.2.2.2]) ∧ OwnI w' w.heap.size 3 B x.1.length k x.1 ∧ Below w.heap.size w w'
theorem IntsNum2E.none_ {w w' : World} {x : List Int × Int × Int × Int} {z : Int} (h : x = ([], 0, 0, z)) (hb : Below w.heap.size w w') : IntsNum2E x w (.returned (.tuple #[.slice none 0 0, .int .i64 0, .int .i64 0, .int .i64 z])) w' := by
  subst h; exact ⟨none, 0, rfl, OwnI.nil_ _ _ _, hb⟩
theorem fairE_bad {l : List Int} {all d z : Int} (h : fairC l all d = z) (hz : z ≠ 0) : fairE l all d = ([], 0, 0, z) := by unfold fairE; rw [if_pos (by omega), h]
theorem fairC_short {l : List Int} {all d : Int} (h : l.length = 0) : fairC l all d = 6 := by unfold fairC; rw [if_pos h]
theorem fairC_full {l : List Int} {all d : Int} (h : 6 < l.length) : fairC l all d = 8 := by unfold fairC; rw [if_neg (by omega), if_pos h]
theorem fairC_bad {l : List Int} {all d : Int} (h0 : 0 < l.length) (h6 : l.length ≤ 6) (h : okCounts l = false) : fairC l all d = 2 := by unfold fairC; rw [if_neg (by omega), if_neg (by omega), if_pos h]
theorem fairC_sum {l : List Int} {all d : Int} (h0 : 0 < l.length) (h6 : l.length ≤ 6) (h : okCounts l = true) (ha : all < 1 ∨ 12 < all) : fairC l all d = 2 := by unfold fairC; rw [if_neg (by omega), if_neg (by omega), if_neg (by rw [h]; simp), if_pos (by omega)]
theorem fairC_draw {l : List Int} {all d : Int} (h0 : 0 < l.length) (h6 : l.length ≤ 6) (h : okCounts l = true) (ha : 1 ≤ all ∧ all ≤ 12) (hd : d < 1 ∨ min 6 all < d) : fairC l all d = 2 := by unfold fairC; rw [if_neg (by omega), if_neg (by omega), if_neg (by rw [h]; simp), if_neg (by omega), if_pos (by omega)]
theorem fairC_ok {l : List Int} {all d : Int} (h0 : 0 < l.length) (h6 : l.length ≤ 6) (h : okCounts l = true) (ha : 1 ≤ all ∧ all ≤ 12) (hd : 1 ≤ d ∧ d ≤ min 6 all) : fairC l all d = 0 := by unfold fairC; rw [if_neg (by omega), if_neg (by omega), if_neg (by rw [h]; simp), if_neg (by omega), if_neg (by omega)]

/-- results: two cells and two slots -/
theorem results_2c {fn : Func} {p q u v : Tmp} (h : fn.results = #[.cell p 22, .cell q 3, .tmp u, .tmp v]) (tmps : Array Value) (w : World) {a b : Addr} {x y : Value}
    (hp : tmps[p]?.getD undef = .pointer (some a)) (hq : tmps[q]?.getD undef = .pointer (some b)) (hx : w.cell? a = some x) (hy : w.cell? b = some y) :
    (results fn tmps).run Try.prog w = .ok (.tuple #[x, y, tmps.getD u undef, tmps.getD v undef]) w := by
  simp [results, h, hp, hq, go_sem, hx, hy, Result.andThen]
/-- the boxes at Fairest's start: limits, draw, counts, ways -/
structure FaT (b : Nat) (A : Option Addr) (n c : Nat) (l : List Int) (d : Int) (w W : World) : Prop where
  x3 : Blk W b 22 #[.slice A n c]
  x5 : Blk W (b + 1) 3 #[.int .i64 d]
  x6 : Blk W (b + 1 + 1) 22 #[.slice none 0 0]
  x7 : Blk W (b + 1 + 1 + 1) 3 #[.int .i64 0]
  rd : RdI W A n l
  ne : 0 < n → ∀ k, A.map (·.block) = some k → k < b
  bel : Below b w W
  size : W.heap.size = b + 1 + 1 + 1 + 1
  old : w.heap.size = b
theorem faT_new {A : Option Addr} {n c : Nat} {l : List Int} (d : Int) {w : World} (h : RdI w A n l) :
    FaT w.heap.size A n c l d w ((((w.alloc (.cells #[.slice A n c] 22)).alloc (.cells #[.int .i64 d] 3)).alloc (.cells #[.slice none 0 0] 22)).alloc (.cells #[.int .i64 0] 3)) := by
  have h2 := (Blk.new w 22 #[.slice A n c]).alloc (.cells #[.int .i64 d] 3)
  have h3 := (Blk.new (w.alloc (.cells #[.slice A n c] 22)) 3 #[.int .i64 d]).alloc (.cells #[.slice none 0 0] 22)
  have h4 := (Blk.new ((w.alloc (.cells #[.slice A n c] 22)).alloc (.cells #[.int .i64 d] 3)) 22 #[.slice none 0 0]).alloc (.cells #[.int .i64 0] 3)
  have h5 := Blk.new (((w.alloc (.cells #[.slice A n c] 22)).alloc (.cells #[.int .i64 d] 3)).alloc (.cells #[.slice none 0 0] 22)) 3 #[.int .i64 0]
  have hs : ∀ (w : World) o, (w.alloc o).heap.size = w.heap.size + 1 := fun w o => by simp
  refine ⟨(h2.alloc _).alloc _, by simpa [hs] using h3.alloc _, by simpa [hs] using h4, by simpa [hs] using h5, (((h.alloc _).alloc _).alloc _).alloc _, fun hn k hk => ?_, ?_, by simp [hs], rfl⟩
  · obtain ⟨ad, e, h1, _⟩ := h.1.2.2 hn
    rw [e] at hk
    injection hk with hk
    subst hk
    exact h1
  · exact ((((Below.refl _ w).alloc (Nat.le_refl _) _).alloc (by simp [hs]) _).alloc (by simp [hs]; omega) _).alloc (by simp [hs]; omega) _

theorem FaK.below {b3 b5 b12 base b g : Nat} {A : Option Addr} {n c : Nat} {l : List Int} {d : Nat} {s : List Int × Int} {W W' : World} (h : FaK (b + 1 + 1) (b + 1 + 1 + 1) W W') (hs : FaS b3 b5 (b + 1 + 1) (b + 1 + 1 + 1) b12 base A n c l d s W) (_ : g = b + 1 + 1 + 1 + 1) : Below b W W' :=
  ⟨h.os, h.tape, h.output, h.size, fun k hk => h.block k (by have := hs.lt; omega) (by omega) (by omega)⟩
set_option maxHeartbeats 2000000 in
set_option maxRecDepth 100000 in
theorem fairP_any (A : Option Addr) (n c : Nat) (l : List Int) (all d : Int) (w : World) (h : RdI w A n l) (_hall : I64 all) (hd : I64 d) : Calls Try.prog 42 #[.slice A n c, .int .i64 all, .int .i64 d] w (IntsNum2E (fairE l all d) w) := by
  have hlen := h.len
  have hmbd := h.bd
  go_enter Try.func42, Try.ntmps42
  go_upto_region 1 with fail
  have HT := Lib.hid (faT_new (c := c) d h)
  have HB : Hid (∀ W', Below w.heap.size (((((w.alloc (.cells #[.slice A n c] 22)).alloc (.cells #[.int .i64 d] 3)).alloc (.cells #[.slice none 0 0] 22)).alloc (.cells #[.int .i64 0] 3))) W' → Below w.heap.size w W') := Lib.hid (fun W' hb => HT.out.bel.trans hb)
  clear h
  generalize (((w.alloc (.cells #[.slice A n c] 22)).alloc (.cells #[.int .i64 d] 3)).alloc (.cells #[.slice none 0 0] 22)).alloc (.cells #[.int .i64 0] 3) = W at HT HB ⊢
  obtain ⟨b, hb⟩ : ∃ b, w.heap.size = b := ⟨_, rfl⟩
  rw [hb] at HT HB ⊢
  have HOLD := Lib.hid hb
  clear hb
  have c3 : W.cell? ⟨b, 0, none⟩ = some (.slice A n c) := by rw [HT.out.x3.cell]; rfl
  have c5 : W.cell? ⟨b + 1, 0, none⟩ = some (.int .i64 d) := by rw [HT.out.x5.cell]; rfl
  have c6 : W.cell? ⟨b + 1 + 1, 0, none⟩ = some (.slice none 0 0) := by rw [HT.out.x6.cell]; rfl
  have c7 : W.cell? ⟨b + 1 + 1 + 1, 0, none⟩ = some (.int .i64 0) := by rw [HT.out.x7.cell]; rfl
  have f6 := HT.out.x6.frozen 0
  have f7 := HT.out.x7.frozen 0
  have HLN := Lib.hid hlen
  have HOUT : Hid (∀ z, fairE l all d = ([], 0, 0, z) → IntsNum2E (fairE l all d) w (.returned (.tuple #[.slice none 0 0, .int .i64 0, .int .i64 0, .int .i64 z])) ((W.setCell ⟨b + 1 + 1, 0, none⟩ (.slice none 0 0)).setCell ⟨b + 1 + 1 + 1, 0, none⟩ (.int .i64 0))) := Lib.hid (fun z hz => by
    refine IntsNum2E.none_ hz ?_
    rw [HOLD.out]
    exact HB.out _ (((Below.refl _ _).setCell (p := ⟨b + 1 + 1, 0, none⟩) (by show b ≤ b + 1 + 1; omega) _).setCell (p := ⟨b + 1 + 1 + 1, 0, none⟩) (by show b ≤ b + 1 + 1 + 1; omega) _))
  have e6 : ((W.setCell ⟨b + 1 + 1, 0, none⟩ (.slice none 0 0)).setCell ⟨b + 1 + 1 + 1, 0, none⟩ (.int .i64 0)).cell? ⟨b + 1 + 1, 0, none⟩ = some (.slice none 0 0) := by
    rw [((HT.out.x6.set_ 0 _).far (p := ⟨b + 1 + 1 + 1, 0, none⟩) (by show b + 1 + 1 ≠ b + 1 + 1 + 1; omega) _).cell]; rfl
  have e7 : ((W.setCell ⟨b + 1 + 1, 0, none⟩ (.slice none 0 0)).setCell ⟨b + 1 + 1 + 1, 0, none⟩ (.int .i64 0)).cell? ⟨b + 1 + 1 + 1, 0, none⟩ = some (.int .i64 0) := by
    rw [((HT.out.x7.far (p := ⟨b + 1 + 1, 0, none⟩) (by show b + 1 + 1 + 1 ≠ b + 1 + 1; omega) _).set_ 0 _).cell]; rfl
  have E6 := Lib.hid e6
  have E7 := Lib.hid e7
  clear hlen e6 e7
  by_cases hn0 : n = 0
  · subst hn0
    have HV := Lib.hid (fairE_bad (all := all) (d := d) (fairC_short HLN.out) (by decide))
    go_wp2
    refine bodyPost_ret (results_2c rfl _ _ rfl rfl E6.out E7.out) rfl ?_
    exact HOUT.out _ HV.out
  by_cases hn6 : 6 < n
  · have HV := Lib.hid (fairE_bad (l := l) (all := all) (d := d) (fairC_full (by rw [HLN.out]; exact hn6)) (by decide))
    have gn0 : ((n : Int) == 0) = false := by simp; omega
    have gn6 : (6 : Int) < n := by omega
    go_wp2
    refine bodyPost_ret (results_2c rfl _ _ rfl rfl E6.out E7.out) rfl ?_
    exact HOUT.out _ HV.out
  have hn6' : n ≤ 6 := by omega
  have gn0 : ((n : Int) == 0) = false := by simp; omega
  have gn6 : ¬((6 : Int) < n) := by omega
  have hn1 : 0 < n := by omega
  clear hn0 hn6
  go_wp2_with fail
  go_loop [8, 9, 23] (fun s8 s9 i => s8 = .int .i64 0 ∧ s9 = .int .i64 0 ∧ ∃ k : Nat, k ≤ n ∧ i = .int .i64 k ∧ Hid (okCounts (l.take k) = true)) (fun _ _ i => n - (intOf i).toNat)
  case atStart => exact ⟨rfl, rfl, 0, by omega, rfl, rfl⟩
  case round =>
    obtain ⟨rfl, rfl, k, hk, rfl, HK⟩ := hrel
    by_cases hlt : k < n
    · obtain ⟨ad, v, rfl, _, hv, _, hcell⟩ := HT.out.rd.at_ hlt
      by_cases hr : v < 1 ∨ 9 < v
      · have HV := Lib.hid (fairE_bad (all := all) (d := d) (fairC_bad (all := all) (d := d) (by rw [HLN.out]; exact hn1) (by rw [HLN.out]; exact hn6') (okCounts_no hv.out hr)) (by decide))
        have HW := Lib.hid (within_no hr)
        clear hr
        go_wp2_with fail
        refine (withinD_any v 1 9 W).mono ?_; rintro e w' ⟨rfl, rfl⟩
        rw [HW.out]
        go_wp2
        refine bodyPost_ret (results_2c rfl _ _ rfl rfl E6.out E7.out) rfl ?_
        exact HOUT.out _ HV.out
      · have hv1 : 1 ≤ v := by omega
        have hv9 : v ≤ 9 := by omega
        have HTK : Hid (okCounts (l.take (k + 1)) = true) := Lib.hid (by rw [okCounts_take hv.out, HK.out]; simp; omega)
        have HW := Lib.hid (within_yes hv1 hv9)
        clear hr
        go_wp2_with fail
        refine (withinD_any v 1 9 W).mono ?_; rintro e w' ⟨rfl, rfl⟩
        rw [HW.out]
        go_wp2
        go_round
        case rel => exact ⟨rfl, rfl, k + 1, by omega, by go_num, HTK⟩
        case measure => simp [intOf]; omega
    · obtain rfl : k = n := by omega
      have hok : okCounts l = true := by have := HK.out; rwa [List.take_of_length_le (by rw [HLN.out]; omega)] at this
      have HOK := Lib.hid hok
      clear hok HK
      by_cases ha : all < 1 ∨ 12 < all
      · have HV := Lib.hid (fairE_bad (all := all) (d := d) (fairC_sum (all := all) (d := d) (by rw [HLN.out]; exact hn1) (by rw [HLN.out]; exact hn6') HOK.out ha) (by decide))
        have HW : Hid (∀ W', Calls Try.prog 88 #[.int .i64 all, .int .i64 1, .int .i64 12] W' fun e w' => e = .returned (.bool false) ∧ w' = W') := Lib.hid (fun W' => by rw [← within_no ha]; exact withinD_any all 1 12 W')
        clear ha
        go_wp2_with fail
        refine (HW.out W).mono ?_; rintro e w' ⟨rfl, rfl⟩
        go_wp2
        refine bodyPost_ret (results_2c rfl _ _ rfl rfl E6.out E7.out) rfl ?_
        exact HOUT.out _ HV.out
      · have ha' : 1 ≤ all ∧ all ≤ 12 := by omega
        have HWA : Hid (∀ W', Calls Try.prog 88 #[.int .i64 all, .int .i64 1, .int .i64 12] W' fun e w' => e = .returned (.bool true) ∧ w' = W') := Lib.hid (fun W' => by rw [← within_yes ha'.1 ha'.2]; exact withinD_any all 1 12 W')
        clear ha
        by_cases hr : d < 1 ∨ min 6 all < d
        · have HV := Lib.hid (fairE_bad (all := all) (d := d) (fairC_draw (all := all) (d := d) (by rw [HLN.out]; exact hn1) (by rw [HLN.out]; exact hn6') HOK.out ha' hr) (by decide))
          have HW : Hid (∀ W', Calls Try.prog 88 #[.int .i64 d, .int .i64 1, .int .i64 (min 6 all)] W' fun e w' => e = .returned (.bool false) ∧ w' = W') := Lib.hid (fun W' => by rw [← within_no hr]; exact withinD_any d 1 (min 6 all) W')
          clear hr
          go_wp2_with fail
          refine (HWA.out W).mono ?_; rintro e w' ⟨rfl, rfl⟩
          go_wp2_with fail
          refine (HW.out w').mono ?_; rintro e w' ⟨rfl, rfl⟩
          go_wp2
          refine bodyPost_ret (results_2c rfl _ _ rfl rfl E6.out E7.out) rfl ?_
          exact HOUT.out _ HV.out
        · have hdd : 1 ≤ d ∧ d ≤ min 6 all := by omega
          have HW : Hid (∀ W', Calls Try.prog 88 #[.int .i64 d, .int .i64 1, .int .i64 (min 6 all)] W' fun e w' => e = .returned (.bool true) ∧ w' = W') := Lib.hid (fun W' => by rw [← within_yes hdd.1 hdd.2]; exact withinD_any d 1 (min 6 all) W')
          have HFC := Lib.hid (fairC_ok (by rw [HLN.out]; exact hn1) (by rw [HLN.out]; exact hn6') HOK.out ha' hdd)
          clear hr
          obtain ⟨dn, rfl⟩ : ∃ dn : Nat, d = dn := ⟨d.toNat, by omega⟩
          go_wp2_with fail
          refine (HWA.out W).mono ?_; rintro e w' ⟨rfl, rfl⟩
          go_wp2_with fail
          refine (HW.out w').mono ?_; rintro e w' ⟨rfl, rfl⟩
          go_upto_region 14 with fail
          have HN12 := Lib.hid (Blk.new w' 104 #[.nilFunc])
          have HB12 := Lib.hid ((Below.refl w'.heap.size w').alloc (Nat.le_refl _) (.cells #[.nilFunc] 104))
          obtain ⟨g, hg⟩ : ∃ g, w'.heap.size = g := ⟨_, rfl⟩
          have HGB : Hid (g = b + 1 + 1 + 1 + 1) := Lib.hid (by rw [← hg]; exact HT.out.size)
          have HG := Lib.hid hg
          rw [hg] at HN12 ⊢
          clear hg
          generalize w'.alloc (.cells #[.nilFunc] 104) = W2 at HN12 HB12 ⊢
          have c12 : W2.cell? ⟨g, 0, none⟩ = some .nilFunc := by rw [HN12.out.cell]; rfl
          have f12 := HN12.out.frozen 0
          have q : (store (⟨g, 0, none⟩ : Addr) (.func (.func 98) #[] #[.pointer (some ⟨b, 0, none⟩), .pointer (some ⟨b + 1, 0, none⟩), .pointer (some ⟨b + 1 + 1, 0, none⟩), .pointer (some ⟨b + 1 + 1 + 1, 0, none⟩), .pointer (some ⟨g, 0, none⟩)])).run Try.prog W2 = .ok () (W2.setCell ⟨g, 0, none⟩ (.func (.func 98) #[] #[.pointer (some ⟨b, 0, none⟩), .pointer (some ⟨b + 1, 0, none⟩), .pointer (some ⟨b + 1 + 1, 0, none⟩), .pointer (some ⟨b + 1 + 1 + 1, 0, none⟩), .pointer (some ⟨g, 0, none⟩)])) := by
            rw [run_store _ _ _ _ _ rfl, c12]
            simp [f12]
          go_upto_region 15 with fail
          generalize hW3 : W2.setCell ⟨g, 0, none⟩ (.func (.func 98) #[] #[.pointer (some ⟨b, 0, none⟩), .pointer (some ⟨b + 1, 0, none⟩), .pointer (some ⟨b + 1 + 1, 0, none⟩), .pointer (some ⟨b + 1 + 1 + 1, 0, none⟩), .pointer (some ⟨g, 0, none⟩)]) = W3
          have HB3 : Hid (Below w'.heap.size w' W3) := Lib.hid (by rw [← hW3]; exact HB12.out.setCell (p := ⟨g, 0, none⟩) (by rw [HG.out]; exact Nat.le_refl _) _)
          have HX12 : Hid (Blk W3 g 104 #[faV b (b + 1) (b + 1 + 1) (b + 1 + 1 + 1) g]) := Lib.hid (by rw [← hW3]; exact HN12.out.set_ 0 _)
          have HFS : Hid (FaS b (b + 1) (b + 1 + 1) (b + 1 + 1 + 1) g (g + 1) A k c l dn ([], 0) W3) := Lib.hid (by
            have hb3 := HB3.out
            have hgb := HGB.out
            refine ⟨HT.out.x3.below hb3, HT.out.x5.below hb3, ⟨none, 0, HT.out.x6.below hb3, OwnI.nil_ _ _ _, by simp⟩, HT.out.x7.below hb3, HX12.out, HT.out.rd.below hb3, fun x hx => ?_, ?_, ?_⟩
            · have := HT.out.ne hn1 x hx; omega
            · have := HX12.out.lt; omega
            · omega)
          have HBW : Hid (Below b w W3) := Lib.hid (HB.out _ (HB3.out.mono (by rw [HG.out]; have := HGB.out; omega)))
          clear hW3 c3 c5 c6 c7 f6 f7 c12 f12 q HT HB HN12 HB12 HB3 HOUT E6 E7 HWA HW HX12
          have k12 : W3.cell? ⟨g, 0, none⟩ = some (faV b (b + 1) (b + 1 + 1) (b + 1 + 1 + 1) g) := by rw [HFS.out.x12.cell]; rfl
          have hrec := fairRec_any b (b + 1) (b + 1 + 1) (b + 1 + 1 + 1) g (g + 1) A k c l dn all (okCounts_mem HOK.out) hn1 hn6' (by omega) (by omega) (by omega) ha'.2 l [] all ([], 0) none 0 0 W3 rfl HFS.out RdI.nil_ (fun b h => by cases h) ⟨by simp, by simp, by simp, by omega⟩
          rw [tryF_all (by omega)] at hrec
          obtain ⟨s, hs⟩ : ∃ s, (countsL l all).foldl (fairStep dn) ([], 0) = s := ⟨_, rfl⟩
          rw [hs] at hrec
          have HREC := Lib.hid hrec
          have HS := Lib.hid hs
          unfold faV at k12
          clear hs hrec
          have hda : (dn : Int) ≤ all := by omega
          have hd9 : dn ≤ 9 := by omega
          have ha54 : all ≤ 54 := by omega
          have q : ∀ (w : World) (a : Option Addr) (n c n' c' : Nat), (binOp .eql 22 (.slice a n c) (.slice none n' c')).run Try.prog w = .ok (.bool a.isNone) w := fun w a n c n' c' => Lib.run_eql_slice_nil w _ _ a n c n' c' Try.underlying22
          by_cases hs0 : s.1 = []
          · have HV : Hid (fairE l all dn = ([], 0, 0, 7)) := Lib.hid (by unfold fairE; rw [if_neg (by rw [HFC.out]; simp), Int.toNat_natCast, HS.out]; simp only [hs0, if_true])
            go_wp2_with (go_at_call 98; refine HREC.out.mono ?_; rintro e W4 ⟨rfl, hf4, hk4⟩; obtain ⟨Ac, cc, x6, o6, n6⟩ := hf4.x6; obtain rfl := n6.2 hs0; have m6 : W4.cell? ⟨b + 1 + 1, 0, none⟩ = some (.slice none s.1.length cc) := (by rw [x6.cell]; rfl); have m7 : W4.cell? ⟨b + 1 + 1 + 1, 0, none⟩ = some (.int .i64 s.2) := (by rw [hf4.x7.cell]; rfl); have z6 := x6.frozen 0; have z7 := hf4.x7.frozen 0)
            have HF4 := Lib.hid hf4
            have HK4 := Lib.hid hk4
            have HX6 := Lib.hid x6
            clear hf4 hk4 o6 x6 n6
            go_wp2
            refine bodyPost_ret (results_2c rfl _ _ rfl rfl (a := ⟨b + 1 + 1, 0, none⟩) (b := ⟨b + 1 + 1 + 1, 0, none⟩) (x := .slice none 0 0) (y := .int .i64 0) ?_ ?_) rfl ?_
            · show ((W4.setCell _ _).setCell _ _).cell? _ = _
              rw [((HX6.out.set_ 0 _).far (p := ⟨b + 1 + 1 + 1, 0, none⟩) (by show b + 1 + 1 ≠ b + 1 + 1 + 1; omega) _).cell]; rfl
            · show ((W4.setCell _ _).setCell _ _).cell? _ = _
              rw [((HF4.out.x7.far (p := ⟨b + 1 + 1, 0, none⟩) (by show b + 1 + 1 + 1 ≠ b + 1 + 1; omega) _).set_ 0 _).cell]; rfl
            · refine IntsNum2E.none_ HV.out ?_
              rw [HOLD.out]
              exact ((HBW.out.trans (HK4.out.below HFS.out HGB.out)).setCell (p := ⟨b + 1 + 1, 0, none⟩) (by show b ≤ b + 1 + 1; omega) _).setCell (p := ⟨b + 1 + 1 + 1, 0, none⟩) (by show b ≤ b + 1 + 1 + 1; omega) _
          · go_wp2_with (go_at_call 98; refine HREC.out.mono ?_; rintro e W4 ⟨rfl, hf4, hk4⟩; obtain ⟨Ac, cc, x6, o6, n6⟩ := hf4.x6; have hsn : Ac.isNone = false := (by cases Ac; exact absurd (n6.1 rfl) hs0; rfl); have m6 : W4.cell? ⟨b + 1 + 1, 0, none⟩ = some (.slice Ac s.1.length cc) := (by rw [x6.cell]; rfl); have m7 : W4.cell? ⟨b + 1 + 1 + 1, 0, none⟩ = some (.int .i64 s.2) := (by rw [hf4.x7.cell]; rfl); have m5 : W4.cell? ⟨b + 1, 0, none⟩ = some (.int .i64 dn) := (by rw [hf4.x5.cell]; rfl); have z6 := x6.frozen 0; have z7 := hf4.x7.frozen 0)
            have HF4 := Lib.hid hf4
            have HK4 := Lib.hid hk4
            have HO6 := Lib.hid o6
            have HX6 := Lib.hid x6
            clear hf4 hk4 o6 x6 n6
            have e6 : ((W4.setCell ⟨b + 1 + 1, 0, none⟩ (.slice Ac s.1.length cc)).setCell ⟨b + 1 + 1 + 1, 0, none⟩ (.int .i64 s.2)).cell? ⟨b + 1 + 1, 0, none⟩ = some (.slice Ac s.1.length cc) := by
              rw [((HX6.out.set_ 0 _).far (p := ⟨b + 1 + 1 + 1, 0, none⟩) (by show b + 1 + 1 ≠ b + 1 + 1 + 1; omega) _).cell]; rfl
            have e7 : ((W4.setCell ⟨b + 1 + 1, 0, none⟩ (.slice Ac s.1.length cc)).setCell ⟨b + 1 + 1 + 1, 0, none⟩ (.int .i64 s.2)).cell? ⟨b + 1 + 1 + 1, 0, none⟩ = some (.int .i64 s.2) := by
              rw [((HF4.out.x7.far (p := ⟨b + 1 + 1, 0, none⟩) (by show b + 1 + 1 + 1 ≠ b + 1 + 1; omega) _).set_ 0 _).cell]; rfl
            have hne : ∀ p : Addr, p.block ≤ g → Ac.map (·.block) ≠ some p.block := fun p hp h9 => by have := (HO6.out.1.block h9).1; omega
            have HFIN : Hid (IntsNum2E (fairE l all dn) w (.returned (.tuple #[.slice Ac s.1.length cc, .int .i64 s.2, .int .i64 (fallN all dn), .int .i64 0])) ((W4.setCell ⟨b + 1 + 1, 0, none⟩ (.slice Ac s.1.length cc)).setCell ⟨b + 1 + 1 + 1, 0, none⟩ (.int .i64 s.2)).drew) := Lib.hid (by
              have hV : fairE l all dn = (s.1, s.2, fallN all dn, 0) := by unfold fairE; rw [if_neg (by rw [HFC.out]; simp), Int.toNat_natCast, HS.out]; simp only [hs0, if_false]
              have hgb := HGB.out
              rw [hV]
              refine ⟨Ac, cc, rfl, ?_, ?_⟩
              · exact (((HO6.out.far (p := ⟨b + 1 + 1, 0, none⟩) (hne _ (by show b + 1 + 1 ≤ g; omega)) _).far (p := ⟨b + 1 + 1 + 1, 0, none⟩) (hne _ (by show b + 1 + 1 + 1 ≤ g; omega)) _).drew).mono (by rw [HOLD.out]; omega)
              · rw [HOLD.out]
                exact (((HBW.out.trans (HK4.out.below HFS.out HGB.out)).setCell (p := ⟨b + 1 + 1, 0, none⟩) (by show b ≤ b + 1 + 1; omega) _).setCell (p := ⟨b + 1 + 1 + 1, 0, none⟩) (by show b ≤ b + 1 + 1 + 1; omega) _).drew)
            have E6 := Lib.hid (show (((W4.setCell ⟨b + 1 + 1, 0, none⟩ (.slice Ac s.1.length cc)).setCell ⟨b + 1 + 1 + 1, 0, none⟩ (.int .i64 s.2)).drew).cell? ⟨b + 1 + 1, 0, none⟩ = some (.slice Ac s.1.length cc) from e6)
            have E7 := Lib.hid (show (((W4.setCell ⟨b + 1 + 1, 0, none⟩ (.slice Ac s.1.length cc)).setCell ⟨b + 1 + 1 + 1, 0, none⟩ (.int .i64 s.2)).drew).cell? ⟨b + 1 + 1 + 1, 0, none⟩ = some (.int .i64 s.2) from e7)
            clear e6 e7 hne
            go_upto_region 18 with fail
            go_region_law (go_simp; go_at_call 79; refine (falling_any all dn _ hd9 hda ha54).mono ?_; rintro e w9 ⟨rfl, rfl⟩)
            all_goals
              go_wp2
              try simp only [Exit.inBlock, Exit.then]
              refine bodyPost_ret (results_2c rfl _ _ rfl rfl (E6.out) E7.out) rfl ?_
              exact HFIN.out
end Go.Proofs.Ytcmacejpoihhlaa
