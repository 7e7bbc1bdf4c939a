/- Walks: all partitions, the ways of each, and the best guess, by the reference; Chance of both sides. Walk: the statement DesignAll. -/
import Derived.Test.YtcmacejpoihhlaaMgT
import Derived.Test.YtcmacejpoihhlaaMgP
import Derived.Test.YtcmacejpoihhlaaMgI
import Derived.Test.YtcmacejpoihhlaaMgO
import Derived.Test.YtcmacejpoihhlaaMgD
namespace Go.Proofs.Ytcmacejpoihhlaa
open Go.RowKit

theorem OwnI.capM {w : World} {base n c : Nat} {e : TypeId} {A : Option Addr} {l : List Int} (h : OwnI w base e A n c l) : n ≤ c := by
  rcases h.1.1.2 with ⟨h1, h2⟩ | ⟨g, cap, cur, h1, _, _, hnc, _⟩
  · injection h1 with h1 h3 h4; omega
  · injection h1 with h1 h3 h4; omega
/-- 'append(out, row)', the row laid in a new block first: what is left alone. -/
theorem wpList_appL2 (w : World) {ops : Array Oper} {rest : List Oper} {o : Oper} {a : Act} {Q : Exit → Act → World → Prop} (hgd : o.guard = none) (s x : Operand)
    (ho : o.op = .call { callee := .builtin .append, args := #[s, x], argTypes := #[38, 38] })
    {base n c : Nat} {A : Option Addr} {ll : List (List Int)} {B : Option Addr} {m d : Nat} {l : List Int} (t : TypeId) (hs : a.eval s = .slice A n c) (hx : a.eval x = .slice (some ⟨w.heap.size, 0, none⟩) 1 1) (hown : OwnL w base A n c ll)
    (hr : RdI w B m l) (hne : 0 < m → A.map (·.block) ≠ B.map (·.block)) (hnm : n + 1 ≤ 1000000) (hbase : base ≤ w.heap.size)
    (h : ∀ A' c' w', OwnL w' base A' (n + 1) c' (ll ++ [l]) → Below base w w' → w.grownBy w' (A.map (·.block)) → wpList Try.prog ops Q rest (a.put o.dst (.slice A' (n + 1) c')) w') :
    wpList Try.prog ops Q (o :: rest) a (w.alloc (.cells #[.slice B m d] t)) := by
  obtain ⟨i0, hi0, hz0, hz1, hz2⟩ := info_parts rowInfo
  obtain ⟨vs, h1, h2, h3⟩ := hown
  refine wpList_app _ hgd s x 38 ho base 22 i0 _ 24 Try.underlying38 hi0 hz0 hz1 hz2 rfl (by decide) A n c vs hs (h1.alloc _) _ 1 1 [.slice B m d] hx (Rd.one w t _) (by intro u hu; simp at hu; subst hu; rfl) (by omega) (by simp; omega) ?_
  intro A' c' w' k1 k2 k3
  have hg : w.grownBy w' (A.map (·.block)) := grown_trans (World.grownBy_alloc w _ _) k2
  exact h A' c' w' (OwnL.push h1 h2 h3 hr hne k1 hg (gx := (w.alloc (.cells #[.slice B m d] t)).heap.size) (by simp) k3) (below_app h1 hg hbase) hg
def prs (d k : Nat) : List (List Int) := (List.range k).map (pr d)
theorem prs_succ (d k : Nat) : prs d (k + 1) = prs d k ++ [pr d k] := by unfold prs; rw [List.range_succ, List.map_append]; rfl
theorem prs_get {d k j : Nat} {l : List Int} (h : (prs d k)[j]? = some l) : j < k ∧ l = pr d j := by
  unfold prs at h
  rw [List.getElem?_map] at h
  by_cases hj : j < k
  · rw [List.getElem?_range hj] at h; simp at h; exact ⟨hj, h.symm⟩
  · rw [List.getElem?_eq_none (by simp; omega)] at h; cases h
/-- all partitions of d packets, the callee's own -/
def Alled (d : Nat) (w : World) (e : Ending) (w' : World) : Prop :=
  ∃ (A : Option Addr) (c : Nat), e = .returned (.slice A (countR d).toNat c) ∧ OwnL w' w.heap.size A (countR d).toNat c (prs d (countR d).toNat) ∧ Below w.heap.size w w'

set_option maxHeartbeats 1000000 in
set_option maxRecDepth 100000 in
theorem all_any (d : Nat) (w : World) (hd1 : 1 ≤ d) (hd6 : d ≤ 6) : Calls Try.prog 93 #[.int .i64 d] w (Alled d w) := by
  obtain ⟨i0, hi0, hz0, hz1, hz2⟩ := info_parts intInfo
  have hcp := count_pos hd1 hd6
  obtain ⟨m, hm⟩ : ∃ m : Nat, countR d = m := ⟨(countR d).toNat, by omega⟩
  have hm1 : 1 ≤ m := by omega
  have hm203 : m ≤ 203 := by omega
  have HNX : Hid (∀ k : Nat, k + 1 < m → nextL (pr d k) = some (pr d (k + 1))) := Lib.hid (fun k hk => (next_pr hd1 (by omega) (r := k) (by rw [hm]; omega)).1)
  have HLS : Hid (∀ k : Nat, k + 1 = m → nextL (pr d k) = none) := Lib.hid (fun k hk => last_pr hd1 (by omega) (r := k) (by rw [hm]; omega))
  have HCK : Hid (∀ k : Nat, chk (pr d k) = 0) := Lib.hid (pr_chk hd1 (by omega))
  have HPL : Hid (∀ k : Nat, (pr d k).length = d) := Lib.hid (pr_len d)
  have HM := Lib.hid hm
  clear hm hcp
  go_enter Try.func93, Try.ntmps93
  go_upto_region 2 with (at_make; go_must (refine wpList_make_full w rfl (.tmp 6) (.tmp 6) 22 rfl w.heap.size 3 i0 (.int .i64 0) 1 Try.underlying22 hi0 hz0 hz1 .i64 .i64 d d d rfl rfl rfl rfl (by rw [hz2]; omega) (by unfold maxLen; omega) (Nat.le_refl _) ?_); intro w3 hown hg3)
  have HO3 : Hid (OwnI w3 w.heap.size 3 (some ⟨w.heap.size, 0, none⟩) d d (pr d 0)) := by
    refine ⟨⟨?_, by omega⟩, fun v hv => ?_⟩
    · rw [show (madeCells (Value.int .i64 0).cells (d * 1)).toList = ints (pr d 0) from by rw [Nat.mul_one]; show (madeCells #[Value.int .i64 0] d).toList = _; rw [toList_madeCells_one, pr_zero d (by omega)]; simp [ints]] at hown
      exact hown
    · rw [pr_zero d (by omega)] at hv
      rw [(List.mem_replicate.1 hv).2]
      exact I64.small (by omega)
  have HB3 := Lib.hid ((Below.refl w.heap.size w).grown hg3 (Nat.le_refl _) (by simp))
  clear hown hg3 hi0 hz0 hz1 hz2
  go_wp2_with fail
  go_loopw [3, 4, 5] (fun p out is wr => ∃ (k : Nat) (Ao : Option Addr) (co : Nat), out = .slice Ao k co ∧ OwnL wr w.heap.size Ao k co (prs d k) ∧ Below w.heap.size w wr ∧ ((k < m ∧ is = .bool true ∧ ∃ (Ap : Option Addr) (cp B : Nat), p = .slice Ap d cp ∧ OwnI wr B 3 Ap d cp (pr d k) ∧ w.heap.size ≤ B ∧ ∀ b, Ao.map (·.block) = some b → b < B) ∨ (k = m ∧ is = .bool false))) (fun _ out _ _ => match out with | .slice _ k _ => m + 1 - k | _ => 0)
  case atStart => exact ⟨0, none, 0, rfl, OwnL.nil_ _ _, HB3.out, .inl ⟨by omega, rfl, _, _, _, rfl, HO3.out, Nat.le_refl _, fun b e => by cases e⟩⟩
  case round =>
    obtain ⟨k, Ao, co, rfl, hol, hbel, ⟨hkm, rfl, Ap, cp, B, rfl, hop, hB, hAB⟩ | ⟨rfl, rfl⟩⟩ := hrel
    · have HOL := Lib.hid hol
      have HBE := Lib.hid hbel
      have HOP := Lib.hid hop
      have hsz := hbel.size
      have hne : 0 < d → Ao.map (·.block) ≠ Ap.map (·.block) := fun _ e => by
        obtain ⟨gp, e1, h1, _⟩ := hop.form (by omega)
        have := hAB gp (by rw [e, e1]; rfl)
        omega
      have HNE := Lib.hid hne
      have hcap := hop.capM
      clear hol hbel hop hAB hne HO3 HB3
      have hk2 : k + 1 ≤ 1000000 := by omega
      go_wp2_with (at_builtin; go_must (refine wpList_appL2 _ rfl (.tmp 14) (.tmp 16) rfl _ rfl rfl HOL.out HOP.out.rd HNE.out hk2 hsz ?_); intro A2 c2 w4 h1 h2 h3; have K1 := Lib.hid h1; have K2 := Lib.hid h2; have K3 := Lib.hid (And.intro (HOP.out.rd.grown h3 (fun g e1 e2 => HNE.out hd1 (e1.trans e2.symm))) h3.size); clear h1 h2 h3)
      rw [← prs_succ] at K1
      have hA2 : ∀ b, A2.map (·.block) = some b → b < w4.heap.size := fun b e => (K1.out.lt b e).2
      have HA2 := Lib.hid hA2
      have hsz4 : w.heap.size ≤ w4.heap.size := by have := K3.out.2; omega
      clear hA2 HOL HOP HNE
      by_cases hlt : k + 1 < m
      · have hnx := HNX.out k hlt
        have HAF := Lib.hid (refAfter_any Ap d cp (pr d k) w4 K3.out.1 hcap (HCK.out k))
        go_wp2_with fail
        refine HAF.out.mono ?_
        rintro e w5 (⟨q, A5, c5, hq, rfl, ho5, hb5⟩ | ⟨hq, rfl, hb5⟩)
        · rw [hnx] at hq
          injection hq with hq
          subst hq
          rw [HPL.out] at ho5 ⊢
          have HO5 := Lib.hid ho5
          have HL5 := Lib.hid (K1.out.below hb5)
          have HB5 := Lib.hid ((HBE.out.trans K2.out).trans (hb5.mono hsz4))
          clear ho5 hb5 hnx HAF
          go_wp2
          go_roundw
          case rel => exact ⟨k + 1, A2, c2, rfl, HL5.out, HB5.out, .inl ⟨hlt, rfl, A5, c5, w4.heap.size, rfl, HO5.out, hsz4, HA2.out⟩⟩
          case measure => simp; omega
        · rw [hnx] at hq; cases hq
      · have hkm1 : k + 1 = m := by omega
        have hnx := HLS.out k hkm1
        have HAF := Lib.hid (refAfter_any Ap d cp (pr d k) w4 K3.out.1 hcap (HCK.out k))
        go_wp2_with fail
        refine HAF.out.mono ?_
        rintro e w5 (⟨q, A5, c5, hq, rfl, ho5, hb5⟩ | ⟨hq, rfl, hb5⟩)
        · rw [hnx] at hq; cases hq
        · have HL5 := Lib.hid (K1.out.below hb5)
          have HB5 := Lib.hid ((HBE.out.trans K2.out).trans (hb5.mono hsz4))
          have HKM := Lib.hid hkm1
          clear hb5 hnx HAF hq hkm1
          go_wp2
          go_roundw
          case rel => exact ⟨k + 1, A2, c2, rfl, HL5.out, HB5.out, .inr ⟨HKM.out, rfl⟩⟩
          case measure => simp; omega
    · have HOL := Lib.hid hol
      have HBE := Lib.hid hbel
      clear hol hbel HO3 HB3
      go_wp2
      go_ret
      have hmm : (countR d).toNat = k := by rw [HM.out, Int.toNat_natCast]
      refine ⟨Ao, co, by rw [hmm]; rfl, by rw [hmm]; exact HOL.out, HBE.out⟩

/-- numbers and a number, to be read -/
def IntsNumR (x : List Int × Int) (w : World) (e : Ending) (w' : World) : Prop :=
  ∃ A c, e = .returned (.tuple #[.slice A x.1.length c, .int .i64 x.2]) ∧ RdI w' A x.1.length x.1 ∧ Below w.heap.size w w'

set_option maxHeartbeats 2000000 in
set_option maxRecDepth 100000 in
theorem rguess_any (A : Option Addr) (n c : Nat) (l : List Int) (d : Nat) (w : World) (h : RdI w A n l) (hz : shapedC l d = 0) : Calls Try.prog 95 #[.agg #[.slice A n c, .int .i64 d]] w (IntsNumR (bestTo l d (countR d).toNat) w) := by
  have hck : chkS l d = 0 ∧ d ≤ 6 := by
    unfold shapedC at hz
    by_cases h1 : chkS l d = 0
    · refine ⟨h1, ?_⟩
      rw [if_neg (by omega)] at hz
      by_cases h2 : (6 : Int) < d
      · rw [if_pos h2] at hz; omega
      · omega
    · rw [if_pos h1] at hz; omega
  have hk := chkS_ok hck.1
  have hd1 : 1 ≤ d := by omega
  have hd6 : d ≤ 6 := by omega
  have hlen := h.len
  have hn1 : 1 ≤ n := by omega
  have hn6 : n ≤ 6 := by omega
  have HOK := Lib.hid hk.2.2.1
  have HLN := Lib.hid hlen
  have hcp := count_pos hd1 hd6
  obtain ⟨m, hm⟩ : ∃ m : Nat, countR d = m := ⟨(countR d).toNat, by omega⟩
  have hm203 : m ≤ 203 := by omega
  have HM := Lib.hid hm
  rw [hm, Int.toNat_natCast]
  clear hz hck hk hlen hcp hm
  go_enter Try.func95, Try.ntmps95
  go_upto_region 1 with fail
  have HA := Lib.hid (h.alloc (.cells #[.slice A n c, .int .i64 d] 24))
  have HB := Lib.hid ((Below.refl _ w).alloc (Nat.le_refl _) (.cells #[.slice A n c, .int .i64 d] 24))
  have HX := Lib.hid (Blk.new w 24 #[.slice A n c, .int .i64 d])
  clear h
  generalize w.alloc (.cells #[.slice A n c, .int .i64 d] 24) = W at HA HB HX ⊢
  have c0 : W.cell? ⟨w.heap.size, 0, none⟩ = some (.slice A n c) := by rw [HX.out.cell]; rfl
  have c1 : W.cell? ⟨w.heap.size, 1, none⟩ = some (.int .i64 d) := by rw [HX.out.cell]; rfl
  go_wp2_with fail
  refine (all_any d W hd1 hd6).mono ?_; rintro e w2 ⟨Al, cl, rfl, hol, hb2⟩
  rw [HM.out, Int.toNat_natCast] at hol ⊢
  have HL2 := Lib.hid hol.rd
  have HA2 := Lib.hid (HA.out.below hb2)
  have HX2 := Lib.hid (HX.out.below hb2)
  have HB2 := Lib.hid (HB.out.trans (hb2.mono HB.out.size))
  have hxl := HX2.out.lt
  clear hol hb2 HA HX HB c0 c1
  have c0 : w2.cell? ⟨w.heap.size, 0, none⟩ = some (.slice A n c) := by rw [HX2.out.cell]; rfl
  have c1 : w2.cell? ⟨w.heap.size, 1, none⟩ = some (.int .i64 d) := by rw [HX2.out.cell]; rfl
  go_wp2_with fail
  go_loopw [4, 5, 7] (fun p x i wr => ∃ (k : Nat) (Ab : Option Addr) (cb : Nat), k ≤ m ∧ i = .int .i64 k ∧ p = .slice Ab (bestTo l d k).1.length cb ∧ x = .int .i64 (bestTo l d k).2 ∧ RdI wr Ab (bestTo l d k).1.length (bestTo l d k).1 ∧ Below w2.heap.size w2 wr) (fun _ _ i _ => m - (intOf i).toNat)
  case atStart => exact ⟨0, none, 0, by omega, rfl, rfl, rfl, RdI.nil_, Below.refl _ _⟩
  case round =>
    obtain ⟨k, Ab, cb, hk, rfl, rfl, rfl, hrb, hbel⟩ := hrel
    have HRB := Lib.hid hrb
    have HBE := Lib.hid hbel
    have HLR := Lib.hid (HL2.out.below hbel)
    have HAR := Lib.hid (HA2.out.below hbel)
    have k0 := (hbel.cell (p := ⟨w.heap.size, 0, none⟩) hxl).trans c0
    have k1 := (hbel.cell (p := ⟨w.heap.size, 1, none⟩) hxl).trans c1
    have hszr := hbel.size
    clear hrb hbel
    by_cases hlt : k < m
    · obtain ⟨ad, B9, m9, d9, p9, rfl, hadl, hv, hr9, hcell⟩ := HLR.out.at_ hlt
      obtain ⟨_, rfl⟩ := prs_get hv.out
      obtain rfl : m9 = d := by have := hr9.len; rw [pr_len] at this; exact this.symm
      have HR9 := Lib.hid hr9
      have hadl2 : (ad.add k).block < wr.heap.size := by rw [block_of_add]; exact hadl
      have hx2 : w.heap.size < wr.heap.size := by omega
      have HBS : Hid (bestTo l m9 (k + 1) = if (bestTo l m9 k).2 < waysOf l (pr m9 k) then (pr m9 k, waysOf l (pr m9 k)) else bestTo l m9 k) := Lib.hid (bestTo_succ l m9 k)
      have HPC : Hid (∀ W', RdI W' A n l → RdI W' B9 m9 (pr m9 k) → Calls Try.prog 87 #[.agg #[.slice A n c, .int .i64 m9], .slice B9 m9 d9] W' (NumM (waysOf l (pr m9 k)) W')) := Lib.hid (fun W' h1 h2 => partitioned_any A B9 n c m9 d9 l (pr m9 k) m9 W' h1 h2 (pr_chk hd1 (by omega) k) hn6 hn1 HOK.out)
      have HPL := Lib.hid (pr_len m9 k)
      generalize waysOf l (pr m9 k) = x at HBS HPC
      generalize bestTo l m9 k = s at HRB HBS ⊢
      generalize hp : pr m9 k = p at HBS HPC HR9 HPL
      clear hr9 hv hp
      go_upto_region 7 with fail
      go_region_held3 (fun w' => (w'.cell? ⟨w.heap.size, 0, none⟩ = some (.slice A n c) ∧ w'.cell? ⟨w.heap.size, 1, none⟩ = some (.int .i64 m9)) ∧ w'.cell? (ad.add k) = some (.slice B9 m9 d9)) (first | exact ⟨⟨k0, k1⟩, hcell⟩ | exact ⟨⟨(hcl.cell (p := ⟨w.heap.size, 0, none⟩) hx2).trans k0, (hcl.cell (p := ⟨w.heap.size, 1, none⟩) hx2).trans k1⟩, (hcl.cell hadl2).trans hcell⟩) (first
        | (go_at_call 87; refine (HPC.out wr.drew HAR.out.drew HR9.out.drew).mono ?_; rintro e wc ⟨rfl, hcl⟩))
      have hcl2 : Below wr.heap.size wr wc := (Below.refl _ wr).drew.trans hcl
      have q3 := (hcl.cell (p := ad.add k) hadl2).trans hcell
      have HBW := Lib.hid (HBE.out.trans (hcl2.mono hszr))
      have HR9c := Lib.hid (HR9.out.below hcl2)
      have HRBc := Lib.hid (HRB.out.below hcl2)
      clear hcl hcl2 hcell k0 k1 HR9 HRB HBE HLR HAR
      have hkI : (k : Int) < m := by omega
      by_cases hx : s.2 < x
      · rw [if_pos hx] at HBS
        go_wp2
        go_roundw
        case rel => exact ⟨k + 1, B9, d9, by omega, by go_num, by rw [HBS.out]; simp only [HPL.out], by rw [HBS.out], by rw [HBS.out]; simp only [HPL.out]; exact HR9c.out, HBW.out⟩
        case measure => simp [intOf]; omega
      · rw [if_neg hx] at HBS
        have hx3 : x ≤ s.2 := by omega
        clear hx
        go_wp2
        go_roundw
        case rel => exact ⟨k + 1, Ab, cb, by omega, by go_num, by rw [HBS.out], by rw [HBS.out], by rw [HBS.out]; exact HRBc.out, HBW.out⟩
        case measure => simp [intOf]; omega
    · obtain rfl : k = m := by omega
      have HBF := Lib.hid (HB2.out.trans (HBE.out.mono HB2.out.size))
      go_wp2
      go_ret2
      exact ⟨Ab, cb, rfl, HRB.out, HBF.out⟩

/-- numbers, a number and an error, to be read -/
def IntsNumER (x : List Int × Int × Int) (w : World) (e : Ending) (w' : World) : Prop :=
  ∃ A c, e = .returned (.tuple #[.slice A x.1.length c, .int .i64 x.2.1, .int .i64 x.2.2]) ∧ RdI w' A x.1.length x.1 ∧ Below w.heap.size w w'
theorem shaped_pos {l : List Int} {d : Int} (hz : shapedC l d = 0) : chkS l d = 0 ∧ 1 ≤ d ∧ d ≤ 6 := by
  unfold shapedC at hz
  by_cases h1 : chkS l d = 0
  · rw [if_neg (by omega)] at hz
    by_cases h2 : (6 : Int) < d
    · rw [if_pos h2] at hz; omega
    · exact ⟨h1, (chkS_ok h1).2.2.2.1, by omega⟩
  · rw [if_pos h1] at hz; omega

set_option maxHeartbeats 1000000 in
set_option maxRecDepth 100000 in
theorem rguessE_any (A : Option Addr) (n c : Nat) (l : List Int) (d : Int) (w : World) (h : RdI w A n l) (hd : I64 d) : Calls Try.prog 38 #[.agg #[.slice A n c, .int .i64 d]] w (IntsNumER (guessE l d) w) := by
  go_enter Try.func38, Try.ntmps38
  go_upto_region 1 with fail
  have HA := Lib.hid (h.alloc (.cells #[.slice A n c, .int .i64 d] 24))
  have HB := Lib.hid ((Below.refl _ w).alloc (Nat.le_refl _) (.cells #[.slice A n c, .int .i64 d] 24))
  have HX := Lib.hid (Blk.new w 24 #[.slice A n c, .int .i64 d])
  clear h
  generalize w.alloc (.cells #[.slice A n c, .int .i64 d] 24) = W at HA HB HX ⊢
  have c0 : W.cell? ⟨w.heap.size, 0, none⟩ = some (.slice A n c) := by rw [HX.out.cell]; rfl
  have c1 : W.cell? ⟨w.heap.size, 1, none⟩ = some (.int .i64 d) := by rw [HX.out.cell]; rfl
  go_wp2_with fail
  refine (rshaped_any A n c l d W HA.out hd).mono ?_; rintro e w2 ⟨rfl, hb⟩
  have HA2 := Lib.hid (HA.out.below hb)
  have HX2 := Lib.hid (HX.out.below hb)
  have HB2 := Lib.hid (HB.out.trans (hb.mono HB.out.size))
  have c02 : w2.cell? ⟨w.heap.size, 0, none⟩ = some (.slice A n c) := by rw [HX2.out.cell]; rfl
  have c12 : w2.cell? ⟨w.heap.size, 1, none⟩ = some (.int .i64 d) := by rw [HX2.out.cell]; rfl
  clear hb HX c0 c1 HX2
  by_cases hz : shapedC l d = 0
  · have hd0 := shaped_pos hz
    obtain ⟨d, rfl⟩ : ∃ d' : Nat, d = d' := ⟨d.toNat, by omega⟩
    have HV := Lib.hid (guessE_ok hz)
    have HZ := Lib.hid hz
    rw [hz]
    clear hz hd0
    go_wp2_with fail
    refine (rguess_any A n c l d w2 HA2.out HZ.out).mono ?_; rintro e w3 ⟨A3, c3, rfl, ho, hb3⟩
    generalize bestTo l d (countR d).toNat = s at ho HV ⊢
    have HO := Lib.hid ho
    have HB3 := Lib.hid (HB2.out.trans (hb3.mono HB2.out.size))
    clear ho hb3
    go_wp2
    go_ret3
    rw [HV.out]; exact ⟨A3, c3, rfl, HO.out, HB3.out⟩
  · have HV := Lib.hid (guessE_bad hz)
    have g : (shapedC l d != 0) = true := by simpa using hz
    clear hz
    generalize shapedC l d = z at g HV ⊢
    go_wp2
    go_ret3
    rw [HV.out]; exact ⟨none, 0, rfl, RdI.nil_, HB2.out⟩

set_option maxHeartbeats 2000000 in
set_option maxRecDepth 100000 in
theorem rshapes_any (A : Option Addr) (n c : Nat) (l : List Int) (d : Int) (w : World) (h : RdI w A n l) (hd : I64 d) : Calls Try.prog 36 #[.agg #[.slice A n c, .int .i64 d]] w (IntsErr (shapesE l d) w) := by
  have hlen := h.len
  go_enter Try.func36, Try.ntmps36
  go_upto_region 1 with fail
  have HA := Lib.hid (h.alloc (.cells #[.slice A n c, .int .i64 d] 24))
  have HB := Lib.hid ((Below.refl _ w).alloc (Nat.le_refl _) (.cells #[.slice A n c, .int .i64 d] 24))
  have HX := Lib.hid (Blk.new w 24 #[.slice A n c, .int .i64 d])
  have HLN := Lib.hid hlen
  clear h hlen
  generalize w.alloc (.cells #[.slice A n c, .int .i64 d] 24) = W at HA HB HX ⊢
  have c0 : W.cell? ⟨w.heap.size, 0, none⟩ = some (.slice A n c) := by rw [HX.out.cell]; rfl
  have c1 : W.cell? ⟨w.heap.size, 1, none⟩ = some (.int .i64 d) := by rw [HX.out.cell]; rfl
  go_wp2_with fail
  refine (rshaped_any A n c l d W HA.out hd).mono ?_; rintro e w2 ⟨rfl, hb⟩
  have HA2 := Lib.hid (HA.out.below hb)
  have HX2 := Lib.hid (HX.out.below hb)
  have HB2 := Lib.hid (HB.out.trans (hb.mono HB.out.size))
  have c02 : w2.cell? ⟨w.heap.size, 0, none⟩ = some (.slice A n c) := by rw [HX2.out.cell]; rfl
  have c12 : w2.cell? ⟨w.heap.size, 1, none⟩ = some (.int .i64 d) := by rw [HX2.out.cell]; rfl
  clear hb HX c0 c1
  by_cases hz : shapedC l d = 0
  · have hd0 := shaped_pos hz
    have hk := chkS_ok hd0.1
    obtain ⟨d, rfl⟩ : ∃ d' : Nat, d = d' := ⟨d.toNat, by omega⟩
    have hd1 : 1 ≤ d := by omega
    have hd6 : d ≤ 6 := by omega
    have hn1 : 1 ≤ n := by have := HLN.out; omega
    have hn6 : n ≤ 6 := by have := HLN.out; omega
    have HOK := Lib.hid hk.2.2.1
    have hcp := count_pos hd1 hd6
    obtain ⟨m, hm⟩ : ∃ m : Nat, countR d = m := ⟨(countR d).toNat, by omega⟩
    have hm203 : m ≤ 203 := by omega
    have HV : Hid (shapesE l d = (shapesTo l d m, 0)) := Lib.hid (by unfold shapesE; rw [if_neg (by omega), Int.toNat_natCast, hm, Int.toNat_natCast])
    have HM := Lib.hid hm
    rw [hz]
    clear hz hd0 hk hcp hm
    have hxl := HX2.out.lt
    go_wp2_with fail
    refine (all_any d w2 hd1 hd6).mono ?_; rintro e w3 ⟨Al, cl, rfl, hol, hb3⟩
    rw [HM.out, Int.toNat_natCast] at hol ⊢
    have HL3 := Lib.hid hol.rd
    have HA3 := Lib.hid (HA2.out.below hb3)
    have HB3 := Lib.hid (HB2.out.trans (hb3.mono HB2.out.size))
    have hxl3 : w.heap.size < w3.heap.size := by have := hb3.size; omega
    have c0 := (hb3.cell (p := ⟨w.heap.size, 0, none⟩) hxl).trans c02
    have c1 := (hb3.cell (p := ⟨w.heap.size, 1, none⟩) hxl).trans c12
    clear hol hb3 HA2 HX2 HB2 c02 c12
    go_wp2_with fail
    go_loopw [5, 7] (fun s i wr => ∃ (k : Nat) (Ab : Option Addr) (cb : Nat), k ≤ m ∧ i = .int .i64 k ∧ s = .slice Ab k cb ∧ OwnI wr w3.heap.size 3 Ab k cb (shapesTo l d k) ∧ Below w3.heap.size w3 wr) (fun _ i _ => m - (intOf i).toNat)
    case atStart => exact ⟨0, none, 0, by omega, rfl, rfl, OwnI.nil_ _ _ _, Below.refl _ _⟩
    case round =>
      obtain ⟨k, Ab, cb, hk, rfl, rfl, hown, hbel⟩ := hrel
      have HO := Lib.hid hown
      have HBE := Lib.hid hbel
      have HLR := Lib.hid (HL3.out.below hbel)
      have HAR := Lib.hid (HA3.out.below hbel)
      have k0 := (hbel.cell (p := ⟨w.heap.size, 0, none⟩) hxl3).trans c0
      have k1 := (hbel.cell (p := ⟨w.heap.size, 1, none⟩) hxl3).trans c1
      have hszr := hbel.size
      clear hown hbel
      by_cases hlt : k < m
      · obtain ⟨ad, B9, m9, d9, p9, rfl, hadl, hv, hr9, hcell⟩ := HLR.out.at_ hlt
        obtain ⟨_, rfl⟩ := prs_get hv.out
        obtain rfl : m9 = d := by have := hr9.len; rw [pr_len] at this; exact this.symm
        have HR9 := Lib.hid hr9
        have hadl2 : (ad.add k).block < wr.heap.size := by rw [block_of_add]; exact hadl
        have hx2 : w.heap.size < wr.heap.size := by omega
        have HBS : Hid (shapesTo l m9 (k + 1) = shapesTo l m9 k ++ [waysOf l (pr m9 k)]) := Lib.hid (shapesTo_succ l m9 k)
        have HPC : Hid (∀ W', RdI W' A n l → RdI W' B9 m9 (pr m9 k) → Calls Try.prog 87 #[.agg #[.slice A n c, .int .i64 m9], .slice B9 m9 d9] W' (NumM (waysOf l (pr m9 k)) W')) := Lib.hid (fun W' h1 h2 => partitioned_any A B9 n c m9 d9 l (pr m9 k) m9 W' h1 h2 (pr_chk hd1 (by omega) k) hn6 hn1 HOK.out)
        have hx64 : I64 (waysOf l (pr m9 k)) := by
          have := waysOf_bd (c := l) (p := pr m9 k) (by rw [HLN.out]; exact hn6) HOK.out (pr_chk hd1 (by omega) k)
          unfold I64; omega
        generalize waysOf l (pr m9 k) = x at HBS HPC hx64
        generalize pr m9 k = p at HPC HR9
        clear hr9 hv
        have hk2 : k + 1 ≤ 1000000 := by omega
        have hkI : (k : Int) < m := by omega
        go_upto_region 9 with fail
        go_region_held3 (fun w' => (w'.cell? ⟨w.heap.size, 0, none⟩ = some (.slice A n c) ∧ w'.cell? ⟨w.heap.size, 1, none⟩ = some (.int .i64 m9)) ∧ w'.cell? (ad.add k) = some (.slice B9 m9 d9)) (first | exact ⟨⟨k0, k1⟩, hcell⟩ | exact ⟨⟨(hcl.cell (p := ⟨w.heap.size, 0, none⟩) hx2).trans k0, (hcl.cell (p := ⟨w.heap.size, 1, none⟩) hx2).trans k1⟩, (hcl.cell hadl2).trans hcell⟩ | exact ⟨⟨(hcl3.cell (p := ⟨w.heap.size, 0, none⟩) hx2).trans k0, (hcl3.cell (p := ⟨w.heap.size, 1, none⟩) hx2).trans k1⟩, (hcl3.cell hadl2).trans hcell⟩ | exact ⟨⟨(hcl4.cell (p := ⟨w.heap.size, 0, none⟩) hx3).trans k0, (hcl4.cell (p := ⟨w.heap.size, 1, none⟩) hx3).trans k1⟩, (hcl4.cell hadl4).trans hcell⟩) (first
          | (go_at_call 87; refine (HPC.out wr.drew HAR.out.drew HR9.out.drew).mono ?_; rintro e wc ⟨rfl, hcl⟩; have hcl2 : Below wr.heap.size wr wc := ((Below.refl _ wr).drew.trans hcl); have HOC := Lib.hid (HO.out.below hcl2); have hszc : w3.heap.size ≤ wc.heap.size := Nat.le_trans hszr hcl2.size; have hcl3 : Below wr.heap.size wr (wc.alloc (.cells #[.int .i64 x] 3)) := hcl2.alloc hcl2.size _)
          | (refine step_appI1 wc (by rfl) (.tmp 22) (.tmp 29) (by rfl) (v := x) _ (by rfl) (by rfl) HOC.out hx64 hk2 hszc ?_; intro A' c' w9 hown hgrow hbel; have hcl4 : Below w3.heap.size wr w9 := (hcl2.mono hszr).trans hbel; have hx3 : w.heap.size < w3.heap.size := hxl3; have hadl4 : (ad.add k).block < w3.heap.size := (by obtain ⟨ad', _, _, _, _, e, hb, _⟩ := HL3.out.at_ hlt; injection e with e; subst e; rw [block_of_add]; exact hb)))
        have HBW := Lib.hid (HBE.out.trans ((hcl2.mono hszr).trans hbel))
        have HON := Lib.hid hown
        clear hcl hcl2 hcl3 hcl4 hgrow hbel hown hcell k0 k1 HR9 HBE HLR HAR HOC HO
        go_wp2
        go_roundw
        case rel => exact ⟨k + 1, A', c', by omega, by go_num, rfl, by rw [HBS.out]; exact HON.out, HBW.out⟩
        case measure => simp [intOf]; omega
      · obtain rfl : k = m := by omega
        have HBF := Lib.hid (HB3.out.trans (HBE.out.mono HB3.out.size))
        have HOF := Lib.hid (HO.out.mono HB3.out.size)
        have HSL : Hid ((shapesTo l d k).length = k) := Lib.hid (by simp [shapesTo])
        go_wp2
        go_ret2
        rw [HV.out]
        exact ⟨Ab, cb, by simp only [HSL.out]; rfl, by simp only [HSL.out]; exact HOF.out, HBF.out⟩
  · have HV : Hid (shapesE l d = ([], shapedC l d)) := Lib.hid (by unfold shapesE; rw [if_pos hz])
    have g : (shapedC l d != 0) = true := by simpa using hz
    clear hz
    generalize shapedC l d = z at g HV ⊢
    go_wp2
    go_ret2
    rw [HV.out]; exact ⟨none, 0, rfl, OwnI.nil_ _ _ _, HB2.out⟩

/-! ### Chance, of both sides -/
theorem chanceE_1 {c : List Int} {d : Int} {p : List Int} (h : chkS c d ≠ 0) : chanceE c d p = (0, chkS c d) := by unfold chanceE; rw [if_pos h]
theorem chanceE_2 {c : List Int} {d : Int} {p : List Int} (h : chkS c d = 0) (h2 : chk p ≠ 0) : chanceE c d p = (0, chk p) := by unfold chanceE; rw [if_neg (by omega), if_pos h2]
theorem chanceE_3 {c : List Int} {d : Int} {p : List Int} (h : chkS c d = 0) (h2 : chk p = 0) (h3 : (p.length : Int) ≠ d) : chanceE c d p = (0, 3) := by unfold chanceE; rw [if_neg (by omega), if_neg (by omega), if_pos h3]
theorem chanceE_4 {c : List Int} {d : Int} {p : List Int} (h : chkS c d = 0) (h2 : chk p = 0) (h3 : (p.length : Int) = d) : chanceE c d p = (waysOf c p, 0) := by unfold chanceE; rw [if_neg (by omega), if_neg (by omega), if_neg (by omega)]

set_option maxHeartbeats 1000000 in
set_option maxRecDepth 100000 in
theorem rchanceE_any (A B : Option Addr) (n c m cb : Nat) (l p : List Int) (d : Int) (w : World) (h : RdI w A n l) (h2 : RdI w B m p) (hd : I64 d) :
    Calls Try.prog 31 #[.agg #[.slice A n c, .int .i64 d], .slice B m cb] w (Num2M (chanceE l d p) w) := by
  have hlen := h.len
  have hplen := h2.len
  go_enter Try.func31, Try.ntmps31
  go_upto_region 1 with fail
  have HA := Lib.hid (h.alloc (.cells #[.slice A n c, .int .i64 d] 24))
  have HP := Lib.hid (h2.alloc (.cells #[.slice A n c, .int .i64 d] 24))
  have HB := Lib.hid ((Below.refl _ w).alloc (Nat.le_refl _) (.cells #[.slice A n c, .int .i64 d] 24))
  have HX := Lib.hid (Blk.new w 24 #[.slice A n c, .int .i64 d])
  have HLN := Lib.hid hlen
  have HPL := Lib.hid hplen
  clear h h2 hlen hplen
  generalize w.alloc (.cells #[.slice A n c, .int .i64 d] 24) = W at HA HB HX HP ⊢
  have c0 : W.cell? ⟨w.heap.size, 0, none⟩ = some (.slice A n c) := by rw [HX.out.cell]; rfl
  have c1 : W.cell? ⟨w.heap.size, 1, none⟩ = some (.int .i64 d) := by rw [HX.out.cell]; rfl
  go_wp2_with fail
  refine (rcheckS_any A n c l d W HA.out hd).mono ?_; rintro e w2 ⟨rfl, hb⟩
  have HA2 := Lib.hid (HA.out.below hb)
  have HP2 := Lib.hid (HP.out.below hb)
  have HX2 := Lib.hid (HX.out.below hb)
  have HB2 := Lib.hid (HB.out.trans (hb.mono HB.out.size))
  have c02 : w2.cell? ⟨w.heap.size, 0, none⟩ = some (.slice A n c) := by rw [HX2.out.cell]; rfl
  have c12 : w2.cell? ⟨w.heap.size, 1, none⟩ = some (.int .i64 d) := by rw [HX2.out.cell]; rfl
  clear hb HX c0 c1 HX2 HA HP HB
  by_cases hz : chkS l d = 0
  · have HZ := Lib.hid hz
    have hk := chkS_ok hz
    have HC := Lib.hid (refCheck_any B m cb p w2 HP2.out)
    rw [hz]
    clear hz
    by_cases hp : chk p = 0
    · have HPK := Lib.hid hp
      rw [hp] at HC
      clear hp
      by_cases hmd : (m : Int) = d
      · have HV := Lib.hid (chanceE_4 HZ.out HPK.out (by rw [HPL.out]; exact hmd))
        have HQ := Lib.hid (partitioned_any A B n c m cb l p d w2 HA2.out HP2.out HPK.out (by have := HLN.out; omega) (by have := HLN.out; omega) hk.2.2.1)
        have gm : ((m : Int) != d) = false := by simp; omega
        clear hk hmd
        generalize waysOf l p = x at HV HQ
        go_wp2_with fail
        refine HC.out.mono ?_; rintro e w' ⟨rfl, rfl⟩
        go_wp2_with fail
        refine HQ.out.mono ?_; rintro e w3 ⟨rfl, hb3⟩
        have HB3 := Lib.hid (HB2.out.trans (hb3.mono HB2.out.size))
        clear hb3
        go_wp2
        go_ret2
        rw [HV.out]; exact ⟨rfl, HB3.out⟩
      · have HV := Lib.hid (chanceE_3 HZ.out HPK.out (by rw [HPL.out]; exact hmd))
        have gm : ((m : Int) != d) = true := by simp; omega
        clear hk hmd
        go_wp2_with fail
        refine HC.out.mono ?_; rintro e w' ⟨rfl, rfl⟩
        go_wp2
        go_ret2
        rw [HV.out]; exact ⟨rfl, HB2.out⟩
    · have HV := Lib.hid (chanceE_2 HZ.out hp)
      have g : (chk p != 0) = true := by simpa using hp
      clear hp hk
      generalize chk p = z at HC g HV
      go_wp2_with fail
      refine HC.out.mono ?_; rintro e w' ⟨rfl, rfl⟩
      go_wp2
      go_ret2
      rw [HV.out]; exact ⟨rfl, HB2.out⟩
  · have HV := Lib.hid (chanceE_1 (p := p) hz)
    have g : (chkS l d != 0) = true := by simpa using hz
    clear hz
    generalize chkS l d = z at g HV ⊢
    go_wp2
    go_ret2
    rw [HV.out]; exact ⟨rfl, HB2.out⟩

set_option maxHeartbeats 1000000 in
set_option maxRecDepth 100000 in
theorem chancePE_any (A B : Option Addr) (n c m cb : Nat) (l p : List Int) (d : Int) (w : World) (h : RdI w A n l) (h2 : RdI w B m p) (hd : I64 d) :
    Calls Try.prog 30 #[.agg #[.slice A n c, .int .i64 d], .slice B m cb] w (Num2M (chanceE l d p) w) := by
  have hlen := h.len
  have hplen := h2.len
  go_enter Try.func30, Try.ntmps30
  go_upto_region 1 with fail
  have HA := Lib.hid (h.alloc (.cells #[.slice A n c, .int .i64 d] 24))
  have HP := Lib.hid (h2.alloc (.cells #[.slice A n c, .int .i64 d] 24))
  have HB := Lib.hid ((Below.refl _ w).alloc (Nat.le_refl _) (.cells #[.slice A n c, .int .i64 d] 24))
  have HX := Lib.hid (Blk.new w 24 #[.slice A n c, .int .i64 d])
  have HLN := Lib.hid hlen
  have HPL := Lib.hid hplen
  clear h h2 hlen hplen
  generalize w.alloc (.cells #[.slice A n c, .int .i64 d] 24) = W at HA HB HX HP ⊢
  have c0 : W.cell? ⟨w.heap.size, 0, none⟩ = some (.slice A n c) := by rw [HX.out.cell]; rfl
  have c1 : W.cell? ⟨w.heap.size, 1, none⟩ = some (.int .i64 d) := by rw [HX.out.cell]; rfl
  go_wp2_with fail
  refine (checkS_any A n c l d W HA.out hd).mono ?_; rintro e w2 ⟨rfl, hb⟩
  have HA2 := Lib.hid (HA.out.below hb)
  have HP2 := Lib.hid (HP.out.below hb)
  have HX2 := Lib.hid (HX.out.below hb)
  have HB2 := Lib.hid (HB.out.trans (hb.mono HB.out.size))
  have c02 : w2.cell? ⟨w.heap.size, 0, none⟩ = some (.slice A n c) := by rw [HX2.out.cell]; rfl
  have c12 : w2.cell? ⟨w.heap.size, 1, none⟩ = some (.int .i64 d) := by rw [HX2.out.cell]; rfl
  clear hb HX c0 c1 HX2 HA HP HB
  by_cases hz : chkS l d = 0
  · have HZ := Lib.hid hz
    have hk := chkS_ok hz
    have HC := Lib.hid (check_any B m cb p w2 HP2.out)
    rw [hz]
    clear hz
    by_cases hp : chk p = 0
    · have HPK := Lib.hid hp
      rw [hp] at HC
      clear hp
      by_cases hmd : (m : Int) = d
      · have HV := Lib.hid (chanceE_4 HZ.out HPK.out (by rw [HPL.out]; exact hmd))
        have gm : ((m : Int) != d) = false := by simp; omega
        have hn6 : n ≤ 6 := by have := HLN.out; omega
        have hn1 : 1 ≤ n := by have := HLN.out; omega
        have HK6 := Lib.hid (pad6_kinds (c := l) (by rw [HLN.out]; exact hn6) hk.2.2.1)
        have HP6 := Lib.hid (pad6_len (c := l) (by rw [HLN.out]; exact hn6))
        clear hk hmd
        go_wp2_with fail
        refine HC.out.mono ?_; rintro e w' ⟨rfl, rfl⟩
        go_wp2_with fail
        refine (leftOf_any A n c l w2 HA2.out hn6 hn1).mono ?_; rintro e w3 ⟨rfl, hb3⟩
        have HP3 := Lib.hid (HP2.out.below hb3)
        have HB3 := Lib.hid (HB2.out.trans (hb3.mono HB2.out.size))
        clear hb3
        have HQ := Lib.hid (chance_any B m cb p (pad6 l) w3 HP3.out HPK.out HP6.out HK6.out)
        rw [show chanceP (sizesOf p) (pad6 l) = waysOf l p from rfl] at HQ
        generalize waysOf l p = x at HV HQ
        go_wp2_with fail
        refine HQ.out.mono ?_; rintro e w4 ⟨rfl, hb4⟩
        have HB4 := Lib.hid (HB3.out.trans (hb4.mono HB3.out.size))
        clear hb4
        go_wp2
        go_ret2
        rw [HV.out]; exact ⟨rfl, HB4.out⟩
      · have HV := Lib.hid (chanceE_3 HZ.out HPK.out (by rw [HPL.out]; exact hmd))
        have gm : ((m : Int) != d) = true := by simp; omega
        clear hk hmd
        go_wp2_with fail
        refine HC.out.mono ?_; rintro e w' ⟨rfl, rfl⟩
        go_wp2
        go_ret2
        rw [HV.out]; exact ⟨rfl, HB2.out⟩
    · have HV := Lib.hid (chanceE_2 HZ.out hp)
      have g : (chk p != 0) = true := by simpa using hp
      clear hp hk
      generalize chk p = z at HC g HV
      go_wp2_with fail
      refine HC.out.mono ?_; rintro e w' ⟨rfl, rfl⟩
      go_wp2
      go_ret2
      rw [HV.out]; exact ⟨rfl, HB2.out⟩
  · have HV := Lib.hid (chanceE_1 (p := p) hz)
    have g : (chkS l d != 0) = true := by simpa using hz
    clear hz
    generalize chkS l d = z at g HV ⊢
    go_wp2
    go_ret2
    rw [HV.out]; exact ⟨rfl, HB2.out⟩
end Go.Proofs.Ytcmacejpoihhlaa

namespace Go.Proofs.Ytcmacejpoihhlaa
open Go.RowKit

theorem unrank_pr {d r : Nat} (h1 : 1 ≤ d) (h9 : d ≤ 9) (hr : (r : Int) < countR d) : unrankE (d : Int) (r : Int) = (pr d r, 0) := by
  unfold unrankE
  rw [if_neg (by omega), Int.toNat_natCast, if_neg (by omega)]; rfl
theorem chanceE_pr {l : List Int} {d r : Nat} (h1 : 1 ≤ d) (h7 : d ≤ 7) (hz : chkS l d = 0) : chanceE l d (pr d r) = (waysOf l (pr d r), 0) := by
  unfold chanceE
  rw [if_neg (by omega), if_neg (by rw [pr_chk h1 h7 r]; simp), if_neg (by rw [pr_len]; simp)]

set_option maxHeartbeats 4000000 in
set_option maxRecDepth 100000 in
theorem designAll_any (A0 : Option Addr) (n0 c0 : Nat) (nums : List Int) (w : World) (h : RdI w A0 n0 nums) : Calls Try.prog 8 #[.slice A0 n0 c0] w fun e w' => e = .returned (.bool true) ∧ Below w.heap.size w w' := by
  obtain ⟨i0, hi0, hz0, hz1, hz2⟩ := info_parts intInfo
  go_enter Try.func8, Try.ntmps8
  go_wp2_with fail
  refine (boxOf_any A0 n0 c0 nums w h).mono ?_; rintro e w1 ⟨g, rfl, hg, hbox, hb1⟩
  have HBX := Lib.hid hbox
  have HB1 := Lib.hid hb1
  have hgl := hbox.lt
  clear hbox hb1 h
  go_wp2_with fail
  refine (stockOf_any g 4 4 5 w1 HBX.out (by omega) (by omega) (by omega) (by omega) (by omega) (by omega)).mono ?_; rintro e w2 ⟨A, n, c, l, d, rfl, hbd, h4, hown, hsp⟩
  have hd5 : d ≤ 5 := hbd.2.2.2.1
  have hd1 : 1 ≤ d := hbd.2.2.1
  have hn4 : n ≤ 4 := hbd.2.1
  have HZ := Lib.hid (stock_chk hown.len hbd.1 (by omega) h4 (by omega) hd1 (by omega) hbd.2.2.2.2)
  have HSC := Lib.hid (shaped_ok HZ.out (by omega))
  have HLN := Lib.hid hown.len
  have H4 : Hid (∀ x ∈ l, 0 ≤ x ∧ x ≤ 4) := Lib.hid (fun x hx => by have := h4 x hx; omega)
  have HS16 : Hid (sumI l ≤ 16) := Lib.hid (by
    have := (sumI_bd (B := 4) l H4.out).2
    rw [HLN.out] at this; omega)
  have HDS := Lib.hid hbd.2.2.2.2
  have HR := Lib.hid (hown.rd.alloc (.cells #[.slice A n c, .int .i64 d] 24))
  have HX := Lib.hid (Blk.new w2 24 #[.slice A n c, .int .i64 d])
  have HB := Lib.hid (HB1.out.trans (((hsp.below hg HB1.out.size)).alloc (Nat.le_trans HB1.out.size hsp.grown.size) (.cells #[.slice A n c, .int .i64 d] 24)))
  have hn1 := hbd.1
  clear hown hsp h4 hbd
  go_upto_region 2 with fail
  obtain ⟨q, hq⟩ : ∃ q, w2.heap.size = q := ⟨_, rfl⟩
  rw [hq] at HX ⊢
  generalize w2.alloc (.cells #[.slice A n c, .int .i64 d] 24) = W2 at HR HX HB ⊢
  clear hq HBX HB1
  have c0 : W2.cell? ⟨q, 0, none⟩ = some (.slice A n c) := by rw [HX.out.cell]; rfl
  have c1 : W2.cell? ⟨q, 1, none⟩ = some (.int .i64 d) := by rw [HX.out.cell]; rfl
  obtain ⟨S, hS⟩ : ∃ S, sumI l = S := ⟨_, rfl⟩
  have HWE : Hid (waysE l d = (fallN S d, 0)) := Lib.hid (by unfold waysE; rw [if_neg (by rw [HZ.out]; simp), hS, Int.toNat_natCast])
  have hft := fallN_54 (f := S) (by have := HS16.out; omega) d (by have := HDS.out; omega) (by omega)
  have hcp := count_pos hd1 (by omega : d ≤ 6)
  obtain ⟨m, hm⟩ : ∃ m : Nat, countR d = m := ⟨(countR d).toNat, by omega⟩
  have HSW : Hid (sS m (fun r => waysOf l (pr d r)) = fallN S d) := Lib.hid (by
    have := sum_ways hd1 hd5 (fun x hx => (H4.out x hx).1)
    rw [hm, Int.toNat_natCast, hS] at this; exact this)
  have HWB : Hid (∀ r, 0 ≤ waysOf l (pr d r)) := Lib.hid (fun r => (waysOf_bd (by rw [HLN.out]; omega) (chkS_ok HZ.out).2.2.1 (pr_chk hd1 (by omega) r)).1)
  have HSL : Hid (∀ r, r ≤ m → 0 ≤ sS r (fun r => waysOf l (pr d r)) ∧ sS r (fun r => waysOf l (pr d r)) ≤ fallN S d) := Lib.hid (fun r hr => by
    refine ⟨sS_nonneg (fun k _ => HWB.out k), ?_⟩
    have key : ∀ t, sS r (fun r => waysOf l (pr d r)) ≤ sS (r + t) (fun r => waysOf l (pr d r)) := by
      intro t
      induction t with
      | zero => exact Int.le_refl _
      | succ t ih => rw [← Nat.add_assoc, sS_succ]; have := HWB.out (r + t); omega
    have := key (m - r)
    rw [show r + (m - r) = m by omega, HSW.out] at this
    exact this)
  obtain ⟨T, hT⟩ : ∃ T, fallN S d = T := ⟨_, rfl⟩
  rw [hT] at HWE HSW HSL hft
  have HCM := Lib.hid hm
  rw [hm] at hcp
  have HUN : Hid (∀ r, r < m → unrankE (d : Int) (r : Int) = (pr d r, 0)) := Lib.hid (fun r hr => unrank_pr hd1 (by omega) (by rw [HCM.out]; omega))
  have HCE : Hid (∀ r, chanceE l d (pr d r) = (waysOf l (pr d r), 0)) := Lib.hid (fun r => chanceE_pr hd1 (by omega) HZ.out)
  have HPL : Hid (∀ r, (pr d r).length = d) := Lib.hid (pr_len d)
  have HCO : Hid (countE (d : Int) = ((m : Int), 0)) := Lib.hid (by unfold countE; rw [if_neg (by omega), Int.toNat_natCast, hm])
  clear hm hT hS
  go_wp2_with fail
  refine (ways_any A n c l d W2 HR.out (I64.small (by omega))).mono ?_; rintro e w3 ⟨rfl, b3⟩
  rw [HWE.out]
  have HR3 := Lib.hid (HR.out.below b3)
  have HX3 := Lib.hid (HX.out.below b3)
  have HB3 := Lib.hid (HB.out.trans (b3.mono HB.out.size))
  have c0 : w3.cell? ⟨q, 0, none⟩ = some (.slice A n c) := by rw [HX3.out.cell]; rfl
  have c1 : w3.cell? ⟨q, 1, none⟩ = some (.int .i64 d) := by rw [HX3.out.cell]; rfl
  clear b3 HR HX HB HWE
  go_wp2_with fail
  refine (shapesP_any A n c l d w3 HR3.out (I64.small (by omega))).mono ?_; rintro e w4 ⟨A4, c4, rfl, h4, b4⟩
  rw [shapesE_ok HSC.out] at h4 ⊢
  simp only at h4 ⊢
  rw [shapesTo_len] at h4 ⊢
  rw [HCM.out, Int.toNat_natCast] at h4 ⊢
  have HSH := Lib.hid h4.rd
  have HR4 := Lib.hid (HR3.out.below b4)
  have HX4 := Lib.hid (HX3.out.below b4)
  have HB4 := Lib.hid (HB3.out.trans (b4.mono HB3.out.size))
  have c1 : w4.cell? ⟨q, 1, none⟩ = some (.int .i64 d) := by rw [HX4.out.cell]; rfl
  clear h4 b4 HR3 HX3 HB3 c0
  go_wp2_with fail
  refine (count_any (d : Int) w4).mono ?_; rintro e w5 ⟨rfl, b5⟩
  rw [HCO.out]
  have HSH5 := Lib.hid (HSH.out.below b5)
  have HR5 := Lib.hid (HR4.out.below b5)
  have HX5 := Lib.hid (HX4.out.below b5)
  have HB5 := Lib.hid (HB4.out.trans (b5.mono HB4.out.size))
  clear b5 HSH HR4 HX4 HB4 c1
  have hT0 : 1 ≤ T := hft.1
  have hT1 : T ≤ 3904305912313344 := hft.2
  clear hft
  go_wp2_with fail
  go_loopw [10, 11] (fun s i wr => ∃ r : Nat, r ≤ m ∧ i = .int .i64 r ∧ s = .int .i64 (sS r (fun r => waysOf l (pr d r))) ∧ RdI wr A4 m (shapesTo l d m) ∧ RdI wr A n l ∧ Blk wr q 24 #[.slice A n c, .int .i64 d] ∧ Below w.heap.size w wr) (fun _ i _ => m - (intOf i).toNat)
  case atStart => exact ⟨0, by omega, rfl, rfl, HSH5.out, HR5.out, HX5.out, HB5.out⟩
  case round =>
    obtain ⟨r, hr, rfl, rfl, hsh, hrl, hxx, hbw⟩ := hrel
    have HSHr := Lib.hid hsh
    have HRr := Lib.hid hrl
    have HXr := Lib.hid hxx
    have HBr := Lib.hid hbw
    have hbs := HSL.out r hr
    clear hsh hrl hxx hbw HSH5 HR5 HX5 HB5
    by_cases hrm : r < m
    · have HNX : Hid (sS (r + 1) (fun r => waysOf l (pr d r)) = sS r (fun r => waysOf l (pr d r)) + waysOf l (pr d r)) := Lib.hid (sS_succ _ _)
      have hb2 := HSL.out (r + 1) hrm
      rw [HNX.out] at hb2
      have hnn := HWB.out r
      obtain ⟨x, hx⟩ : ∃ x, waysOf l (pr d r) = x := ⟨_, rfl⟩
      obtain ⟨y, hy⟩ : ∃ y, sS r (fun r => waysOf l (pr d r)) = y := ⟨_, rfl⟩
      rw [hx] at hb2 hnn
      rw [hx, hy] at HNX
      rw [hy] at hb2 hbs ⊢
      have HCEr : Hid (chanceE l d (pr d r) = (x, 0)) := Lib.hid (by rw [HCE.out r, hx])
      have HGX : Hid ((shapesTo l d m)[r]? = some x) := Lib.hid (by unfold shapesTo; rw [List.getElem?_map, List.getElem?_range hrm]; simp only [Option.map_some]; rw [hx])
      have c1 : wr.cell? ⟨q, 1, none⟩ = some (.int .i64 d) := by rw [HXr.out.cell]; rfl
      have hrmI : (r : Int) < m := by omega
      have HUr := Lib.hid (HUN.out r hrm)
      have HPr := Lib.hid (HPL.out r)
      clear hx hy
      go_wp2_with fail
      refine (unrank_any (d : Int) (r : Int) wr).mono ?_; rintro e w6 ⟨A6, c6, rfl, h6, b6⟩
      rw [HUr.out] at h6 ⊢
      simp only at h6 ⊢
      rw [HPr.out] at h6 ⊢
      have HP6 := Lib.hid h6.rd
      have HSH6 := Lib.hid (HSHr.out.below b6)
      have HR6 := Lib.hid (HRr.out.below b6)
      have HX6 := Lib.hid (HXr.out.below b6)
      have HB6 := Lib.hid (HBr.out.trans (b6.mono HBr.out.size))
      have c0 : w6.cell? ⟨q, 0, none⟩ = some (.slice A n c) := by rw [HX6.out.cell]; rfl
      have c1 : w6.cell? ⟨q, 1, none⟩ = some (.int .i64 d) := by rw [HX6.out.cell]; rfl
      clear h6 b6 HSHr HRr HXr HBr
      go_wp2_with fail
      refine (chancePE_any A A6 n c d c6 l (pr d r) d w6 HR6.out HP6.out (I64.small (by omega))).mono ?_; rintro e w7 ⟨rfl, b7⟩
      rw [HCEr.out]
      have HSH7 := Lib.hid (HSH6.out.below b7)
      have HR7 := Lib.hid (HR6.out.below b7)
      have HX7 := Lib.hid (HX6.out.below b7)
      have HB7 := Lib.hid (HB6.out.trans (b7.mono HB6.out.size))
      clear b7 HSH6 HR6 HX6 HB6 c0 c1 HP6
      obtain ⟨sd, x', rfl, _, hv, _, hcv⟩ := HSH7.out.at_ hrm
      obtain rfl : x = x' := by have := hv.out; rw [HGX.out] at this; injection this
      clear hv
      go_wp2
      go_roundw
      case rel => exact ⟨r + 1, by omega, by go_num, by rw [HNX.out], HSH7.out, HR7.out, HX7.out, HB7.out⟩
      case measure => simp [intOf]; omega
    · obtain rfl : r = m := by omega
      rw [HSW.out]
      clear hbs
      by_cases h3 : T ≤ 3000
      · have HRM : Hid (List.replicate r (0 : Int) = List.replicate (countR d).toNat 0) := Lib.hid (by rw [HCM.out, Int.toNat_natCast])
        have HCA : Hid (crsF d [] l (List.replicate r 0) = shapesTo l d r) := Lib.hid (by
          have := crs_all hd1 hd5 (fun x hx => (H4.out x hx).1)
          rwa [HCM.out, Int.toNat_natCast] at this)
        go_upto_region 20 with (at_make; go_must (refine wpList_make_full wr rfl (.tmp 94) (.tmp 94) 22 rfl wr.heap.size 3 i0 (.int .i64 0) 1 Try.underlying22 hi0 hz0 hz1 .i64 .i64 r r r rfl rfl rfl rfl (by rw [hz2]; omega) (by unfold maxLen; omega) (Nat.le_refl _) ?_); intro w3 hown hg3)
        have hb3 : Below wr.heap.size wr w3 := (Below.refl _ _).grown hg3 (Nat.le_refl _) (by simp)
        have hP0 : OwnI w3 wr.heap.size 3 (some ⟨wr.heap.size, 0, none⟩) r r (List.replicate r 0) := by
          refine ⟨⟨?_, by omega⟩, fun v hv => ?_⟩
          · rw [show (madeCells (Value.int .i64 0).cells (r * 1)).toList = ints (List.replicate r 0) from by rw [Nat.mul_one]; show (madeCells #[Value.int .i64 0] r).toList = _; rw [toList_madeCells_one]; simp [ints]] at hown
            exact hown
          · rw [(List.mem_replicate.1 hv).2]
            exact I64.small (by omega)
        have HQ3 := Lib.hid hP0
        have HSH3 := Lib.hid (HSHr.out.below hb3)
        have HR3 := Lib.hid (HRr.out.below hb3)
        have HX3 := Lib.hid (HXr.out.below hb3)
        have HB3 := Lib.hid (HBr.out.trans (hb3.mono HBr.out.size))
        have HAN : Hid (∀ b, A.map (·.block) = some b → b ≠ wr.heap.size) := Lib.hid fun b e => by have := HRr.out.block (by omega) e; omega
        have HSN : Hid (∀ b, A4.map (·.block) = some b → b ≠ wr.heap.size) := Lib.hid fun b e => by have := HSHr.out.block (by omega) e; omega
        have HGW : Hid (w.heap.size ≤ wr.heap.size) := HBr.out.size
        clear hown hg3 hb3 hP0 HSHr HRr HXr HBr hi0 hz0 hz1 hz2 i0
        generalize wr.heap.size = gp at HQ3 HAN HSN HGW ⊢
        have c0 : w3.cell? ⟨q, 0, none⟩ = some (.slice A n c) := by rw [HX3.out.cell]; rfl
        have c1 : w3.cell? ⟨q, 1, none⟩ = some (.int .i64 d) := by rw [HX3.out.cell]; rfl
        have HNO : Hid (r = (countR d).toNat) := Lib.hid (by rw [HCM.out]; rfl)
        have HBZ : Hid (BdO 0 (List.replicate r 0)) := Lib.hid (fun x hx => by rw [(List.mem_replicate.1 hx).2]; omega)
        have H16 : Hid ((0 : Int) + 16 ^ d ≤ 1000000000000) := Lib.hid (by
          have h : d = 1 ∨ d = 2 ∨ d = 3 ∨ d = 4 ∨ d = 5 := by omega
          rcases h with rfl | rfl | rfl | rfl | rfl <;> decide)
        have HCR := Lib.hid (courses_any d gp gp r r hd1 hd5 HNO.out d [] l (List.replicate r 0) none A 0 n 0 c 0 w3 (by omega) RdI.nil_ (fun b e => by cases e) HR3.out HAN.out hn4 H4.out HS16.out HQ3.out HBZ.out (Int.le_refl _) H16.out)
        go_wp2_with fail
        refine HCR.out.mono ?_; rintro e w4 ⟨rfl, ho4, hg4⟩
        rw [HCA.out] at ho4
        have HO4 := Lib.hid ho4.rd
        have HSH4 := Lib.hid (HSH3.out.grown hg4 (fun b e e2 => by injection e with e; exact HSN.out b e2 e.symm))
        have HB4 := Lib.hid (HB3.out.trans ((Below.refl _ _).grown hg4 HB3.out.size (fun k hk => by injection hk with hk; rw [← hk]; exact HGW.out)))
        clear ho4 hg4 HCR HQ3 HSH3 HR3 HX3 HB3 c0 c1 HCA HRM
        go_wp2_with fail
        refine (eq_any (some ⟨gp, 0, none⟩) A4 r r r c4 (shapesTo l d r) (shapesTo l d r) w4 HO4.out HSH4.out).mono ?_; rintro e w' ⟨rfl, d1, rfl⟩
        rw [beq_self_eq_true]
        have HB5 := Lib.hid (below_drewN HB4.out d1)
        clear HO4 HSH4 HB4
        generalize w4.drewN d1 = w5 at HB5 ⊢
        go_wp2_with fail
        refine (awake5_any w5).mono ?_; rintro e w8 ⟨rfl, hb8⟩
        have HBF := Lib.hid (HB5.out.trans (hb8.mono HB5.out.size))
        clear hb8
        go_wp2
        go_ret
        exact ⟨rfl, HBF.out⟩
      · have h3' : ¬T ≤ 3000 := h3
        go_wp2_with fail
        refine (awake5_any wr).mono ?_; rintro e w8 ⟨rfl, hb8⟩
        have HBF := Lib.hid (HBr.out.trans (hb8.mono HBr.out.size))
        clear hb8
        go_wp2
        go_ret
        exact ⟨rfl, HBF.out⟩
end Go.Proofs.Ytcmacejpoihhlaa
