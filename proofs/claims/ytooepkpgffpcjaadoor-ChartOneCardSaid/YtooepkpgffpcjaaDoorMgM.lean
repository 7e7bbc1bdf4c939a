/- Walk: the statement ChartRows. -/
import Derived.Test.YtooepkpgffpcjaaDoorMgK
import Derived.Test.YtooepkpgffpcjaaDoorMgG
import Derived.Test.YtooepkpgffpcjaaDoorMgI
namespace Go.Proofs.YtooepkpgffpcjaaDoor
open Go.RowKit

/-- all that the rows of the chart of a partition are asked -/
structure RowsAre (p : List Int) (n m most : Nat) (RL : List (List UInt8)) (lv : List Int) : Prop where
  len : RL.length = most + 1
  row : ∀ r, r < most + 1 → ∃ S : List UInt8, RL[r]? = some S ∧ S.length = 2 * n - 1 ∧ ∀ i, i < n → ∃ c : UInt8, S[2 * i]? = some c ∧ (c == 111) = (likeTo p i n && lv.getD (p.getD i 0).toNat 0 == (r : Int) + 1) ∧ (r = most → c = 124)
  levs : lv.length = m
  lev1 : ∀ v ∈ lv, 1 ≤ v ∧ v ≤ 100
  deep : lv.foldl max 0 = most
theorem deep_most (L : List Bar) : (L.map (·.2.2)).foldl max 0 = mostOf L := by
  unfold mostOf; rw [List.foldl_map]
theorem rows_are {p : List Int} (h : chk p = 0) : ∃ most : Nat, most ≤ 9 ∧ rowsF (drawT p) = ((rowsF (drawT p)).1, []) ∧ RowsAre p p.length (blk p).toNat most (rowsF (drawT p)).1 (levL p) ∧ (drawT p).length ≤ 1000 := by
  obtain ⟨h1, h2⟩ := barsTo_inv h p.length (Nat.le_refl _)
  rw [List.take_of_length_le (Nat.le_refl _)] at h2
  have hn := chk_ok h
  have hb9 := blk_le9 h
  have hlev : ∀ v ∈ levL p, 1 ≤ v ∧ v ≤ 9 := fun v hv => by
    unfold levL at hv
    obtain ⟨b, hb, rfl⟩ := List.mem_map.1 hv
    obtain ⟨j, hj, e⟩ := List.getElem_of_mem hb
    have := h1.bd j b (by rw [List.getElem?_eq_getElem hj, e])
    omega
  have hmost : 0 ≤ mostOf (barsTo p p.length) ∧ mostOf (barsTo p p.length) ≤ 9 := by
    rw [← deep_most]
    have key : ∀ (l : List Int) (a : Int), 0 ≤ a → a ≤ 9 → (∀ v ∈ l, 1 ≤ v ∧ v ≤ 9) → 0 ≤ l.foldl max a ∧ l.foldl max a ≤ 9 := by
      intro l
      induction l with
      | nil => intro a h1 h2 _; exact ⟨h1, h2⟩
      | cons x l ih =>
        intro a h1 h2 h3
        have := h3 x (by simp)
        exact ih (max a x) (by omega) (by omega) (fun v hv => h3 v (by simp [hv]))
    exact key _ 0 (by omega) (by omega) hlev
  obtain ⟨most, hmm⟩ : ∃ most : Nat, mostOf (barsTo p p.length) = most := ⟨(mostOf (barsTo p p.length)).toNat, by omega⟩
  have hd : drawT p = textTo p (barsTo p p.length) (most + 1) := by unfold drawT; rw [hmm, Int.toNat_natCast]
  have hr := rowsF_text (l := p) (barsTo p p.length) hn.1 (most + 1)
  rw [← hd] at hr
  refine ⟨most, by omega, by rw [hr], ⟨by rw [hr]; simp, fun r hr' => ?_, by unfold levL; rw [List.length_map]; omega, fun v hv => by have := hlev v hv; omega, by unfold levL; rw [deep_most, hmm]⟩, ?_⟩
  · obtain ⟨g1, g2, _⟩ := rowTo_get (barsTo p p.length) ((r : Int) + 1) p.length (Nat.le_refl _) hn.1
    rw [if_neg (by omega)] at g1
    refine ⟨rowTo p (barsTo p p.length) ((r : Int) + 1) p.length, by rw [hr]; simp only; rw [List.getElem?_map, List.getElem?_range hr']; rfl, g1, fun i hi => ⟨_, g2 i hi, signT_o h hi _, fun e => ?_⟩⟩
    have := signT_last h hi
    rw [hmm] at this
    rw [e]; exact this
  · have := textTo_len p (barsTo p p.length) (most + 1)
    rw [← hd] at this
    have h19 : 2 * p.length + 1 ≤ 19 := by omega
    have : (most + 1) * (2 * p.length + 1) ≤ 10 * 19 := Nat.mul_le_mul (by omega) h19
    omega

set_option maxHeartbeats 4000000 in
set_option maxRecDepth 100000 in
theorem chartRows_any (A0 : Option Addr) (n0 c0 : Nat) (nums : List Int) (w : World) (h : RdI w A0 n0 nums) (hs : Signs w) :
    Calls Tryd.prog 4 #[.slice A0 n0 c0] w (Held w) := by
  have HSG := Lib.hid hs
  clear hs
  go_enter Tryd.func4, Tryd.ntmps4
  go_wp2_with fail
  refine (boxOf_any A0 n0 c0 nums w h).mono ?_; rintro e w1 ⟨g, rfl, hg, hbox, hb1⟩
  have HB1 := Lib.hid hb1
  have HBX := Lib.hid hbox
  clear hb1 hbox h
  go_wp2_with fail
  refine (any_any g 1 9 w1 HBX.out (by omega) (by omega) (by omega) (by omega)).mono ?_; rintro e w2 ⟨n, rfl, hk0, hk1, hst⟩
  have hk9 : n ≤ 9 := by omega
  obtain ⟨n, rfl⟩ : ∃ k' : Nat, n = k' := ⟨n.toNat, by omega⟩
  have HB2 := Lib.hid (HB1.out.trans (hst.below hg))
  have HBX2 := Lib.hid hst.box
  clear hk1 hst HB1 HBX
  go_wp2_with fail
  refine (partitionOf_any g n w2 HBX2.out (by omega) (by omega)).mono ?_; rintro e w3 ⟨P, cp, p, rfl, hck, hop, hsp⟩
  have HB3 := Lib.hid (HB2.out.trans (hsp.below hg HB2.out.size))
  have HP3 := Lib.hid hop.rd
  have hcap := hop.cap
  have hlp := hop.len
  obtain ⟨most, hm9, hrf, hra, htl⟩ := rows_are hck
  rw [hlp] at hra
  have HCK := Lib.hid hck
  have HRA := Lib.hid hra
  have HDE : Hid (drawE p = (drawT p, 0)) := Lib.hid (by unfold drawE; rw [if_neg (by omega)])
  have HLE : Hid (levE p = (levL p, 0)) := Lib.hid (by unfold levE; rw [if_neg (by omega)])
  have hb9 := blk_le9 hck
  obtain ⟨m, hm⟩ : ∃ m : Nat, blk p = m := ⟨(blk p).toNat, by omega⟩
  rw [hm, Int.toNat_natCast] at HRA
  have HBB := Lib.hid hm
  have HLP := Lib.hid hlp
  have hm1 : 1 ≤ m := by omega
  have hmm9 : m ≤ 9 := by omega
  have HSM := Lib.hid (chk_small hck)
  have HTL := Lib.hid htl
  clear hck hop hsp hlp hra hrf hb9 hm HB2 HBX2 hg htl
  go_wp2_with fail
  refine (Draw_any P n cp p w3 HP3.out hcap (HSG.out.below HB3.out)).mono ?_; rintro e w4 ⟨rfl, hb⟩
  rw [HDE.out]
  simp only
  have HB4 := Lib.hid (HB3.out.trans (hb.mono HB3.out.size))
  have HP4 := Lib.hid (HP3.out.below hb)
  clear hb HB3 HP3 HDE
  go_wp2_with fail
  refine (levels_any P n cp p w4 HP4.out hcap).mono ?_; rintro e w5 ⟨V, cv, rfl, ho, hb⟩
  rw [HLE.out] at ho
  rw [HLE.out]
  simp only at ho ⊢
  have hlv := HRA.out.levs
  rw [hlv] at ho
  rw [hlv]
  have HB5 := Lib.hid (HB4.out.trans (hb.mono HB4.out.size))
  have HP5 := Lib.hid (HP4.out.below hb)
  have HV5 := Lib.hid ho.rd
  clear ho hb HB4 HP4 HLE hlv
  go_wp2_with fail
  refine (lawBlocks_any P n cp p w5 HP5.out HSM.out).mono ?_; rintro e w' ⟨rfl, rfl⟩
  rw [HBB.out]
  generalize hdt : drawT p = T at HTL HRA ⊢
  go_wp2_with fail
  refine (rows_any ⟨T.toArray⟩ w5 (by have := HTL.out; show T.toArray.size ≤ _; simp; omega)).mono ?_; rintro e w6 ⟨R, cr, rfl, ho, hb⟩
  simp only at ho ⊢
  have hrl := HRA.out.len
  generalize (rowsF T).1 = RL at ho HRA hrl ⊢
  rw [hrl] at ho
  rw [hrl]
  have HB6 := Lib.hid (HB5.out.trans (hb.mono HB5.out.size))
  have HP6 := Lib.hid (HP5.out.below hb)
  have HV6 := Lib.hid (HV5.out.below hb)
  have HR6 := Lib.hid ho.rd
  clear ho hb HB5 HP5 HV5 hdt hrl HTL
  generalize levL p = lv at HRA HV6
  go_wp2_with fail
  have HLL := Lib.hid HRA.out.levs
  go_loopw [10, 11] (fun d i wr => ∃ k : Nat, k ≤ m ∧ i = .int .i64 k ∧ d = .int .i64 ((lv.take k).foldl max 0) ∧ wr = w6) (fun _ i _ => m - (intOf i).toNat)
  case atStart => exact ⟨0, by omega, rfl, rfl, rfl⟩
  case round =>
    obtain ⟨k, hk, rfl, rfl, rfl⟩ := hrel
    obtain ⟨d, hd⟩ : ∃ d : Int, (lv.take k).foldl max 0 = d := ⟨_, rfl⟩
    rw [hd]
    by_cases hlt : k < m
    · obtain ⟨ad, v, rfl, _, hv, _, hcell⟩ := HV6.out.at_ hlt
      have hv1 := (HRA.out.lev1 v (List.mem_of_getElem? hv.out)).1
      have HF : Hid ((lv.take (k + 1)).foldl max 0 = max d v) := Lib.hid (by rw [take_of_get hv.out, List.foldl_append, hd]; rfl)
      clear hd
      go_wp2
      go_roundw
      case rel => exact ⟨k + 1, by omega, by go_num, by rw [HF.out], trivial⟩
      case measure => simp [intOf]; omega
    · obtain rfl : k = m := by omega
      have HD : Hid (d = most) := Lib.hid (by rw [← hd, List.take_of_length_le (by rw [HLL.out]; omega)]; exact HRA.out.deep)
      clear hd
      rw [HD.out]
      clear HD
      clear hk hlt
      go_wp2_with fail
      go_loopw [12] (fun r wi => ∃ k' : Nat, k' ≤ most + 1 ∧ r = .int .i64 k' ∧ ∃ d, wi = wr.drewN d) (fun r _ => most + 1 - (intOf r).toNat)
      case atStart => exact ⟨0, by omega, rfl, 0, rfl⟩
      case round =>
        obtain ⟨r, hr, rfl, d, rfl⟩ := hrel
        by_cases hlt : r < most + 1
        · obtain ⟨S, hS, hSl, hrow⟩ := HRA.out.row r hlt
          have HROW := Lib.hid hrow
          obtain ⟨ra, rv, rfl, _, hrv, hrc⟩ := HR6.out.at_ hlt
          obtain rfl : rv = .string ⟨S.toArray⟩ := by
            rw [strs_get hS] at hrv; injection hrv with e; exact e.symm
          have hsz : (⟨S.toArray⟩ : ByteArray).size = 2 * n - 1 := by show S.toArray.size = _; simpa using hSl
          clear hrow hS hrv hSl
          go_wp2_with fail
          go_loopw [13] (fun i wi => ∃ i' : Nat, i' ≤ n ∧ i = .int .i64 i' ∧ ∃ d, wi = wr.drewN d) (fun i _ => n - (intOf i).toNat)
          case atStart => exact ⟨0, by omega, rfl, d, rfl⟩
          case round =>
            obtain ⟨i, hi, rfl, d, rfl⟩ := hrel
            by_cases hin : i < n
            · obtain ⟨c, hc, hco, hcl⟩ := HROW.out i hin
              have HCO := Lib.hid hco
              have HCL := Lib.hid hcl
              have HC := Lib.hid hc
              clear hco hcl hc
              go_wp2_with fail
              go_loopw [14, 15] (fun b k wi => ∃ k' : Nat, k' ≤ n ∧ k = .int .i64 k' ∧ b = .bool (likeTo p i k') ∧ ∃ d, wi = wr.drewN d) (fun _ k _ => n - (intOf k).toNat)
              case atStart => exact ⟨0, by omega, rfl, rfl, d, rfl⟩
              case round =>
                obtain ⟨j, hj, rfl, rfl, d, rfl⟩ := hrel
                obtain ⟨b, hb⟩ : ∃ b, likeTo p i j = b := ⟨_, rfl⟩
                rw [hb]
                by_cases hjn : j < n
                · obtain ⟨ad, u, rfl, _, hu, _, hcu⟩ := HP6.out.at_ hin
                  obtain ⟨ad', v, e1, _, hv, _, hcv⟩ := HP6.out.at_ hjn
                  obtain rfl := Option.some.inj e1
                  have HF : Hid (likeTo p i (j + 1) = (b || (j != i && v == u))) := Lib.hid (by rw [likeTo_succ, hb, getD_of_get hu.out, getD_of_get hv.out])
                  clear hb e1
                  cases b
                  · by_cases hji : j = i
                    · subst hji
                      have g1 : ((j : Int) != j) = false := by simp
                      go_wp2_with fail
                      go_quiet (fail)
                      go_wp2
                      go_roundw
                      case rel => exact ⟨j + 1, by omega, by go_num, by rw [HF.out]; simp, _, rfl⟩
                      case measure => simp [intOf]; omega
                    · have g1 : ((j : Int) != i) = true := by simp; omega
                      have HB1 : Hid ((j != i) = true) := Lib.hid (by simpa using hji)
                      clear hji
                      go_wp2_with fail
                      go_quiet (fail)
                      go_wp2
                      go_roundw
                      case rel => exact ⟨j + 1, by omega, by go_num, by rw [HF.out, HB1.out]; simp, _, rfl⟩
                      case measure => simp [intOf]; omega
                  · go_wp2_with fail
                    go_quiet (fail)
                    go_wp2
                    go_roundw
                    case rel => exact ⟨j + 1, by omega, by go_num, by rw [HF.out]; simp, _, rfl⟩
                    case measure => simp [intOf]; omega
                · obtain rfl : j = n := by omega
                  have HLK := Lib.hid hb
                  clear hb
                  have hlt2 : 2 * i < (⟨S.toArray⟩ : ByteArray).size := by omega
                  have q : ∀ h : 2 * i < (⟨S.toArray⟩ : ByteArray).size, (⟨S.toArray⟩ : ByteArray)[2 * i]'h = c := fun h => by
                    have e := HC.out
                    show S.toArray[2 * i] = c
                    rw [List.getElem_toArray]
                    exact Option.some.inj ((List.getElem?_eq_getElem _).symm.trans e)
                  have hb2 : (0 : Int) ≤ 2 * i ∧ 2 * (i : Int) < ((2 * j - 1 : Nat) : Int) := by omega
                  have g3 : r = most → (((c.toNat : Nat) : Int) != 124) = false := fun e => by rw [HCL.out e]; rfl
                  obtain ⟨ad, u, rfl, _, hu, _, hcu⟩ := HP6.out.at_ hin
                  have hu0 := (chk_ok HCK.out).2.2.1 u (List.mem_of_getElem? hu.out)
                  have huk := lt_blk (List.mem_of_getElem? hu.out)
                  rw [HBB.out] at huk
                  obtain ⟨u, rfl⟩ : ∃ u' : Nat, u = u' := ⟨u.toNat, by omega⟩
                  have huk' : u < k := by omega
                  obtain ⟨vd, v, rfl, _, hv, _, hcv⟩ := HV6.out.at_ huk'
                  have hco := HCO.out
                  rw [HLK.out, getD_of_get hu.out, Int.toNat_natCast, getD_of_get hv.out] at hco
                  have g1 : (((c.toNat : Nat) : Int) == 111) = (b && v == (r : Int) + 1) := by
                    rw [← hco]
                    refine bool_eq_of_iff ?_
                    rw [beq_iff_eq, beq_iff_eq]
                    constructor
                    · intro e
                      have e' : c.toNat = 111 := by omega
                      exact UInt8.toNat_inj.1 (by rw [e']; rfl)
                    · intro e; rw [e]; rfl
                  clear hco HCO HCL HC
                  cases b
                  · rw [Bool.false_and] at g1
                    by_cases hrm : r = most
                    · have g4 := g3 hrm
                      have g5 : ((r : Int) == most) = true := by simp; omega
                      clear g3 hrm
                      go_wp2
                      go_roundw
                      case rel => exact ⟨i + 1, by omega, by go_num, _, rfl⟩
                      case measure => simp [intOf]; omega
                    · have g5 : ((r : Int) == most) = false := by simp; omega
                      clear g3 hrm
                      go_wp2
                      go_roundw
                      case rel => exact ⟨i + 1, by omega, by go_num, _, rfl⟩
                      case measure => simp [intOf]; omega
                  · rw [Bool.true_and] at g1
                    by_cases hrm : r = most
                    · have g4 := g3 hrm
                      have g5 : ((r : Int) == most) = true := by simp; omega
                      obtain ⟨y, hy⟩ : ∃ y, (v == (r : Int) + 1) = y := ⟨_, rfl⟩
                      rw [hy] at g1
                      clear g3 hrm
                      cases y <;>
                      · go_wp2
                        go_roundw
                        case rel => exact ⟨i + 1, by omega, by go_num, _, rfl⟩
                        case measure => simp [intOf]; omega
                    · have g5 : ((r : Int) == most) = false := by simp; omega
                      obtain ⟨y, hy⟩ : ∃ y, (v == (r : Int) + 1) = y := ⟨_, rfl⟩
                      rw [hy] at g1
                      clear g3 hrm
                      cases y <;>
                      · go_wp2
                        go_roundw
                        case rel => exact ⟨i + 1, by omega, by go_num, _, rfl⟩
                        case measure => simp [intOf]; omega
            · obtain rfl : i = n := by omega
              go_wp2
              go_roundw
              case rel => exact ⟨r + 1, by omega, by go_num, _, rfl⟩
              case measure => simp [intOf]; omega
        · obtain rfl : r = most + 1 := by omega
          have HBF := Lib.hid (below_drewN HB6.out d)
          generalize wr.drewN d = wf at HBF ⊢
          go_wp2_with fail
          refine (awake_any wf (HSG.out.below HBF.out)).mono ?_; rintro e w' ⟨rfl, hb⟩
          have HBZ := Lib.hid (HBF.out.trans (hb.mono HBF.out.size))
          clear hb
          go_wp2
          go_ret
          exact ⟨rfl, HBZ.out⟩
end Go.Proofs.YtooepkpgffpcjaaDoor
