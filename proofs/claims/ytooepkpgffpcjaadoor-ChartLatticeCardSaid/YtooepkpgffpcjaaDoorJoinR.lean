/- Walk: what is joined: the reference's. -/
import Derived.Test.YtooepkpgffpcjaaDoorJoinW
namespace Go.Proofs.YtooepkpgffpcjaaDoor
open Go.RowKit

theorem Still_.step {a b L : List Int} {i k : Nat} (h : Still_ a b L i k) (hs : (a.getD i 0 = a.getD k 0 ∨ b.getD i 0 = b.getD k 0) → ¬ L.getD i 0 < L.getD k 0) : Still_ a b L i (k + 1) := by
  intro x y hx hy hp e
  rcases hp with hp | ⟨rfl, hp⟩
  · exact h x y hx hy (.inl hp) e
  · rcases Nat.lt_or_ge y k with hlt | hge
    · exact h x y hx hy (.inr ⟨rfl, hlt⟩) e
    · obtain rfl : y = k := by omega
      exact hs e
theorem Still_.row {a b L : List Int} {i n : Nat} (hn : a.length = n) (h : Still_ a b L i n) : Still_ a b L (i + 1) 0 := by
  intro x y hx hy hp e
  refine h x y hx hy ?_ e
  rcases hp with hp | ⟨rfl, hp⟩
  · rcases Nat.lt_or_ge x i with h1 | h1
    · exact .inl h1
    · exact .inr ⟨by omega, by omega⟩
  · omega
/-- how the labels stand while a round goes on -/
structure Round (a b L0 : List Int) (i k : Nat) (more : Bool) (L : List Int) : Prop where
  ref : JRef a b L
  less : more = true → sm L < sm L0
  still : more = false → L = L0 ∧ Still_ a b L i k
theorem Round.step_no {a b L0 L : List Int} {i k : Nat} {more : Bool} (h : Round a b L0 i k more L) (hs : (a.getD i 0 = a.getD k 0 ∨ b.getD i 0 = b.getD k 0) → ¬ L.getD i 0 < L.getD k 0) : Round a b L0 i (k + 1) more L :=
  ⟨h.ref, h.less, fun e => ⟨(h.still e).1, (h.still e).2.step hs⟩⟩
theorem Round.step_yes {a b L0 L : List Int} {i k : Nat} {more : Bool} (h : Round a b L0 i k more L) (hi : i < a.length) (hk : k < a.length) (e : a.getD i 0 = a.getD k 0 ∨ b.getD i 0 = b.getD k 0) (hlt : L.getD i 0 < L.getD k 0) :
    Round a b L0 i (k + 1) true (L.set k (L.getD i 0)) := by
  have hl := h.ref.len
  have h0 := (h.ref.small _ (getD_mem (l := L) (i := i) (by omega))).1
  have h1 := (h.ref.small _ (getD_mem (l := L) (i := k) (by omega))).1
  have hs : sm (L.set k (L.getD i 0)) < sm L := sm_set (by omega) (by omega)
  refine ⟨h.ref.set_ hi hk e, fun _ => ?_, fun e => by cases e⟩
  cases more with
  | true => exact Nat.lt_trans hs (h.less rfl)
  | false => rw [← (h.still rfl).1]; exact hs
theorem Round.row {a b L0 L : List Int} {i n : Nat} {more : Bool} (hn : a.length = n) (h : Round a b L0 i n more L) : Round a b L0 (i + 1) 0 more L :=
  ⟨h.ref, h.less, fun e => ⟨(h.still e).1, (h.still e).2.row hn⟩⟩
theorem Round.start {a b L : List Int} (h : JRef a b L) : Round a b L 0 0 false L := ⟨h, (fun e => by cases e), fun _ => ⟨rfl, fun _ _ _ _ hp => by omega⟩⟩

set_option maxHeartbeats 2000000 in
set_option maxRecDepth 100000 in
theorem refJoin_any (A B : Option Addr) (n m c d : Nat) (l r : List Int) (w : World) (h1 : RdI w A n l) (h2 : RdI w B m r) :
    Calls Tryd.prog 54 #[.slice A n c, .slice B m d] w (IntsErr (joinE l r) w) := by
  have c1 := refBoth_any A B n m c d l r w h1 h2
  by_cases h0 : chk2 l r = 0
  · obtain ⟨k1, k2, k3⟩ := chk2_ok h0
    have HV : Hid (joinE l r = (joinL l r, 0)) := by show joinE l r = _; unfold joinE; rw [if_neg (by omega)]
    have hln := h1.len
    have hrm := h2.len
    obtain rfl : n = m := by omega
    have hn1 := (chk_ok k1).1
    have hn9 : n ≤ 9 := by have := (chk_ok k1).2.1; omega
    rw [h0] at c1
    have HC := Lib.hid c1
    have HL := Lib.hid hln
    have HS := Lib.hid (JRef.start (b := r) k1)
    have HF : Hid (∀ L, JRef l r L → Still_ l r L n 0 → ofL L = joinL l r) := Lib.hid (fun L h1 h2 => joinL_of (join_ref h1 (by rw [hln]; exact h2)))
    have HJL : Hid ((joinL l r).length = n) := Lib.hid (by rw [joinL_length, hln])
    have hn1' : 1 ≤ n := by omega
    clear h0 c1 k1 k2 k3 hrm hn1 hln
    go_enter Tryd.func54, Tryd.ntmps54
    go_wp2_with fail
    refine HC.out.mono ?_; rintro e w' ⟨rfl, rfl⟩
    go_wp2_with (at_builtin; go_must (refine wpList_appI _ rfl (.tmp 17) (.tmp 18) rfl rfl rfl (OwnI.lit w 3 [] 0 (by omega) rfl w.heap.size (Nat.le_refl _) (by simp)) (h1.alloc _) (by omega) (by simp) ?_); intro A' c' w1 kk)
    have hb1 : Below w.heap.size w w1 := ((Below.refl _ _).alloc (Nat.le_refl _) _).trans kk.below
    have ho1 := kk.own
    rw [List.nil_append, Nat.zero_add] at ho1
    obtain ⟨g, rfl, hgb, _⟩ := ho1.form (by omega)
    have HO1 := Lib.hid ho1
    have HB1 := Lib.hid hb1
    clear kk ho1 hb1
    go_wp2_with fail
    go_loopg [8] (2 * sm l + 1) (fun gm b wr => ∃ (more : Bool) (L : List Int), b = .bool more ∧ gm = 2 * sm L + (if more then 1 else 0) ∧ JRef l r L ∧ (more = false → Still_ l r L n 0) ∧ OwnI wr w.heap.size 3 (some ⟨g, 0, none⟩) n c' L ∧ Below w.heap.size w wr)
    case atStart => exact ⟨true, l, rfl, rfl, HS.out, (fun e => by cases e), by simpa using HO1.out, HB1.out⟩
    case round =>
      obtain ⟨more, L, rfl, hgm, hjr, hst, hown, hbel⟩ := hrel
      have HG := Lib.hid hgm
      have HJ := Lib.hid hjr
      have HST := Lib.hid hst
      have HO := Lib.hid hown
      have HB := Lib.hid hbel
      clear hgm hjr hst hown hbel HO1 HB1
      cases more
      · have HFL := Lib.hid (HF.out L HJ.out (HST.out rfl))
        go_wp2_with fail
        refine (refof_any _ n c' L wr HO.out.rd (by omega)).mono ?_; rintro e w2 ⟨A2, c2, rfl, ho2, hb2⟩
        rw [HFL.out, HJL.out] at ho2
        rw [HFL.out, HJL.out]
        have HO2 := Lib.hid (ho2.mono HB.out.size)
        have HB2 := Lib.hid (HB.out.trans (hb2.mono HB.out.size))
        clear ho2 hb2
        go_wp2
        go_ret2
        rw [HV.out]
        refine ⟨A2, c2, ?_, ?_, HB2.out⟩
        · show _ = _; rw [HJL.out]; rfl
        · show OwnI _ _ _ _ (joinL l r).length _ _; rw [HJL.out]; exact HO2.out
      · go_wp2_with fail
        go_loopw [8, 9] (fun b j wr => ∃ (i : Nat) (more : Bool) (M : List Int), i ≤ n ∧ j = .int .i64 i ∧ b = .bool more ∧ Round l r L i 0 more M ∧ OwnI wr w.heap.size 3 (some ⟨g, 0, none⟩) n c' M ∧ Below w.heap.size w wr) (fun _ j _ => n - (intOf j).toNat)
        case atStart => exact ⟨0, false, L, by omega, rfl, rfl, Round.start HJ.out, HO.out, HB.out⟩
        case round =>
          obtain ⟨i, more, M, hi, rfl, rfl, hround, hown, hbel⟩ := hrel
          have HR := Lib.hid hround
          have HO2 := Lib.hid hown
          have HB2 := Lib.hid hbel
          clear hround hown hbel HO HB
          by_cases hin : i < n
          · go_wp2_with fail
            go_loopw [8, 10] (fun b j wr => ∃ (k : Nat) (more : Bool) (M : List Int), k ≤ n ∧ j = .int .i64 k ∧ b = .bool more ∧ Round l r L i k more M ∧ OwnI wr w.heap.size 3 (some ⟨g, 0, none⟩) n c' M ∧ Below w.heap.size w wr) (fun _ j _ => n - (intOf j).toNat)
            case atStart => exact ⟨0, more, M, by omega, rfl, rfl, HR.out, HO2.out, HB2.out⟩
            case round =>
              obtain ⟨k, more, M, hk, rfl, rfl, hround, hown, hbel⟩ := hrel
              have HR3 := Lib.hid hround
              have HO3 := Lib.hid hown
              have HB3 := Lib.hid hbel
              clear hround hown hbel HO2 HB2 HR
              by_cases hkn : k < n
              · obtain ⟨ad, u, rfl, had, hu, _, hc1⟩ := h1.at_ hin
                obtain ⟨ad', u', e1, _, hu', _, hc2⟩ := h1.at_ hkn
                obtain rfl := Option.some.inj e1
                obtain ⟨bd, v, rfl, hbd, hv, _, hc3⟩ := h2.at_ hin
                obtain ⟨bd', v', e2, _, hv', _, hc4⟩ := h2.at_ hkn
                obtain rfl := Option.some.inj e2
                rw [← HB3.out.cell (by rw [block_of_add]; exact had)] at hc1 hc2
                rw [← HB3.out.cell (by rw [block_of_add]; exact hbd)] at hc3 hc4
                obtain ⟨x, hx⟩ : ∃ x, M[i]? = some x := ⟨_, get_getD (by rw [HO3.out.len]; exact hin)⟩
                obtain ⟨y, hy⟩ : ∃ y, M[k]? = some y := ⟨_, get_getD (by rw [HO3.out.len]; exact hkn)⟩
                have hc5 := HO3.out.cellAt hx
                have hc6 := HO3.out.cellAt hy
                have HX64 := Lib.hid (HO3.out.2 x (List.mem_of_getElem? hx))
                have HD := Lib.hid (And.intro (And.intro (getD_of_get (d := 0) hu.out) (getD_of_get (d := 0) hu'.out)) (And.intro (getD_of_get (d := 0) hv.out) (getD_of_get (d := 0) hv'.out)))
                have HDX := Lib.hid (And.intro (getD_of_get (d := 0) hx) (getD_of_get (d := 0) hy))
                have hfz := HO3.out.frozenAt k
                clear e1 e2 hx hy
                by_cases ha : u = u'
                · by_cases hxy : x < y
                  · have HN := Lib.hid (HR3.out.step_yes (by rw [HL.out]; exact hin) (by rw [HL.out]; exact hkn) (by left; rw [HD.out.1.1, HD.out.1.2]; exact ha) (by rw [HDX.out.1, HDX.out.2]; exact hxy))
                    rw [HDX.out.1] at HN
                    subst ha
                    have g1 : (u == u) = true := by simp
                    go_wp2_with fail
                    go_quiet (fail)
                    go_wp2
                    go_roundw
                    case rel => exact ⟨k + 1, true, _, by omega, by go_num, rfl, HN.out, (HO3.out.drewN _).stored k HX64.out, (below_drewN HB3.out _).setCell (p := ⟨g, k, none⟩) hgb _⟩
                    case measure => simp [intOf]; omega
                  · have HN := Lib.hid (HR3.out.step_no (fun _ => by rw [HDX.out.1, HDX.out.2]; exact hxy))
                    subst ha
                    have g1 : (u == u) = true := by simp
                    go_wp2_with fail
                    go_quiet (fail)
                    go_wp2
                    go_roundw
                    case rel => exact ⟨k + 1, more, M, by omega, by go_num, rfl, HN.out, HO3.out.drewN _, below_drewN HB3.out _⟩
                    case measure => simp [intOf]; omega
                · by_cases hb : v = v'
                  · by_cases hxy : x < y
                    · have HN := Lib.hid (HR3.out.step_yes (by rw [HL.out]; exact hin) (by rw [HL.out]; exact hkn) (by right; rw [HD.out.2.1, HD.out.2.2]; exact hb) (by rw [HDX.out.1, HDX.out.2]; exact hxy))
                      rw [HDX.out.1] at HN
                      have g1 : (u == u') = false := by simpa using ha
                      subst hb
                      have g2 : (v == v) = true := by simp
                      clear ha
                      go_wp2_with fail
                      go_quiet (fail)
                      go_wp2
                      go_roundw
                      case rel => exact ⟨k + 1, true, _, by omega, by go_num, rfl, HN.out, (HO3.out.drewN _).stored k HX64.out, (below_drewN HB3.out _).setCell (p := ⟨g, k, none⟩) hgb _⟩
                      case measure => simp [intOf]; omega
                    · have HN := Lib.hid (HR3.out.step_no (fun _ => by rw [HDX.out.1, HDX.out.2]; exact hxy))
                      have g1 : (u == u') = false := by simpa using ha
                      subst hb
                      have g2 : (v == v) = true := by simp
                      clear ha
                      go_wp2_with fail
                      go_quiet (fail)
                      go_wp2
                      go_roundw
                      case rel => exact ⟨k + 1, more, M, by omega, by go_num, rfl, HN.out, HO3.out.drewN _, below_drewN HB3.out _⟩
                      case measure => simp [intOf]; omega
                  · have HNA := Lib.hid ha
                    have HNB := Lib.hid hb
                    have HN := Lib.hid (HR3.out.step_no (fun e => by rw [HD.out.1.1, HD.out.1.2, HD.out.2.1, HD.out.2.2] at e; rcases e with e | e; exact absurd e HNA.out; exact absurd e HNB.out))
                    have g1 : (u == u') = false := by simpa using ha
                    have g2 : (v == v') = false := by simpa using hb
                    clear ha hb
                    go_wp2_with fail
                    go_quiet (fail)
                    go_wp2
                    go_roundw
                    case rel => exact ⟨k + 1, more, M, by omega, by go_num, rfl, HN.out, HO3.out.drewN _, below_drewN HB3.out _⟩
                    case measure => simp [intOf]; omega
              · obtain rfl : k = n := by omega
                have HN := Lib.hid (HR3.out.row HL.out)
                go_wp2
                go_roundw
                case rel => exact ⟨i + 1, more, M, by omega, by go_num, rfl, HN.out, HO3.out, HB3.out⟩
                case measure => simp [intOf]; omega
          · obtain rfl : i = n := by omega
            go_wp2
            go_roundg (2 * sm M + (if more then 1 else 0))
            case measure =>
              rw [HG.out]
              cases more with
              | true => have := HR.out.less rfl; simp; omega
              | false => have := (HR.out.still rfl).1; rw [this]; simp
            case rel => exact ⟨more, M, rfl, rfl, HR.out.ref, (fun e => (HR.out.still e).2), HO2.out, HB2.out⟩
  · have HV : Hid (joinE l r = ([], chk2 l r)) := by show joinE l r = _; unfold joinE; rw [if_pos h0]
    generalize chk2 l r = z at c1 h0 HV
    have HC := Lib.hid c1
    have g1 : (z == 0) = false := by simpa using h0
    have g2 : (z != 0) = true := by simpa using h0
    clear c1 h0
    go_enter Tryd.func54, Tryd.ntmps54
    go_wp2_with fail
    refine HC.out.mono ?_; rintro e w' ⟨rfl, rfl⟩
    go_wp2
    go_ret2
    rw [HV.out]; exact IntsErr.none_ _ _
end Go.Proofs.YtooepkpgffpcjaaDoor
