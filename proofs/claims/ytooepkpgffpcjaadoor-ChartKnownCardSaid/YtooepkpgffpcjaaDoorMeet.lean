/- Walks: what is common to two partitions, and being finer: the program's. -/
import Derived.Test.YtooepkpgffpcjaaDoorNum2
import Derived.Test.YtooepkpgffpcjaaDoorJoin
namespace Go.Proofs.YtooepkpgffpcjaaDoor
open Go.RowKit

theorem pairInfo : (Tryd.prog.info? 105).map (fun i => (i.zero, i.size, i.bytes)) = some (some (.agg #[.int .i64 0, .int .i64 0]), 2, 16) := by kernel_rfl
theorem prCells_append (L : List Pr) (b : Pr) : prCells (L ++ [b]) = prCells L ++ prCells [b] := by simp [prCells]
theorem prCells_one (L : List Pr) : ∀ u ∈ prCells L, u.oneCell' = true := by
  intro u hu
  simp only [prCells, List.mem_flatMap] at hu
  obtain ⟨b, _, hb⟩ := hu
  simp only [List.mem_cons, List.not_mem_nil, or_false] at hb
  rcases hb with rfl | rfl <;> rfl
theorem RdP.of_own {w : World} {base n c : Nat} {A : Option Addr} {L : List Pr} (h : Own w base 105 2 A n c (prCells L)) (hn : n ≤ 1000000) : RdP w A n L := by
  have hl := h.len
  rw [prCells_length] at hl
  refine ⟨by omega, hn, fun h0 => ?_⟩
  obtain ⟨g, rfl, _, hg⟩ := h.form h0
  exact ⟨g, rfl, hg, fun j u hu => by
    have hj : j < n * 2 := by have := (List.getElem?_eq_some_iff.1 hu).1; rw [prCells_length] at this; omega
    rw [h.cellAt j hj]; exact hu⟩

/-- 'append(s, p)' of a pair, that was laid in a new block first, in a region that draws its order. -/
theorem step_appP (w : World) {ops : Array Oper} {o : Oper} {a : Act} {K : Act → World → Prop} {Q : Exit → Act → World → Prop} {E : Prop} (hgd : o.guard = none) (s x : Operand)
    (ho : o.op = .call { callee := .builtin .append, args := #[s, x], argTypes := #[102, 102] })
    {base n c : Nat} {A : Option Addr} {L : List Pr} {b : Pr} (t : TypeId) (hs : a.eval s = .slice A n c) (hx : a.eval x = .slice (some ⟨w.heap.size, 0, none⟩) 1 1) (hown : Own w base 105 2 A n c (prCells L)) (hnm : n + 1 ≤ 1000) (hbase : base ≤ w.heap.size)
    (h : ∀ A' c' w', Own w' base 105 2 A' (n + 1) c' (prCells (L ++ [b])) → w.grownBy w' (A.map (·.block)) → Below base w w' → K (a.put o.dst (.slice A' (n + 1) c')) w') :
    if Region.wanted o (yielded ops a.tmps) = true then Oper.wp Tryd.prog o a (w.alloc (.cells #[.int .i64 b.1, .int .i64 b.2] t)) K Q else E := by
  have hw : Region.wanted o (yielded ops a.tmps) = true := by simp [Region.wanted, hgd]
  rw [if_pos hw]
  obtain ⟨i0, hi0, hz0, hz1, hz2⟩ := info_parts pairInfo
  have hcells : ∀ j u, (prCells [b])[j]? = some u → (w.alloc (.cells #[.int .i64 b.1, .int .i64 b.2] t)).cell? ((⟨w.heap.size, 0, none⟩ : Addr).add j) = some u := by
    intro j u hu
    rw [show (⟨w.heap.size, 0, none⟩ : Addr).add j = ⟨w.heap.size, j, none⟩ by unfold Addr.add; split <;> simp_all, World.cell?_alloc_at _ _ _ _ rfl]
    simpa [prCells] using hu
  obtain ⟨v', w', hrun, h2, h3, _, _⟩ := run_append_own_at (P := Tryd.prog) (w.alloc (.cells #[.int .i64 b.1, .int .i64 b.2] t)) base 102 o.type 105 i0 _ 2 16 Tryd.underlying102 hi0 hz0 hz1 hz2 rfl (by omega) _ n (prCells L) (hown.alloc _).1 ⟨w.heap.size, 0, none⟩ 1 1 (prCells [b]) rfl hcells (prCells_one _) (by unfold maxLen; omega) (by omega) (by simp; omega)
  obtain ⟨A', c', rfl⟩ := slice_form h2
  rw [map_block_own] at h3
  have hg : w.grownBy w' (A.map (·.block)) := grown_trans (World.grownBy_alloc w _ _) h3
  unfold Oper.wp execOp
  simp only [ho, resolve, invoke, builtin, Sem.run_bind, Sem.run_pure, Result.andThen_ok, List.map_toArray, List.map_cons, List.map_nil, hs, hx, hrun]
  exact h A' c' w' ⟨by rw [prCells_append]; exact h2, by omega⟩ hg (below_app hown hg hbase)

theorem zip_en (l r : List Int) : (l.zip r).map en = pairL 1000 l r := by
  unfold pairL List.zip
  rw [List.map_zipWith]; rfl
theorem zip_get {l r : List Int} {k : Nat} {u v : Int} (hu : l[k]? = some u) (hv : r[k]? = some v) : (l.zip r)[k]? = some (u, v) := by
  unfold List.zip
  rw [List.getElem?_zipWith, hu, hv]
theorem zip_ok {l r : List Int} (hl : ∀ v ∈ l, 0 ≤ v ∧ v < 9) (hr : ∀ v ∈ r, 0 ≤ v ∧ v < 9) : ∀ p ∈ l.zip r, Okp p := by
  rintro ⟨a, b⟩ hp
  have h1 := hl a (List.of_mem_zip hp).1
  have h2 := hr b (List.of_mem_zip hp).2
  unfold Okp
  simp only
  omega

set_option maxHeartbeats 1000000 in
set_option maxRecDepth 100000 in
theorem meet_any (A B : Option Addr) (n c d : Nat) (l r : List Int) (w : World) (h1 : RdI w A n l) (h2 : RdI w B n r) (hl : chk l = 0) (hr : chk r = 0) :
    Calls Tryd.prog 100 #[.slice A n c, .slice B n d] w (Listed (meetL l r) w) := by
  have HL1 := Lib.hid h1.len
  have HL2 := Lib.hid h2.len
  have hn9 : n ≤ 9 := by have := (chk_ok hl).2.1; have := h1.len; omega
  have HC1 := Lib.hid (chk_ok hl).2.2.1
  have HC2 := Lib.hid (chk_ok hr).2.2.1
  clear hl hr
  go_enter Tryd.func100, Tryd.ntmps100
  go_wp2_with fail
  go_loopw [5, 9] (fun o i wr => ∃ k : Nat, k ≤ n ∧ i = .int .i64 k ∧ ∃ Ao co, o = .slice Ao k co ∧ Own wr w.heap.size 105 2 Ao k co (prCells ((l.zip r).take k)) ∧ Below w.heap.size w wr) (fun _ i _ => n - (intOf i).toNat)
  case atStart => exact ⟨0, by omega, rfl, none, 0, rfl, Own.nil_ _ _ _ _, Below.refl _ _⟩
  case round =>
    obtain ⟨k, hk, rfl, Ao, co, rfl, hown, hbel⟩ := hrel
    have HO := Lib.hid hown
    have HB := Lib.hid hbel
    clear hown hbel
    by_cases hlt : k < n
    · obtain ⟨ad, u, rfl, had, hu, _, hcell0⟩ := h1.at_ hlt
      obtain ⟨bd, v, rfl, hbd, hv, _, hcell1⟩ := h2.at_ hlt
      rw [← HB.out.cell (by rw [block_of_add]; exact had)] at hcell0
      rw [← HB.out.cell (by rw [block_of_add]; exact hbd)] at hcell1
      have HT := Lib.hid (take_of_get (zip_get hu.out hv.out))
      have hsz := HB.out.size
      have hA0 : (ad.add k).block < w.heap.size := by rw [block_of_add]; exact had
      have hB0 : (bd.add k).block < w.heap.size := by rw [block_of_add]; exact hbd
      have hA1 := Nat.lt_of_lt_of_le hA0 hsz
      have hB1 := Nat.lt_of_lt_of_le hB0 hsz
      go_upto_region 5 with fail
      go_region_held3 (fun w' => w'.cell? (ad.add k) = some (.int .i64 u) ∧ w'.cell? (bd.add k) = some (.int .i64 v)) (first | exact ⟨hcell0, hcell1⟩ | exact ⟨(World.cell?_alloc_lt wr _ _ hA1).trans hcell0, (World.cell?_alloc_lt wr _ _ hB1).trans hcell1⟩ | exact ⟨(hbel.cell hA0).trans hcell0, (hbel.cell hB0).trans hcell1⟩) ((refine step_appP wr.drew (by rfl) (.tmp 12) (.tmp 22) (by rfl) (b := (u, v)) _ (by rfl) (by rfl) HO.out.drew (by omega) hsz ?_; intro A' c' w' hown hgrow hbel))
      go_wp2
      go_roundw
      case rel => exact ⟨k + 1, by omega, by go_num, A', c', rfl, by rw [HT.out]; exact hown, HB.out.drew.trans hbel⟩
      case measure => simp [intOf]; omega
    · obtain rfl : k = n := by omega
      have HZ : Hid ((l.zip r).take k = l.zip r) := by rw [List.take_of_length_le (by rw [List.length_zip, HL1.out, HL2.out]; omega)]; rfl
      rw [HZ.out] at HO
      have HP := Lib.hid (RdP.of_own HO.out (by omega))
      have HOK := Lib.hid (zip_ok HC1.out HC2.out)
      have HZL : Hid ((meetL l r).length = k) := Lib.hid (by rw [meetL_length (by rw [HL1.out, HL2.out]), HL1.out])
      have HZE : Hid (ofL ((l.zip r).map en) = meetL l r) := Lib.hid (by rw [zip_en]; rfl)
      go_wp2_with fail
      refine (number2_any Ao k co (l.zip r) wr HP.out (by omega) HOK.out).mono ?_; rintro e w' ⟨A', c', rfl, hown, hbel⟩
      rw [HZE.out, HZL.out] at hown
      rw [HZE.out, HZL.out]
      have HO2 := Lib.hid hown
      have HB2 := Lib.hid (HB.out.trans (hbel.mono HB.out.size))
      have hsz := HB.out.size
      clear hown hbel
      go_wp2
      go_ret
      refine ⟨A', c', ?_, ?_, HB2.out⟩
      · rw [HZL.out]; rfl
      · rw [HZL.out]; exact HO2.out.mono hsz

set_option maxHeartbeats 400000 in
theorem equal_any (A B : Option Addr) (n m c d : Nat) (l r : List Int) (w : World) (h1 : RdI w A n l) (h2 : RdI w B m r) :
    Calls Tryd.prog 99 #[.slice A n c, .slice B m d] w fun e w' => e = .returned (.bool (l == r)) ∧ ∃ k, w' = w.drewN k := by
  have hn := h1.bd
  have hm := h2.bd
  have hl1 := h1.len
  have hl2 := h2.len
  by_cases hnm : n = m
  · subst hnm
    have HL1 := Lib.hid hl1
    have HL2 := Lib.hid hl2
    clear hl1 hl2
    go_enter Tryd.func99, Tryd.ntmps99
    go_wp2
    go_loopw [13] (fun i wr => ∃ k : Nat, k ≤ n ∧ i = .int .i64 k ∧ l.take k = r.take k ∧ ∃ j, wr = w.drewN j) (fun i _ => n - (intOf i).toNat)
    case atStart => exact ⟨0, by omega, rfl, rfl, 0, rfl⟩
    case round =>
      obtain ⟨k, hk, rfl, he, j, rfl⟩ := hrel
      have HE := Lib.hid he
      clear he
      by_cases hlt : k < n
      · obtain ⟨ad, v, rfl, _, hv, _, hcell⟩ := h1.at_ hlt
        obtain ⟨bd, u, rfl, _, hu, _, hcell2⟩ := h2.at_ hlt
        by_cases hne : v = u
        · subst hne
          go_wp2
          go_quiet (fail)
          go_wp2
          go_roundw
          case rel => exact ⟨k + 1, by omega, by go_num, take_snoc2 hv.out hu.out HE.out, _, rfl⟩
          case measure => simp [intOf]; omega
        · have g : (v == u) = false := by simpa using hne
          have g' : (v != u) = true := by simpa using hne
          clear hne
          go_wp2
          go_quiet (fail)
          go_wp2
          go_ret
          exact ⟨ret_bool (ne_of_get hv.out hu.out g), _, World.drewN_drewN _ _ _⟩
      · go_wp2
        go_ret
        exact ⟨ret_bool (eq_of_takes HL1.out HL2.out hlt HE.out), _, rfl⟩
  · have HN := Lib.hid (ne_of_len (l := l) (r := r) (by omega))
    have g : ((n : Int) == m) = false := by simp; omega
    have g' : ((n : Int) != m) = true := by simp; omega
    clear hl1 hl2
    go_enter Tryd.func99, Tryd.ntmps99
    go_wp2
    go_ret
    exact ⟨ret_bool HN.out, 0, rfl⟩

/-- The answer of a function that gives a bool and an error. -/
def BoolErr (x : Bool × Int) (w : World) (e : Ending) (w' : World) : Prop := e = .returned (.tuple #[.bool x.1, .int .i64 x.2]) ∧ Below w.heap.size w w'

set_option maxHeartbeats 400000 in
theorem finer_any (A B : Option Addr) (n m c d : Nat) (l r : List Int) (w : World) (h1 : RdI w A n l) (h2 : RdI w B m r) :
    Calls Tryd.prog 49 #[.slice A n c, .slice B m d] w (BoolErr (finE l r) w) := by
  have c1 := both_any A B n m c d l r w h1 h2
  by_cases h0 : chk2 l r = 0
  · obtain ⟨k1, k2, k3⟩ := chk2_ok h0
    have HV : Hid (finE l r = (finB l r, 0)) := by show finE l r = _; unfold finE; rw [if_neg (by omega)]
    have HF := Lib.hid (finer_prog k3 k1 k2)
    have hln := h1.len
    have hrm := h2.len
    obtain rfl : n = m := by omega
    have HML : Hid ((meetL l r).length = n) := Lib.hid (by rw [meetL_length k3, hln])
    rw [h0] at c1
    have HC := Lib.hid c1
    have HM := Lib.hid (meet_any A B n c d l r w h1 h2 k1 k2)
    have HA := Lib.hid h1
    clear h0 c1 k1 k2 k3 hln hrm h1 h2
    go_enter Tryd.func49, Tryd.ntmps49
    go_wp2_with fail
    refine HC.out.mono ?_; rintro e w' ⟨rfl, rfl⟩
    go_wp2_with fail
    refine HM.out.mono ?_; rintro e w2 ⟨A2, c2, rfl, ho, hb⟩
    rw [HML.out] at ho
    rw [HML.out]
    have HB := Lib.hid hb
    have HO := Lib.hid ho.rd
    clear ho hb
    go_wp2_with fail
    refine (equal_any A2 A n n c2 c (meetL l r) l w2 HO.out (HA.out.below HB.out)).mono ?_; rintro e w' ⟨rfl, j, rfl⟩
    rw [HF.out]
    go_wp2
    go_ret2
    refine ⟨?_, below_drewN HB.out _⟩
    rw [HV.out]
    rfl
  · have HV : Hid (finE l r = (false, chk2 l r)) := by show finE l r = _; unfold finE; rw [if_pos h0]
    generalize chk2 l r = z at c1 h0 HV
    have HC := Lib.hid c1
    have g1 : (z == 0) = false := by simpa using h0
    have g2 : (z != 0) = true := by simpa using h0
    clear c1 h0
    go_enter Tryd.func49, Tryd.ntmps49
    go_wp2_with fail
    refine HC.out.mono ?_; rintro e w' ⟨rfl, rfl⟩
    go_wp2
    go_ret2
    refine ⟨?_, Below.refl _ _⟩
    rw [HV.out]
    rfl

set_option maxHeartbeats 400000 in
theorem meetP_any (A B : Option Addr) (n m c d : Nat) (l r : List Int) (w : World) (h1 : RdI w A n l) (h2 : RdI w B m r) :
    Calls Tryd.prog 51 #[.slice A n c, .slice B m d] w (IntsErr (meetE l r) w) := by
  have c1 := both_any A B n m c d l r w h1 h2
  by_cases h0 : chk2 l r = 0
  · obtain ⟨k1, k2, k3⟩ := chk2_ok h0
    have HV : Hid (meetE l r = (meetL l r, 0)) := by show meetE l r = _; unfold meetE; rw [if_neg (by omega)]
    have hln := h1.len
    have hrm := h2.len
    obtain rfl : n = m := by omega
    rw [h0] at c1
    have HC := Lib.hid c1
    have HM := Lib.hid (meet_any A B n c d l r w h1 h2 k1 k2)
    clear h0 c1 k1 k2 k3 hln hrm h1 h2
    go_enter Tryd.func51, Tryd.ntmps51
    go_wp2_with fail
    refine HC.out.mono ?_; rintro e w' ⟨rfl, rfl⟩
    go_wp2_with fail
    refine HM.out.mono ?_; rintro e w2 ⟨A2, c2, rfl, ho, hb⟩
    have HB := Lib.hid hb
    have HO := Lib.hid ho
    clear ho hb
    go_wp2
    go_ret2
    rw [HV.out]
    exact ⟨A2, c2, rfl, HO.out, HB.out⟩
  · have HV : Hid (meetE l r = ([], chk2 l r)) := by show meetE l r = _; unfold meetE; rw [if_pos h0]
    generalize chk2 l r = z at c1 h0 HV
    have HC := Lib.hid c1
    have g1 : (z == 0) = false := by simpa using h0
    have g2 : (z != 0) = true := by simpa using h0
    clear c1 h0
    go_enter Tryd.func51, Tryd.ntmps51
    go_wp2_with fail
    refine HC.out.mono ?_; rintro e w' ⟨rfl, rfl⟩
    go_wp2
    go_ret2
    rw [HV.out]; exact IntsErr.none_ _ _
end Go.Proofs.YtooepkpgffpcjaaDoor
