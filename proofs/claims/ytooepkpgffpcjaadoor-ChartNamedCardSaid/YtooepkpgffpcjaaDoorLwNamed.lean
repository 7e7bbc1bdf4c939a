/- Walk: the statement ChartNamed. -/
import Derived.Test.YtooepkpgffpcjaaDoorMgQ
import Derived.Test.YtooepkpgffpcjaaDoorMgM
import Derived.Test.YtooepkpgffpcjaaDoorMgH
import Derived.Test.YtooepkpgffpcjaaDoorMgJ
namespace Go.Proofs.YtooepkpgffpcjaaDoor
open Go.RowKit

theorem countR_5 : ∀ n, n < 6 → 1 ≤ n → 1 ≤ countR n ∧ countR n ≤ 52 := by decide +kernel
theorem spellE_ok {p : List Int} (h : chk p = 0) : spellE p = (spellT p, 0) := by unfold spellE; rw [if_neg (by omega)]
theorem parse_spell {p : List Int} (h : chk p = 0) : parseE (spellT p) = (p, 0) := by
  have hc := chk_ok h
  have hl : (spellT p).length = p.length := by unfold spellT; rw [List.length_map]
  unfold parseE
  rw [if_neg (by omega), if_neg (by omega), partW_spell hc.2.2.1, if_neg (by omega)]
theorem titleE_made {p : List Int} {y m : Nat} (h : chk p = 0) (h5 : p.length ≤ 5) (hm : (m : Int) = countR p.length) (hm5 : m ≤ 52) : titleE (titlesT y m) p = (titleT y (rnk p).toNat, 0) := by
  have hr := rnk_lt h h5
  have hg : titledE (titlesT y m) (p.length : Int) = 0 := titlesT_good (by omega) (by unfold countE; rw [if_neg (by have := (chk_ok h).1; omega), Int.toNat_natCast]; exact hm)
  unfold titleE
  rw [if_neg (by omega), if_neg (by omega), if_neg (by omega), List.getD_eq_getElem?_getD, titlesT_get (by omega)]; rfl
theorem findE_made {p : List Int} {y m : Nat} (h : chk p = 0) (h5 : p.length ≤ 5) (hm : (m : Int) = countR p.length) (hm5 : m ≤ 52) : findE (titlesT y m) (p.length : Int) (titleT y (rnk p).toNat) = (p, 0) := by
  have hr := rnk_lt h h5
  have h1 := (chk_ok h).1
  have hg : titledE (titlesT y m) (p.length : Int) = 0 := titlesT_good (by omega) (by unfold countE; rw [if_neg (by omega), Int.toNat_natCast]; exact hm)
  unfold findE
  rw [if_neg (by omega), if_neg (by omega), titlesT_idx (by omega) (by omega), if_neg (by omega)]
  rw [show (((rnk p).toNat : Nat) : Int) = rnk p by omega]
  exact unrank_rnk h h5
theorem titlesT_bd (y m : Nat) : ∀ S ∈ titlesT y m, S.length ≤ 1000 := by
  intro S hS
  obtain ⟨i, _, rfl⟩ := List.mem_map.1 hS
  show 3 ≤ 1000
  omega
theorem size_arr' (S : List UInt8) : (⟨S.toArray⟩ : ByteArray).size = S.length := by simp [ByteArray.size]

set_option maxHeartbeats 4000000 in
set_option maxRecDepth 100000 in
theorem chartNamed_any (A0 : Option Addr) (n0 c0 : Nat) (nums : List Int) (w : World) (h : RdI w A0 n0 nums) (hs : Signs w) :
    Calls Tryd.prog 16 #[.slice A0 n0 c0] w (Held w) := by
  have HSG := Lib.hid hs
  clear hs
  go_enter Tryd.func16, Tryd.ntmps16
  go_wp2_with fail
  refine (boxOf_any A0 n0 c0 nums w h).mono ?_; rintro e w1 ⟨g, rfl, hg, hbox, hb1⟩
  have HBX := Lib.hid hbox
  have HB1 := Lib.hid hb1
  have hgl := hbox.lt
  clear hbox hb1 h
  go_wp2_with fail
  refine (any_any g 1 5 w1 HBX.out (by omega) (by omega) (by omega) (by omega)).mono ?_; rintro e w2 ⟨n, rfl, hn0, hn1, hst⟩
  obtain ⟨n, rfl⟩ : ∃ n' : Nat, n = n' := ⟨n.toNat, by omega⟩
  have hn5 : n ≤ 5 := by omega
  have hn1' : 1 ≤ n := by omega
  have HS2 := Lib.hid hst.spun
  have hsz2 : w1.heap.size = w2.heap.size := hst.size.symm
  clear hst hn1 hn0 HBX
  go_wp2_with fail
  refine (partitionOf_any g n w2 HS2.out.box (by omega) (by omega)).mono ?_; rintro e w3 ⟨A, ca, p, rfl, hckp, hop, hsp⟩
  have HP3 := Lib.hid hop
  have HS3 := Lib.hid (HS2.out.trans hsp)
  have hsz3 := hsp.grown.size
  clear hop hsp HS2
  go_wp2_with fail
  refine (partitionOf_any g n w3 HS3.out.box (by omega) (by omega)).mono ?_; rintro e w4 ⟨B, cb, q, rfl, hckq, hoq, hsp⟩
  have HP4 := Lib.hid (HP3.out.spun hsp (by omega))
  have HQ4 := Lib.hid hoq
  have HS4 := Lib.hid (HS3.out.trans hsp)
  have hsz4 := hsp.grown.size
  have hpl := HP3.out.rd.len
  have hql := hoq.rd.len
  clear hoq hsp HS3 HP3
  obtain ⟨m, hm⟩ : ∃ m : Nat, (m : Int) = countR n := ⟨(countR n).toNat, by have := countR_5 n (by omega) hn1'; omega⟩
  have hm52 : m ≤ 52 := by have := countR_5 n (by omega) hn1'; omega
  go_wp2_with fail
  refine (titlesOf_any g n m w4 HS4.out.box hn1' hn5 hm hm52).mono ?_; rintro e w5 ⟨T, ct, y, rfl, hrt, hsp⟩
  have HP5 := Lib.hid (HP4.out.spun hsp (by omega)).rd
  have HQ5 := Lib.hid (HQ4.out.spun hsp (by omega)).rd
  have HT5 := Lib.hid hrt
  have HB5 := Lib.hid (HB1.out.trans ((HS4.out.trans hsp).below hg HB1.out.size))
  have HSP := Lib.hid (spellE_ok hckp)
  have HPA := Lib.hid (parse_spell hckp)
  have HTP : Hid (titleE (titlesT y m) p = (titleT y (rnk p).toNat, 0)) := Lib.hid (titleE_made hckp (by omega) (by rw [hpl]; exact hm) hm52)
  have HTQ : Hid (titleE (titlesT y m) q = (titleT y (rnk q).toNat, 0)) := Lib.hid (titleE_made hckq (by omega) (by rw [hql]; exact hm) hm52)
  have HFP : Hid (findE (titlesT y m) (n : Int) (titleT y (rnk p).toNat) = (p, 0)) := Lib.hid (by have := findE_made (y := y) (m := m) hckp (by omega) (by rw [hpl]; exact hm) hm52; rwa [hpl] at this)
  have HIJ : Hid (titleT y (rnk p).toNat = titleT y (rnk q).toNat ↔ p = q) := Lib.hid ⟨fun e => by
    have h1 := rnk_lt hckp (by omega)
    have h2 := rnk_lt hckq (by omega)
    rw [hpl] at h1
    rw [hql] at h2
    have h3 := titleT_inj (by omega) (by omega) e
    exact rnk_inj hckp hckq (by omega) (by omega) (by omega), fun e => by rw [e]⟩
  have HBD := Lib.hid (titlesT_bd y m)
  have HSL : Hid ((spellT p).length ≤ 9) := Lib.hid (by unfold spellT; rw [List.length_map]; omega)
  have HPL := Lib.hid hpl
  clear hrt hsp hckp hckq HP4 HQ4 HS4 HB1 hpl hql hm
  generalize titlesT y m = L at HT5 HTP HTQ HFP HBD
  generalize titleT y (rnk p).toNat = TP at HTP HFP HIJ
  generalize titleT y (rnk q).toNat = TQ at HTQ HIJ
  go_wp2_with fail
  refine (spell_any A n ca p w5 HP5.out).mono ?_; rintro e w6 ⟨rfl, b6⟩
  rw [HSP.out]
  have HP6 := Lib.hid (HP5.out.below b6)
  have HQ6 := Lib.hid (HQ5.out.below b6)
  have HT6 := Lib.hid (HT5.out.below b6)
  have HB6 := Lib.hid (HB5.out.trans (b6.mono HB5.out.size))
  clear b6 HP5 HQ5 HT5 HB5 HSP
  generalize spellT p = SP at HPA HSL ⊢
  go_wp2_with fail
  refine (parse_any ⟨SP.toArray⟩ w6 (by rw [size_arr']; have := HSL.out; omega)).mono ?_; rintro e w7 ⟨A7, c7, rfl, h7, b7⟩
  simp only [HPA.out, HPL.out] at h7 ⊢
  have H7 := Lib.hid h7.rd
  have HP7 := Lib.hid (HP6.out.below b7)
  have HQ7 := Lib.hid (HQ6.out.below b7)
  have HT7 := Lib.hid (HT6.out.below b7)
  have HB7 := Lib.hid (HB6.out.trans (b7.mono HB6.out.size))
  clear b7 h7 HP6 HQ6 HT6 HB6 HPA
  go_wp2_with fail
  refine (title_any T A m ct n ca L p w7 HT7.out HP7.out (by omega) HBD.out).mono ?_; rintro e w8 ⟨rfl, b8⟩
  rw [HTP.out]
  have H8 := Lib.hid (H7.out.below b8)
  have HP8 := Lib.hid (HP7.out.below b8)
  have HQ8 := Lib.hid (HQ7.out.below b8)
  have HT8 := Lib.hid (HT7.out.below b8)
  have HB8 := Lib.hid (HB7.out.trans (b8.mono HB7.out.size))
  clear b8 H7 HP7 HQ7 HT7 HB7 HTP
  go_wp2_with fail
  refine (title_any T B m ct n cb L q w8 HT8.out HQ8.out (by omega) HBD.out).mono ?_; rintro e w9 ⟨rfl, b9⟩
  rw [HTQ.out]
  have H9 := Lib.hid (H8.out.below b9)
  have HP9 := Lib.hid (HP8.out.below b9)
  have HQ9 := Lib.hid (HQ8.out.below b9)
  have HT9 := Lib.hid (HT8.out.below b9)
  have HB9 := Lib.hid (HB8.out.trans (b9.mono HB8.out.size))
  clear b9 H8 HP8 HQ8 HT8 HB8 HTQ
  go_wp2_with fail
  refine (find_any T m ct L (n : Int) ⟨TP.toArray⟩ w9 HT9.out (by omega) HBD.out).mono ?_; rintro e w10 ⟨A10, c10, rfl, h10, b10⟩
  simp only [HFP.out, HPL.out] at h10 ⊢
  have HF10 := Lib.hid h10.rd
  have H10 := Lib.hid (H9.out.below b10)
  have HP10 := Lib.hid (HP9.out.below b10)
  have HQ10 := Lib.hid (HQ9.out.below b10)
  have HB10 := Lib.hid (HB9.out.trans (b10.mono HB9.out.size))
  clear b10 h10 H9 HP9 HQ9 HT9 HB9 HFP
  go_wp2_with fail
  refine (eq_any A7 A n n c7 ca p p w10 H10.out HP10.out).mono ?_; rintro e w11 ⟨rfl, k11, hw11⟩
  rw [beq_self_eq_true]
  have HF11 : Hid (RdI w11 A10 n p) := Lib.hid (by rw [hw11]; exact HF10.out.drewN k11)
  have HP11 : Hid (RdI w11 A n p) := Lib.hid (by rw [hw11]; exact HP10.out.drewN k11)
  have HQ11 : Hid (RdI w11 B n q) := Lib.hid (by rw [hw11]; exact HQ10.out.drewN k11)
  have HB11 : Hid (Below w.heap.size w w11) := Lib.hid (by rw [hw11]; exact below_drewN HB10.out k11)
  clear hw11 HF10 H10 HP10 HQ10 HB10
  go_wp2_with fail
  refine (eq_any A10 A n n c10 ca p p w11 HF11.out HP11.out).mono ?_; rintro e w12 ⟨rfl, k12, hw12⟩
  rw [beq_self_eq_true]
  have HP12 : Hid (RdI w12 A n p) := Lib.hid (by rw [hw12]; exact HP11.out.drewN k12)
  have HQ12 : Hid (RdI w12 B n q) := Lib.hid (by rw [hw12]; exact HQ11.out.drewN k12)
  have HB12 : Hid (Below w.heap.size w w12) := Lib.hid (by rw [hw12]; exact below_drewN HB11.out k12)
  clear hw12 HF11 HP11 HQ11 HB11
  have hse := str_iff (⟨TP.toArray⟩ : ByteArray) ⟨TQ.toArray⟩
  obtain ⟨bq, hbq⟩ : ∃ bq : Bool, decide (p = q) = bq := ⟨_, rfl⟩
  have hse2 : ((⟨TP.toArray⟩ : ByteArray).toList == (⟨TQ.toArray⟩ : ByteArray).toList) = bq := by
    rw [hse, ← hbq]
    exact decide_eq_decide.2 (by simpa using HIJ.out)
  have hpq : (p == q) = bq := by
    rw [← hbq]
    by_cases e : p = q
    · rw [decide_eq_true e, beq_iff_eq.2 e]
    · rw [decide_eq_false e, beq_eq_false_iff_ne.2 e]
  have HPQ := Lib.hid hpq
  clear hse hbq hpq HIJ
  generalize (⟨TP.toArray⟩ : ByteArray) = s1 at hse2 ⊢
  generalize (⟨TQ.toArray⟩ : ByteArray) = s2 at hse2 ⊢
  go_wp2_with fail
  refine (eq_any A B n n ca cb p q w12 HP12.out HQ12.out).mono ?_; rintro e w13 ⟨rfl, k13, hw13⟩
  rw [HPQ.out]
  have HB13 : Hid (Below w.heap.size w w13) := Lib.hid (by rw [hw13]; exact below_drewN HB12.out k13)
  clear hw13 HP12 HQ12 HB12
  go_wp2_with fail
  refine (awake_any w13 (HSG.out.below HB13.out)).mono ?_; rintro e w14 ⟨rfl, b14⟩
  have HBF := Lib.hid (HB13.out.trans (b14.mono HB13.out.size))
  clear b14
  go_wp2
  go_ret
  exact ⟨rfl, HBF.out⟩
end Go.Proofs.YtooepkpgffpcjaaDoor
