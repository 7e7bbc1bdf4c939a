/- Walk: titles made of numbers; they are good and differ. -/
import Derived.Test.YtooepkpgffpcjaaDoorTitle
import Derived.Test.YtooepkpgffpcjaaDoorRowsW
namespace Go.Proofs.YtooepkpgffpcjaaDoor
open Go.RowKit

/-! ### The titles -/
def titleT (by_ i : Nat) : List UInt8 := [(97 + i / 26).toUInt8, (97 + i % 26).toUInt8, (97 + i * by_ % 26).toUInt8]
def titlesT (by_ m : Nat) : List (List UInt8) := (List.range m).map (titleT by_)
theorem titlesT_len (by_ m : Nat) : (titlesT by_ m).length = m := by simp [titlesT]
theorem titlesT_succ (by_ m : Nat) : titlesT by_ (m + 1) = titlesT by_ m ++ [titleT by_ m] := by unfold titlesT; rw [List.range_succ, List.map_append]; rfl
theorem titlesT_get {by_ m i : Nat} (h : i < m) : (titlesT by_ m)[i]? = some (titleT by_ i) := by unfold titlesT; rw [List.getElem?_map, List.getElem?_range h]; rfl
theorem low_char : ∀ k, k < 26 → lowers.contains (97 + k).toUInt8 = true := by decide
theorem titleT_ok {by_ i : Nat} (h : i < 676) : okTitle (titleT by_ i) = true := by
  unfold okTitle titleT
  simp only [List.length_cons, List.length_nil, List.all_cons, List.all_nil, Bool.and_true]
  rw [low_char _ (by omega), low_char _ (by omega), low_char _ (by omega)]
  rfl
theorem u8_inj {a b : Nat} (ha : a < 256) (hb : b < 256) (h : a.toUInt8 = b.toUInt8) : a = b := by
  have := congrArg UInt8.toNat h
  simp at this
  omega
theorem titleT_inj {by_ i j : Nat} (hi : i < 676) (hj : j < 676) (h : titleT by_ i = titleT by_ j) : i = j := by
  unfold titleT at h
  injection h with h1 h2
  injection h2 with h2 h3
  have e1 := u8_inj (by omega) (by omega) h1
  have e2 := u8_inj (by omega) (by omega) h2
  omega
theorem titledGo_ok : ∀ (r seen : List (List UInt8)), (∀ t ∈ r, okTitle t = true) → r.Nodup → (∀ t ∈ r, t ∉ seen) → titledGo seen r = 0
  | [], _, _, _, _ => by unfold titledGo; rfl
  | t :: r, seen, h1, h2, h3 => by
    rw [List.nodup_cons] at h2
    unfold titledGo
    rw [if_neg (by rw [h1 t (by simp)]; simp), if_neg (h3 t (by simp))]
    refine titledGo_ok r (seen ++ [t]) (fun x hx => h1 x (by simp [hx])) h2.2 fun x hx hm => ?_
    rcases List.mem_append.1 hm with hm | hm
    · exact h3 x (by simp [hx]) hm
    · simp at hm; subst hm; exact h2.1 hx
theorem nodup_map {α β : Type} {f : α → β} {l : List α} (hl : l.Nodup) (hf : ∀ x ∈ l, ∀ y ∈ l, f x = f y → x = y) : (l.map f).Nodup := by
  induction l with
  | nil => simp
  | cons a l ih =>
    rw [List.nodup_cons] at hl
    rw [List.map_cons, List.nodup_cons]
    refine ⟨fun hm => ?_, ih hl.2 fun x hx y hy => hf x (by simp [hx]) y (by simp [hy])⟩
    obtain ⟨x, hx, e⟩ := List.mem_map.1 hm
    have := hf x (by simp [hx]) a (by simp) e
    subst this
    exact hl.1 hx
theorem titlesT_nodup {by_ m : Nat} (hm : m ≤ 676) : (titlesT by_ m).Nodup :=
  nodup_map List.nodup_range fun x hx y hy h => titleT_inj (by have := List.mem_range.1 hx; omega) (by have := List.mem_range.1 hy; omega) h
theorem titlesT_good {by_ m : Nat} {n : Int} (hm : m ≤ 676) (hn : (m : Int) = (countE n).1) : titledE (titlesT by_ m) n = 0 := by
  unfold titledE
  rw [if_neg (by rw [titlesT_len]; omega)]
  refine titledGo_ok _ [] (fun t ht => ?_) (titlesT_nodup hm) (by simp)
  obtain ⟨i, hi, rfl⟩ := List.mem_map.1 ht
  exact titleT_ok (by have := List.mem_range.1 hi; omega)
theorem titlesT_idx {by_ m r : Nat} (hm : m ≤ 676) (hr : r < m) : idxT (titlesT by_ m) (titleT by_ r) = r :=
  idxT_at (titlesT_get hr) fun j hj e => by
    rw [titlesT_get (by omega)] at e
    injection e with e
    have := titleT_inj (by omega) (by omega) e
    omega

/-! ### The walk -/
theorem nums_title (a b c : Nat) : strOfNums [97 + (a : Int), 97 + (b : Int), 97 + (c : Int)] = ⟨([(97 + a).toUInt8, (97 + b).toUInt8, (97 + c).toUInt8] : List UInt8).toArray⟩ := by
  unfold strOfNums
  simp only [List.map_cons, List.map_nil]
  have h : ∀ x : Nat, UInt8.ofNat (97 + (x : Int)).toNat = (97 + x).toUInt8 := fun x => by rw [show (97 + (x : Int)).toNat = 97 + x by omega]
  rw [h, h, h]
/-- titles of the callee's own, the box g turned -/
def TitledM (g m : Nat) (w : World) (e : Ending) (w' : World) : Prop :=
  ∃ (A : Option Addr) (c by_ : Nat), e = .returned (.slice A m c) ∧ RdS w' A m (titlesT by_ m) ∧ Spun g w w'

set_option maxHeartbeats 2000000 in
set_option maxRecDepth 100000 in
theorem titlesOf_any (g n m : Nat) (w : World) (h : IsBox w g) (hn1 : 1 ≤ n) (hn5 : n ≤ 5) (hm : (m : Int) = countR n) (hm5 : m ≤ 52) : Calls Tryd.prog 63 #[.pointer (some ⟨g, 0, none⟩), .int .i64 n] w (TitledM g m w) := by
  have HC : Hid (∀ W, Calls Tryd.prog 40 #[.int .i64 n] W (IntErr ((m : Int), 0) W)) := Lib.hid (fun W => by
    have := refCount_any (n : Int) W
    unfold countE at this
    rw [if_neg (by omega), Int.toNat_natCast, ← hm] at this
    exact this)
  have HX := Lib.hid h
  have hgl := h.lt
  clear h hm
  go_enter Tryd.func63, Tryd.ntmps63
  go_wp2_with fail
  refine (HC.out w).mono ?_; rintro e w1 ⟨rfl, b1⟩
  have HX1 := Lib.hid (HX.out.below b1)
  have HS1 : Hid (Spun g w w1) := Lib.hid ⟨HX1.out, grown_of_below b1 _⟩
  clear b1 HX
  go_wp2_with fail
  refine (any_any g 1 25 w1 HX1.out (by omega) (by omega) (by omega) (by omega)).mono ?_; rintro e w2 ⟨y, rfl, hy0, hy1, hst⟩
  obtain ⟨y, rfl⟩ : ∃ y' : Nat, y = y' := ⟨y.toNat, by omega⟩
  have hy25 : y ≤ 25 := by omega
  have HS2 := Lib.hid (HS1.out.trans hst.spun)
  have hsz2 := HS2.out.grown.size
  clear hst hy1 HS1 HX1
  go_wp2_with fail
  go_loopw [8, 9] (fun o i wr => ∃ k : Nat, k ≤ m ∧ i = .int .i64 k ∧ ∃ Ao co, o = .slice Ao k co ∧ Own wr w2.heap.size 9 1 Ao k co (strs (titlesT y k)) ∧ Below w2.heap.size w2 wr) (fun _ i _ => m - (intOf i).toNat)
  case atStart => exact ⟨0, by omega, rfl, none, 0, rfl, Own.nil_ _ _ _ _, Below.refl _ _⟩
  case round =>
    obtain ⟨k, hk, rfl, Ao, co, rfl, hown, hbel⟩ := hrel
    have HO := Lib.hid hown
    have HB := Lib.hid hbel
    clear hown hbel
    by_cases hkm : k < m
    · have hmul : k * y ≤ 51 * 25 := Nat.mul_le_mul (by omega) hy25
      obtain ⟨pr, hpr⟩ : ∃ pr, k * y = pr := ⟨_, rfl⟩
      rw [hpr] at hmul
      have hprI : (k : Int) * (y : Int) = (pr : Int) := by rw [← hpr]; simp
      obtain ⟨a, ha⟩ : ∃ a, k / 26 = a := ⟨_, rfl⟩
      obtain ⟨b, hb⟩ : ∃ b, k % 26 = b := ⟨_, rfl⟩
      obtain ⟨c, hc⟩ : ∃ c, pr % 26 = c := ⟨_, rfl⟩
      have ha1 : a ≤ 1 := by omega
      have hb1 : b ≤ 25 := by omega
      have hc1 : c ≤ 25 := by omega
      have haI : Int.tdiv (k : Int) 26 = (a : Int) := by rw [Int.tdiv_eq_ediv_of_nonneg (by omega)]; omega
      have hbI : Int.tmod (k : Int) 26 = (b : Int) := by rw [Int.tmod_eq_emod_of_nonneg (by omega)]; omega
      have hcI : Int.tmod (pr : Int) 26 = (c : Int) := by rw [Int.tmod_eq_emod_of_nonneg (by omega)]; omega
      have HT : Hid (titleT y k = [(97 + a).toUInt8, (97 + b).toUInt8, (97 + c).toUInt8]) := Lib.hid (by unfold titleT; rw [hpr, ha, hb, hc])
      clear hpr ha hb hc
      have hcell : ∀ i, i < 3 → (wr.alloc (.cells #[.int .u8 (97 + (a : Int)), .int .u8 (97 + (b : Int)), .int .u8 (97 + (c : Int))] 5)).cell? ⟨wr.heap.size, 0 + i, none⟩ = some (.int .u8 ([97 + (a : Int), 97 + (b : Int), 97 + (c : Int)].getD i 0)) := by
        intro i hi
        match i, hi with
        | 0, _ => simp
        | 1, _ => simp
        | 2, _ => simp
      have q := run_convert_bytes_arg (P := Tryd.prog) (wr.alloc (.cells #[.int .u8 (97 + (a : Int)), .int .u8 (97 + (b : Int)), .int .u8 (97 + (c : Int))] 5)) 99 5 Tryd.underlying99 Tryd.underlying5 wr.heap.size 0 3 3 [97 + (a : Int), 97 + (b : Int), 97 + (c : Int)] rfl hcell 9 Tryd.underlying9
      rw [nums_title, ← HT.out] at q
      have HQ := Lib.hid q
      have HO1 := Lib.hid (HO.out.alloc (.cells #[.int .u8 (97 + (a : Int)), .int .u8 (97 + (b : Int)), .int .u8 (97 + (c : Int))] 5))
      have HB1 := Lib.hid (HB.out.alloc HB.out.size (.cells #[.int .u8 (97 + (a : Int)), .int .u8 (97 + (b : Int)), .int .u8 (97 + (c : Int))] 5))
      have HTS := Lib.hid (titlesT_succ y k)
      clear q hcell HO HB
      go_wp2_with fail
      rw [HQ.out]
      generalize titleT y k = T at HTS ⊢
      clear HQ HT
      generalize wr.alloc (.cells #[.int .u8 (97 + (a : Int)), .int .u8 (97 + (b : Int)), .int .u8 (97 + (c : Int))] 5) = W1 at HO1 HB1 ⊢
      have hsz1 := HB1.out.size
      simp only [Result.andThen]
      rw [Oper.upon_value]
      go_wp2_with (at_builtin; go_loud (refine wpList_appS1 _ rfl (.tmp 27) (.tmp 41) rfl (r := T) _ rfl rfl HO1.out (by omega) hsz1 ?_; intro A' c' w3 ko kb; have KO := Lib.hid ko; have KB := Lib.hid (HB1.out.trans kb); clear ko kb))
      go_roundw
      case rel => exact ⟨k + 1, by omega, by go_num, A', c', rfl, by rw [HTS.out]; exact KO.out, KB.out⟩
      case measure => simp [intOf]; omega
    · obtain rfl : k = m := by omega
      have hsz := HB.out.size
      have HR : Hid (RdS wr Ao k (titlesT y k)) := Lib.hid ⟨HO.out.rd, titlesT_len y k⟩
      have HSF : Hid (Spun g w wr) := Lib.hid (HS2.out.then_ HB.out)
      go_wp2
      go_ret
      exact ⟨Ao, co, y, rfl, HR.out, HSF.out⟩
end Go.Proofs.YtooepkpgffpcjaaDoor
