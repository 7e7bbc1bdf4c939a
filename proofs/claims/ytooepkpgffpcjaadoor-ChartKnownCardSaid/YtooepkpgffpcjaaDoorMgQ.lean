/- Walk: the program's reader of charts. -/
import Derived.Test.YtooepkpgffpcjaaDoorMgP
import Derived.Test.YtooepkpgffpcjaaDoorMgL
import Derived.Test.YtooepkpgffpcjaaDoorMgH
import Derived.Test.YtooepkpgffpcjaaDoorMgI
namespace Go.Proofs.YtooepkpgffpcjaaDoor
open Go.RowKit

/-- a slice of strings that reads as L -/
def RdS (w : World) (A : Option Addr) (n : Nat) (L : List (List UInt8)) : Prop := Rd w A n (strs L) ∧ L.length = n
theorem RdS.at_ {w : World} {A : Option Addr} {n k : Nat} {L : List (List UInt8)} (h : RdS w A n L) (hk : k < n) : ∃ ad S, A = some ad ∧ ad.block < w.heap.size ∧ Hid (L[k]? = some S) ∧ w.cell? (ad.add k) = some (.string ⟨S.toArray⟩) := by
  obtain ⟨ad, u, e, hb, hx, hc⟩ := h.1.at_ hk
  unfold strs at hx
  rw [List.getElem?_map] at hx
  obtain ⟨S, hS, rfl⟩ := Option.map_eq_some_iff.1 hx
  exact ⟨ad, S, e, hb, Lib.hid hS, hc⟩
theorem RdS.below {w w' : World} {A : Option Addr} {n : Nat} {L : List (List UInt8)} (h : RdS w A n L) (hb : Below w.heap.size w w') : RdS w' A n L := ⟨h.1.below hb, h.2⟩
theorem add0 (q j : Nat) : (⟨q, 0, none⟩ : Addr).add j = ⟨q, j, none⟩ := by unfold Addr.add; split <;> simp_all
theorem size_arr (S : List UInt8) : (⟨S.toArray⟩ : ByteArray).size = S.length := by simp [ByteArray.size]

def isSign (c : UInt8) : Bool := c == 111 || c == 124
theorem u8_is (c : UInt8) (k : Nat) (hk : k < 256) : ((c.toNat : Int) == (k : Int)) = (c == k.toUInt8) := by
  by_cases h : c = k.toUInt8
  · subst h
    simp
    omega
  · have h1 : ¬ c.toNat = k := fun e => h (UInt8.toNat_inj.1 (by rw [e]; simp; omega))
    rw [beq_eq_false_iff_ne.2 h, beq_eq_false_iff_ne.2 (by omega)]

set_option maxHeartbeats 1000000 in
theorem closure_any (s : ByteArray) (b i : Nat) (w : World) (hi : i < s.size) (hc : w.cell? ⟨b, 0, none⟩ = some (.int .i64 i)) (c : UInt8) (hsc : s[i] = c) :
    Calls Tryd.prog 106 #[.string s, .pointer (some ⟨b, 0, none⟩)] w fun e w' => e = .returned (.bool (isSign c)) ∧ w' = w := by
  have HV : Hid (isSign c = (((c.toNat : Int) == 111) || ((c.toNat : Int) == 124))) := Lib.hid (by rw [show (111 : Int) = ((111 : Nat) : Int) from rfl, show (124 : Int) = ((124 : Nat) : Int) from rfl, u8_is c 111 (by omega), u8_is c 124 (by omega)]; rfl)
  by_cases g1 : ((c.toNat : Int) == 111) = true
  · rw [g1] at HV
    go_enter Tryd.func106, Tryd.ntmps106
    go_wp2_with fail
    go_ret
    exact ⟨ret_bool HV.out.symm, rfl⟩
  · have g1 : ((c.toNat : Int) == 111) = false := by simpa using g1
    rw [g1] at HV
    go_enter Tryd.func106, Tryd.ntmps106
    go_wp2_with fail
    go_ret
    exact ⟨ret_bool HV.out.symm, rfl⟩

/-- the first of them with a packet's own sign at a place, or -1 -/
def idxS (L : List (List UInt8)) (i : Nat) : Int := match L.findIdx? (fun S => isSign (S.getD i 0)) with
  | some r => r
  | none => -1
theorem idxS_at {L : List (List UInt8)} {i k : Nat} {S : List UInt8} (hS : L[k]? = some S) (hq : isSign (S.getD i 0) = true) (h : ∀ j T, j < k → L[j]? = some T → isSign (T.getD i 0) = false) : idxS L i = k := by
  unfold idxS
  rw [findIdx?_at (q := fun S => isSign (S.getD i 0)) hS hq h]
theorem idxS_none {L : List (List UInt8)} {i : Nat} (h : ∀ j T, j < L.length → L[j]? = some T → isSign (T.getD i 0) = false) : idxS L i = -1 := by
  unfold idxS
  have : L.findIdx? (fun S => isSign (S.getD i 0)) = none := by
    rw [List.findIdx?_eq_none_iff]
    intro T hT
    obtain ⟨j, hj, e⟩ := List.getElem_of_mem hT
    exact h j T hj (by rw [List.getElem?_eq_getElem hj, e])
  rw [this]
theorem getD_arr (S : List UInt8) (i : Nat) (h : i < (⟨S.toArray⟩ : ByteArray).size) : (⟨S.toArray⟩ : ByteArray)[i] = S.getD i 0 := by
  have h2 : i < S.length := by rwa [size_arr] at h
  rw [List.getD_eq_getElem?_getD, List.getElem?_eq_getElem h2]
  rfl

set_option maxHeartbeats 1000000 in
theorem indexS_any (A : Option Addr) (n c b i : Nat) (L : List (List UInt8)) (w : World) (h : RdS w A n L) (hn : n ≤ 100000) (hi : ∀ S ∈ L, i < S.length) (hc : w.cell? ⟨b, 0, none⟩ = some (.int .i64 i)) :
    Calls Tryd.prog 105 #[.slice A n c, .func (.func 106) #[] #[.pointer (some ⟨b, 0, none⟩)]] w fun e w' => e = .returned (.int .i64 (idxS L i)) ∧ w' = w := by
  have HL := Lib.hid h.2
  have HI := Lib.hid hi
  clear hi
  go_enter Tryd.func105, Tryd.ntmps105
  go_wp2_with fail
  go_loop [8] (fun k8 => ∃ k : Nat, k ≤ n ∧ k8 = .int .i64 k ∧ (∀ j T, j < k → L[j]? = some T → isSign (T.getD i 0) = false)) (fun k8 => n - (intOf k8).toNat)
  case atStart => exact ⟨0, by omega, rfl, fun j _ hj => absurd hj (by omega)⟩
  case round =>
    obtain ⟨k, hk, rfl, hno⟩ := hrel
    have HN := Lib.hid hno
    clear hno
    by_cases hlt : k < n
    · obtain ⟨ad, S, rfl, _, hS, hcell⟩ := h.at_ hlt
      have hlen := HI.out S (List.mem_of_getElem? hS.out)
      have HC := fun W (hw : W.cell? ⟨b, 0, none⟩ = some (.int .i64 i)) => closure_any ⟨S.toArray⟩ b i W (by rw [size_arr]; exact hlen) hw (S.getD i 0) (getD_arr S i _)
      cases hq : isSign (S.getD i 0) with
      | true =>
        rw [hq] at HC
        have HCC := Lib.hid HC
        have HV := Lib.hid (idxS_at hS.out hq HN.out)
        clear HC hq
        go_wp2_with fail
        refine (HCC.out _ hc).mono ?_; rintro e w' ⟨rfl, rfl⟩
        go_wp2
        go_ret
        exact ⟨ret_int HV.out.symm, rfl⟩
      | false =>
        rw [hq] at HC
        have HCC := Lib.hid HC
        have HQ := Lib.hid hq
        clear HC hq
        go_wp2_with fail
        refine (HCC.out _ hc).mono ?_; rintro e w' ⟨rfl, rfl⟩
        go_wp2
        go_round
        case rel => exact ⟨k + 1, by omega, by go_num, fun j T hj hT => by
          by_cases e : j = k
          · subst e; rw [hS.out] at hT; injection hT with hT; subst hT; exact HQ.out
          · exact HN.out j T (by omega) hT⟩
        case measure => simp [intOf]; omega
    · have HV := Lib.hid (idxS_none (L := L) (i := i) (fun j T hj hT => HN.out j T (by have := HL.out; omega) hT))
      go_wp2
      go_ret
      exact ⟨ret_int HV.out.symm, rfl⟩
end Go.Proofs.YtooepkpgffpcjaaDoor
