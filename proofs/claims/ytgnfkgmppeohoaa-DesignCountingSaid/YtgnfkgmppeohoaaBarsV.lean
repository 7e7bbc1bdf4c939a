/- Walks: bars itself. -/
import Derived.Test.YtgnfkgmppeohoaaBarsW
namespace Go.Proofs.Ytgnfkgmppeohoaa
open Go.RowKit

theorem RdI.drop_ {w : World} {ad : Addr} {n : Nat} {l : List Int} (h : RdI w (some ad) n l) {k : Nat} (hk : k < n) : RdI w (some (ad.add k)) (n - k) (l.drop k) := by
  refine ⟨⟨by have := h.len; simp; omega, by have := h.bd; omega, fun _ => ?_⟩, fun v hv => h.2 v (List.mem_of_mem_drop hv)⟩
  obtain ⟨ad', e, hb, hc⟩ := h.1.2.2 (by omega)
  injection e with e
  subst e
  refine ⟨_, rfl, by rw [block_of_add]; exact hb, fun j u hu => ?_⟩
  rw [Addr.add_add]
  refine hc (k + j) u ?_
  rw [ints_get] at hu ⊢
  rwa [List.getElem?_drop] at hu

theorem if_max' (t u : Int) : (if t < u then u else t) = max t u := by split <;> omega
theorem IsB.drew {w : World} {g : Nat} {t : TypeId} {cs : Array Value} (h : Blk w g t cs) : Blk w.drew g t cs := h
end Go.Proofs.Ytgnfkgmppeohoaa
