/- What the rows need that list three tables: the signs among them, a world for the witness. -/
import Derived.Test.YtooepkpgffpcjaaDoorMgK
import Derived.Lib.LaidU8T
namespace Go.Proofs.YtooepkpgffpcjaaDoor
open Go.ChangeShapes Go.WideShapes Go.ChangeAt Go.RowKit Go.Lib

theorem signs_at {x : String × DataW Unit} {rest : List (String × DataW Unit)} {W : World} (h : laidMet Tryd.prog (x :: ("aloeswood/chart.signs", Rows.laid_aloeswood_chart_signs) :: rest) W) : Signs W := by
  obtain ⟨ps, hl, hnd, hr⟩ := h
  obtain ⟨n, d⟩ := x
  obtain ⟨_, _, _, _, p, q, _, _, _, _, hl2, rfl⟩ := hl
  exact signs_of (rest := rest) ⟨q, hl2, (List.nodup_append.1 hnd).2.1, fun b off hp => hr b off (List.mem_append_right _ hp)⟩

/-- A WORLD FOR THE WITNESS: the settled one, the three tables laid. -/
noncomputable def laidWorld3 (os : Os) : World :=
  let w0 := World.holding Tryd.prog os ⟨#[], #[], []⟩
  let put (h : Array Obj) (g : Nat) (cs : Array Value) : Array Obj := h.modify g fun
    | .cells _ t frozen => .cells cs t frozen
    | o => o
  let h1 := put w0.heap 2 (Lib.firstTab.map fun z => Value.int .u8 z).toArray
  let h2 := put h1 3 ((List.range 16).flatMap fun i => [Value.int .u8 (Lib.accLo i), Value.int .u8 (Lib.accHi i)]).toArray
  let h3 := put h2 0 #[.int .u8 32, .int .u8 45, .int .u8 124, .int .u8 111, .int .u8 124, .int .u8 120]
  { w0 with heap := h3 }
end Go.Proofs.YtooepkpgffpcjaaDoor
