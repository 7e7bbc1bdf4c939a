/-
  No cell of these rows narrows 'for every input' (looked for: loops, veiled, ifaces, maps, wideKeys, modest, calm, conditions, laid).
  DERIVED. THE GIVEN ROWS OF THIS SEAT. 15 by the template 'for every input the law returns true; each argument reads behind the call as it read before'; 0 by the template 'total and deterministic' (their statements: YtcmacejpoihhlaaTotals.lean).
  GIVEN WITH THE SEED: the statements are not yours to turn. If you find one false, say at which input.
  Laid BY PROGRAM, IN A SANDBOX (cutbox-rows.mjs): the forced cells as the released guide's own fill.sh prints them over the translation 24ce9720e26e86ad… (all of the seat's roots in one cut). By AI agents, Wed Nov 11 2026. No macro, syntax, notation, axiom, sorry.
-/
import Derived.Test.YtcmacejpoihhlaaChecked
import GoSem.Claim
import GoSem.ClaimJoined
import GoSem.ClaimMapViews
import Derived.JoinedTies
import Derived.KernelRfl
namespace Go.Proofs.Ytcmacejpoihhlaa
/- THE CELL 'sum', in the pinned program and in every row, IS THE sha256 OF THE DUMP (.gsa) THAT YtcmacejpoihhlaaProg.lean LOADS. Nothing in Lean hashes anything: it is a label: what it is worth is what the hold of that sum in a sandbox is worth. -/
noncomputable def Try.pinned : Pinned := { name := "ytcmacejpoihhlaa", sum := "24ce9720e26e86ad349e5ad336d16b4d17bc582cf66ca7321ea1582bb517e665", checked := Try.checked }
namespace Rows
def none {H : Type} : Left H := { results := [], args := [] }

/-- 'aloeswoodlaw05.DesignWays': WHATEVER THE INPUT: true; the input reads as it did. -/
def designWaysSpec : ChangeSpec := { name := "designWays", fn := fun _ => fun
  | [d1, d2, d3] => { results := [.lit (.bool true)], args := [d1, d2, d3] }
  | _ => none }
def designWaysRow : OpenClaim := { program := "ytcmacejpoihhlaa", sum := "24ce9720e26e86ad349e5ad336d16b4d17bc582cf66ca7321ea1582bb517e665", func := "aloeswood/aloeswoodlaw05.DesignWays", spec := "designWays", unfollowed := true, recurses := true, apart := false }
def DesignWaysSaid : Prop := designWaysRow.holds Try.pinned (OpenSpec.ofChange designWaysSpec)

/-- ITS FALSE NEIGHBOUR: 'it returns false'. Refute it at one input. -/
def designWaysWrong : ChangeSpec := { name := "designWays", fn := fun _ => fun
  | [d1, d2, d3] => { results := [.lit (.bool false)], args := [d1, d2, d3] }
  | _ => none }
def DesignWaysWrongFalsely : Prop := designWaysRow.holds Try.pinned (OpenSpec.ofChange designWaysWrong)

/-- 'aloeswoodlaw05.DesignGuesses': WHATEVER THE INPUT: true; the input reads as it did. -/
def designGuessesSpec : ChangeSpec := { name := "designGuesses", fn := fun _ => fun
  | [d1, d2] => { results := [.lit (.bool true)], args := [d1, d2] }
  | _ => none }
def designGuessesRow : OpenClaim := { program := "ytcmacejpoihhlaa", sum := "24ce9720e26e86ad349e5ad336d16b4d17bc582cf66ca7321ea1582bb517e665", func := "aloeswood/aloeswoodlaw05.DesignGuesses", spec := "designGuesses", unfollowed := true, recurses := true, apart := false }
def DesignGuessesSaid : Prop := designGuessesRow.holds Try.pinned (OpenSpec.ofChange designGuessesSpec)

/-- ITS FALSE NEIGHBOUR: 'it returns false'. Refute it at one input. -/
def designGuessesWrong : ChangeSpec := { name := "designGuesses", fn := fun _ => fun
  | [d1, d2] => { results := [.lit (.bool false)], args := [d1, d2] }
  | _ => none }
def DesignGuessesWrongFalsely : Prop := designGuessesRow.holds Try.pinned (OpenSpec.ofChange designGuessesWrong)

/-- 'aloeswoodlaw05.DesignNames': WHATEVER THE INPUT: true; the input reads as it did. -/
def designNamesSpec : ChangeSpec := { name := "designNames", fn := fun _ => fun
  | [d] => { results := [.lit (.bool true)], args := [d] }
  | _ => none }
def designNamesRow : OpenClaim := { program := "ytcmacejpoihhlaa", sum := "24ce9720e26e86ad349e5ad336d16b4d17bc582cf66ca7321ea1582bb517e665", func := "aloeswood/aloeswoodlaw05.DesignNames", spec := "designNames", unfollowed := true, recurses := true, apart := false }
def DesignNamesSaid : Prop := designNamesRow.holds Try.pinned (OpenSpec.ofChange designNamesSpec)

/-- ITS FALSE NEIGHBOUR: 'it returns false'. Refute it at one input. -/
def designNamesWrong : ChangeSpec := { name := "designNames", fn := fun _ => fun
  | [d] => { results := [.lit (.bool false)], args := [d] }
  | _ => none }
def DesignNamesWrongFalsely : Prop := designNamesRow.holds Try.pinned (OpenSpec.ofChange designNamesWrong)

/-- 'aloeswoodlaw05.DesignGuess': WHATEVER THE INPUT: true; the input reads as it did. -/
def designGuessSpec : ChangeSpec := { name := "designGuess", fn := fun _ => fun
  | [d] => { results := [.lit (.bool true)], args := [d] }
  | _ => none }
def designGuessRow : OpenClaim := { program := "ytcmacejpoihhlaa", sum := "24ce9720e26e86ad349e5ad336d16b4d17bc582cf66ca7321ea1582bb517e665", func := "aloeswood/aloeswoodlaw05.DesignGuess", spec := "designGuess", unfollowed := true, recurses := true, apart := false }
def DesignGuessSaid : Prop := designGuessRow.holds Try.pinned (OpenSpec.ofChange designGuessSpec)

/-- ITS FALSE NEIGHBOUR: 'it returns false'. Refute it at one input. -/
def designGuessWrong : ChangeSpec := { name := "designGuess", fn := fun _ => fun
  | [d] => { results := [.lit (.bool false)], args := [d] }
  | _ => none }
def DesignGuessWrongFalsely : Prop := designGuessRow.holds Try.pinned (OpenSpec.ofChange designGuessWrong)

/-- 'aloeswoodlaw05.DesignFairest': WHATEVER THE INPUT: true; the input reads as it did. -/
def designFairestSpec : ChangeSpec := { name := "designFairest", fn := fun _ => fun
  | [d1, d2, d3, d4] => { results := [.lit (.bool true)], args := [d1, d2, d3, d4] }
  | _ => none }
def designFairestRow : OpenClaim := { program := "ytcmacejpoihhlaa", sum := "24ce9720e26e86ad349e5ad336d16b4d17bc582cf66ca7321ea1582bb517e665", func := "aloeswood/aloeswoodlaw05.DesignFairest", spec := "designFairest", unfollowed := true, recurses := true, apart := false }
def DesignFairestSaid : Prop := designFairestRow.holds Try.pinned (OpenSpec.ofChange designFairestSpec)

/-- ITS FALSE NEIGHBOUR: 'it returns false'. Refute it at one input. -/
def designFairestWrong : ChangeSpec := { name := "designFairest", fn := fun _ => fun
  | [d1, d2, d3, d4] => { results := [.lit (.bool false)], args := [d1, d2, d3, d4] }
  | _ => none }
def DesignFairestWrongFalsely : Prop := designFairestRow.holds Try.pinned (OpenSpec.ofChange designFairestWrong)

/-- 'aloeswoodlaw05.DesignAll': WHATEVER THE INPUT: true; the input reads as it did. -/
def designAllSpec : ChangeSpec := { name := "designAll", fn := fun _ => fun
  | [d] => { results := [.lit (.bool true)], args := [d] }
  | _ => none }
def designAllRow : OpenClaim := { program := "ytcmacejpoihhlaa", sum := "24ce9720e26e86ad349e5ad336d16b4d17bc582cf66ca7321ea1582bb517e665", func := "aloeswood/aloeswoodlaw05.DesignAll", spec := "designAll", unfollowed := true, recurses := true, apart := false }
def DesignAllSaid : Prop := designAllRow.holds Try.pinned (OpenSpec.ofChange designAllSpec)

/-- ITS FALSE NEIGHBOUR: 'it returns false'. Refute it at one input. -/
def designAllWrong : ChangeSpec := { name := "designAll", fn := fun _ => fun
  | [d] => { results := [.lit (.bool false)], args := [d] }
  | _ => none }
def DesignAllWrongFalsely : Prop := designAllRow.holds Try.pinned (OpenSpec.ofChange designAllWrong)

/-- 'aloeswoodlaw05.DesignBest': WHATEVER THE INPUT: true; the input reads as it did. -/
def designBestSpec : ChangeSpec := { name := "designBest", fn := fun _ => fun
  | [d] => { results := [.lit (.bool true)], args := [d] }
  | _ => none }
def designBestRow : OpenClaim := { program := "ytcmacejpoihhlaa", sum := "24ce9720e26e86ad349e5ad336d16b4d17bc582cf66ca7321ea1582bb517e665", func := "aloeswood/aloeswoodlaw05.DesignBest", spec := "designBest", unfollowed := true, recurses := true, apart := false }
def DesignBestSaid : Prop := designBestRow.holds Try.pinned (OpenSpec.ofChange designBestSpec)

/-- ITS FALSE NEIGHBOUR: 'it returns false'. Refute it at one input. -/
def designBestWrong : ChangeSpec := { name := "designBest", fn := fun _ => fun
  | [d] => { results := [.lit (.bool false)], args := [d] }
  | _ => none }
def DesignBestWrongFalsely : Prop := designBestRow.holds Try.pinned (OpenSpec.ofChange designBestWrong)

/-- 'aloeswoodlaw05.DesignRests': WHATEVER THE INPUT: true; the input reads as it did. -/
def designRestsSpec : ChangeSpec := { name := "designRests", fn := fun _ => fun
  | [d1, d2, d3] => { results := [.lit (.bool true)], args := [d1, d2, d3] }
  | _ => none }
def designRestsRow : OpenClaim := { program := "ytcmacejpoihhlaa", sum := "24ce9720e26e86ad349e5ad336d16b4d17bc582cf66ca7321ea1582bb517e665", func := "aloeswood/aloeswoodlaw05.DesignRests", spec := "designRests", unfollowed := true, recurses := true, apart := false }
def DesignRestsSaid : Prop := designRestsRow.holds Try.pinned (OpenSpec.ofChange designRestsSpec)

/-- ITS FALSE NEIGHBOUR: 'it returns false'. Refute it at one input. -/
def designRestsWrong : ChangeSpec := { name := "designRests", fn := fun _ => fun
  | [d1, d2, d3] => { results := [.lit (.bool false)], args := [d1, d2, d3] }
  | _ => none }
def DesignRestsWrongFalsely : Prop := designRestsRow.holds Try.pinned (OpenSpec.ofChange designRestsWrong)

/-- 'aloeswoodlaw05.DesignCounting': WHATEVER THE INPUT: true; the input reads as it did. -/
def designCountingSpec : ChangeSpec := { name := "designCounting", fn := fun _ => fun
  | [d] => { results := [.lit (.bool true)], args := [d] }
  | _ => none }
def designCountingRow : OpenClaim := { program := "ytcmacejpoihhlaa", sum := "24ce9720e26e86ad349e5ad336d16b4d17bc582cf66ca7321ea1582bb517e665", func := "aloeswood/aloeswoodlaw05.DesignCounting", spec := "designCounting", unfollowed := true, recurses := true, apart := false }
def DesignCountingSaid : Prop := designCountingRow.holds Try.pinned (OpenSpec.ofChange designCountingSpec)

/-- ITS FALSE NEIGHBOUR: 'it returns false'. Refute it at one input. -/
def designCountingWrong : ChangeSpec := { name := "designCounting", fn := fun _ => fun
  | [d] => { results := [.lit (.bool false)], args := [d] }
  | _ => none }
def DesignCountingWrongFalsely : Prop := designCountingRow.holds Try.pinned (OpenSpec.ofChange designCountingWrong)

/-- 'aloeswoodlaw05.DesignFair': WHATEVER THE INPUT: true; the input reads as it did. -/
def designFairSpec : ChangeSpec := { name := "designFair", fn := fun _ => fun
  | [d] => { results := [.lit (.bool true)], args := [d] }
  | _ => none }
def designFairRow : OpenClaim := { program := "ytcmacejpoihhlaa", sum := "24ce9720e26e86ad349e5ad336d16b4d17bc582cf66ca7321ea1582bb517e665", func := "aloeswood/aloeswoodlaw05.DesignFair", spec := "designFair", unfollowed := true, recurses := true, apart := false }
def DesignFairSaid : Prop := designFairRow.holds Try.pinned (OpenSpec.ofChange designFairSpec)

/-- ITS FALSE NEIGHBOUR: 'it returns false'. Refute it at one input. -/
def designFairWrong : ChangeSpec := { name := "designFair", fn := fun _ => fun
  | [d] => { results := [.lit (.bool false)], args := [d] }
  | _ => none }
def DesignFairWrongFalsely : Prop := designFairRow.holds Try.pinned (OpenSpec.ofChange designFairWrong)

/-- 'aloeswoodlaw05.DesignSeats': WHATEVER THE INPUT: true; the input reads as it did. -/
def designSeatsSpec : ChangeSpec := { name := "designSeats", fn := fun _ => fun
  | [d1, d2, d3] => { results := [.lit (.bool true)], args := [d1, d2, d3] }
  | _ => none }
def designSeatsRow : OpenClaim := { program := "ytcmacejpoihhlaa", sum := "24ce9720e26e86ad349e5ad336d16b4d17bc582cf66ca7321ea1582bb517e665", func := "aloeswood/aloeswoodlaw05.DesignSeats", spec := "designSeats", unfollowed := true, recurses := true, apart := false }
def DesignSeatsSaid : Prop := designSeatsRow.holds Try.pinned (OpenSpec.ofChange designSeatsSpec)

/-- ITS FALSE NEIGHBOUR: 'it returns false'. Refute it at one input. -/
def designSeatsWrong : ChangeSpec := { name := "designSeats", fn := fun _ => fun
  | [d1, d2, d3] => { results := [.lit (.bool false)], args := [d1, d2, d3] }
  | _ => none }
def DesignSeatsWrongFalsely : Prop := designSeatsRow.holds Try.pinned (OpenSpec.ofChange designSeatsWrong)

/-- 'aloeswoodlaw05.DesignTurns': WHATEVER THE INPUT: true; the input reads as it did. -/
def designTurnsSpec : ChangeSpec := { name := "designTurns", fn := fun _ => fun
  | [d] => { results := [.lit (.bool true)], args := [d] }
  | _ => none }
def designTurnsRow : OpenClaim := { program := "ytcmacejpoihhlaa", sum := "24ce9720e26e86ad349e5ad336d16b4d17bc582cf66ca7321ea1582bb517e665", func := "aloeswood/aloeswoodlaw05.DesignTurns", spec := "designTurns", unfollowed := true, recurses := true, apart := false }
def DesignTurnsSaid : Prop := designTurnsRow.holds Try.pinned (OpenSpec.ofChange designTurnsSpec)

/-- ITS FALSE NEIGHBOUR: 'it returns false'. Refute it at one input. -/
def designTurnsWrong : ChangeSpec := { name := "designTurns", fn := fun _ => fun
  | [d] => { results := [.lit (.bool false)], args := [d] }
  | _ => none }
def DesignTurnsWrongFalsely : Prop := designTurnsRow.holds Try.pinned (OpenSpec.ofChange designTurnsWrong)

/-- 'aloeswoodlaw05.DesignKnown': WHATEVER THE INPUT: true; the input reads as it did. -/
def designKnownSpec : ChangeSpec := { name := "designKnown", fn := fun _ => fun
  | [] => { results := [.lit (.bool true)], args := [] }
  | _ => none }
def designKnownRow : OpenClaim := { program := "ytcmacejpoihhlaa", sum := "24ce9720e26e86ad349e5ad336d16b4d17bc582cf66ca7321ea1582bb517e665", func := "aloeswood/aloeswoodlaw05.DesignKnown", spec := "designKnown", unfollowed := true, recurses := true, apart := false }
def DesignKnownSaid : Prop := designKnownRow.holds Try.pinned (OpenSpec.ofChange designKnownSpec)

/-- ITS FALSE NEIGHBOUR: 'it returns false'. Refute it at one input. -/
def designKnownWrong : ChangeSpec := { name := "designKnown", fn := fun _ => fun
  | [] => { results := [.lit (.bool false)], args := [] }
  | _ => none }
def DesignKnownWrongFalsely : Prop := designKnownRow.holds Try.pinned (OpenSpec.ofChange designKnownWrong)

/-- 'aloeswoodtop.TopMoves': WHATEVER THE INPUT: true; the input reads as it did. -/
def topMovesSpec : ChangeSpec := { name := "topMoves", fn := fun _ => fun
  | [d] => { results := [.lit (.bool true)], args := [d] }
  | _ => none }
def topMovesRow : OpenClaim := { program := "ytcmacejpoihhlaa", sum := "24ce9720e26e86ad349e5ad336d16b4d17bc582cf66ca7321ea1582bb517e665", func := "aloeswood/aloeswoodtop.TopMoves", spec := "topMoves", apart := false }
def TopMovesSaid : Prop := topMovesRow.holds Try.pinned (OpenSpec.ofChange topMovesSpec)

/-- ITS FALSE NEIGHBOUR: 'it returns false'. Refute it at one input. -/
def topMovesWrong : ChangeSpec := { name := "topMoves", fn := fun _ => fun
  | [d] => { results := [.lit (.bool false)], args := [d] }
  | _ => none }
def TopMovesWrongFalsely : Prop := topMovesRow.holds Try.pinned (OpenSpec.ofChange topMovesWrong)

/-- 'aloeswoodtop.TopGuessed': WHATEVER THE INPUT: true; the input reads as it did. -/
def topGuessedSpec : ChangeSpec := { name := "topGuessed", fn := fun _ => fun
  | [d] => { results := [.lit (.bool true)], args := [d] }
  | _ => none }
def topGuessedRow : OpenClaim := { program := "ytcmacejpoihhlaa", sum := "24ce9720e26e86ad349e5ad336d16b4d17bc582cf66ca7321ea1582bb517e665", func := "aloeswood/aloeswoodtop.TopGuessed", spec := "topGuessed", unfollowed := true, recurses := true, apart := false }
def TopGuessedSaid : Prop := topGuessedRow.holds Try.pinned (OpenSpec.ofChange topGuessedSpec)

/-- ITS FALSE NEIGHBOUR: 'it returns false'. Refute it at one input. -/
def topGuessedWrong : ChangeSpec := { name := "topGuessed", fn := fun _ => fun
  | [d] => { results := [.lit (.bool false)], args := [d] }
  | _ => none }
def TopGuessedWrongFalsely : Prop := topGuessedRow.holds Try.pinned (OpenSpec.ofChange topGuessedWrong)

/- THE SECOND FORM. 'bulk': how many values and letters a reading holds, each counted each time it is reached (what is shared counts as often as it is met; a slice's spare places count too). A statement '..UptoSaid' is the law's where the arguments, and the package variables that the reading takes, are together of bulk at most 1048576: NARROWER than '..Said'. Prove '..Said' where nothing that the law and all that it calls make is longer than what came in: it says more and counts as full. Else prove '..UptoSaid'. A law counts once. -/
mutual
def uptoBulk {H : Type} : DataW H → Nat
  | .lit (.string bytes) => bytes.length + 1
  | .lit _ => 1
  | .nil => 1
  | .ptr d => uptoBulk d + 1
  | .slice elems spare => uptoBulkAll elems + uptoBulkAll spare + 1
  | .agg parts => uptoBulkAll parts + 1
  | .iface _ d => uptoBulk d + 1
  | .map entries => uptoBulkEntries entries + 1
  | .held _ => 1
def uptoBulkAll {H : Type} : List (DataW H) → Nat
  | [] => 0
  | d :: r => uptoBulk d + uptoBulkAll r
def uptoBulkEntries {H : Type} : List (Lit × DataW H) → Nat
  | [] => 0
  | x :: r => uptoBulkEntry x + uptoBulkEntries r
def uptoBulkEntry {H : Type} : Lit × DataW H → Nat
  | (.string bytes, d) => bytes.length + uptoBulk d + 1
  | (_, d) => uptoBulk d + 1
 end
def uptoSmall : (H : Type) → List (DataW H) → Bool := fun _ ds => decide (uptoBulkAll ds ≤ 1048576)
def OpenSpec.upto (s : _root_.Go.ChangeSpec) : _root_.Go.OpenSpec := { _root_.Go.OpenSpec.ofChange s with cond := some uptoSmall }

/-- 'aloeswoodlaw05.DesignWays', WHERE WHAT IT READS IS OF BULK AT MOST 1048576: true; the input reads as it did. -/
def designWaysUptoRow : OpenClaim := { program := "ytcmacejpoihhlaa", sum := "24ce9720e26e86ad349e5ad336d16b4d17bc582cf66ca7321ea1582bb517e665", func := "aloeswood/aloeswoodlaw05.DesignWays", spec := "designWays", unfollowed := true, recurses := true, apart := false, narrowed := true }
def DesignWaysUptoSaid : Prop := designWaysUptoRow.holds Try.pinned (OpenSpec.upto designWaysSpec)

/-- 'aloeswoodlaw05.DesignGuesses', WHERE WHAT IT READS IS OF BULK AT MOST 1048576: true; the input reads as it did. -/
def designGuessesUptoRow : OpenClaim := { program := "ytcmacejpoihhlaa", sum := "24ce9720e26e86ad349e5ad336d16b4d17bc582cf66ca7321ea1582bb517e665", func := "aloeswood/aloeswoodlaw05.DesignGuesses", spec := "designGuesses", unfollowed := true, recurses := true, apart := false, narrowed := true }
def DesignGuessesUptoSaid : Prop := designGuessesUptoRow.holds Try.pinned (OpenSpec.upto designGuessesSpec)

/-- 'aloeswoodlaw05.DesignNames', WHERE WHAT IT READS IS OF BULK AT MOST 1048576: true; the input reads as it did. -/
def designNamesUptoRow : OpenClaim := { program := "ytcmacejpoihhlaa", sum := "24ce9720e26e86ad349e5ad336d16b4d17bc582cf66ca7321ea1582bb517e665", func := "aloeswood/aloeswoodlaw05.DesignNames", spec := "designNames", unfollowed := true, recurses := true, apart := false, narrowed := true }
def DesignNamesUptoSaid : Prop := designNamesUptoRow.holds Try.pinned (OpenSpec.upto designNamesSpec)

/-- 'aloeswoodlaw05.DesignGuess', WHERE WHAT IT READS IS OF BULK AT MOST 1048576: true; the input reads as it did. -/
def designGuessUptoRow : OpenClaim := { program := "ytcmacejpoihhlaa", sum := "24ce9720e26e86ad349e5ad336d16b4d17bc582cf66ca7321ea1582bb517e665", func := "aloeswood/aloeswoodlaw05.DesignGuess", spec := "designGuess", unfollowed := true, recurses := true, apart := false, narrowed := true }
def DesignGuessUptoSaid : Prop := designGuessUptoRow.holds Try.pinned (OpenSpec.upto designGuessSpec)

/-- 'aloeswoodlaw05.DesignFairest', WHERE WHAT IT READS IS OF BULK AT MOST 1048576: true; the input reads as it did. -/
def designFairestUptoRow : OpenClaim := { program := "ytcmacejpoihhlaa", sum := "24ce9720e26e86ad349e5ad336d16b4d17bc582cf66ca7321ea1582bb517e665", func := "aloeswood/aloeswoodlaw05.DesignFairest", spec := "designFairest", unfollowed := true, recurses := true, apart := false, narrowed := true }
def DesignFairestUptoSaid : Prop := designFairestUptoRow.holds Try.pinned (OpenSpec.upto designFairestSpec)

/-- 'aloeswoodlaw05.DesignAll', WHERE WHAT IT READS IS OF BULK AT MOST 1048576: true; the input reads as it did. -/
def designAllUptoRow : OpenClaim := { program := "ytcmacejpoihhlaa", sum := "24ce9720e26e86ad349e5ad336d16b4d17bc582cf66ca7321ea1582bb517e665", func := "aloeswood/aloeswoodlaw05.DesignAll", spec := "designAll", unfollowed := true, recurses := true, apart := false, narrowed := true }
def DesignAllUptoSaid : Prop := designAllUptoRow.holds Try.pinned (OpenSpec.upto designAllSpec)

/-- 'aloeswoodlaw05.DesignBest', WHERE WHAT IT READS IS OF BULK AT MOST 1048576: true; the input reads as it did. -/
def designBestUptoRow : OpenClaim := { program := "ytcmacejpoihhlaa", sum := "24ce9720e26e86ad349e5ad336d16b4d17bc582cf66ca7321ea1582bb517e665", func := "aloeswood/aloeswoodlaw05.DesignBest", spec := "designBest", unfollowed := true, recurses := true, apart := false, narrowed := true }
def DesignBestUptoSaid : Prop := designBestUptoRow.holds Try.pinned (OpenSpec.upto designBestSpec)

/-- 'aloeswoodlaw05.DesignRests', WHERE WHAT IT READS IS OF BULK AT MOST 1048576: true; the input reads as it did. -/
def designRestsUptoRow : OpenClaim := { program := "ytcmacejpoihhlaa", sum := "24ce9720e26e86ad349e5ad336d16b4d17bc582cf66ca7321ea1582bb517e665", func := "aloeswood/aloeswoodlaw05.DesignRests", spec := "designRests", unfollowed := true, recurses := true, apart := false, narrowed := true }
def DesignRestsUptoSaid : Prop := designRestsUptoRow.holds Try.pinned (OpenSpec.upto designRestsSpec)

/-- 'aloeswoodlaw05.DesignCounting', WHERE WHAT IT READS IS OF BULK AT MOST 1048576: true; the input reads as it did. -/
def designCountingUptoRow : OpenClaim := { program := "ytcmacejpoihhlaa", sum := "24ce9720e26e86ad349e5ad336d16b4d17bc582cf66ca7321ea1582bb517e665", func := "aloeswood/aloeswoodlaw05.DesignCounting", spec := "designCounting", unfollowed := true, recurses := true, apart := false, narrowed := true }
def DesignCountingUptoSaid : Prop := designCountingUptoRow.holds Try.pinned (OpenSpec.upto designCountingSpec)

/-- 'aloeswoodlaw05.DesignFair', WHERE WHAT IT READS IS OF BULK AT MOST 1048576: true; the input reads as it did. -/
def designFairUptoRow : OpenClaim := { program := "ytcmacejpoihhlaa", sum := "24ce9720e26e86ad349e5ad336d16b4d17bc582cf66ca7321ea1582bb517e665", func := "aloeswood/aloeswoodlaw05.DesignFair", spec := "designFair", unfollowed := true, recurses := true, apart := false, narrowed := true }
def DesignFairUptoSaid : Prop := designFairUptoRow.holds Try.pinned (OpenSpec.upto designFairSpec)

/-- 'aloeswoodlaw05.DesignSeats', WHERE WHAT IT READS IS OF BULK AT MOST 1048576: true; the input reads as it did. -/
def designSeatsUptoRow : OpenClaim := { program := "ytcmacejpoihhlaa", sum := "24ce9720e26e86ad349e5ad336d16b4d17bc582cf66ca7321ea1582bb517e665", func := "aloeswood/aloeswoodlaw05.DesignSeats", spec := "designSeats", unfollowed := true, recurses := true, apart := false, narrowed := true }
def DesignSeatsUptoSaid : Prop := designSeatsUptoRow.holds Try.pinned (OpenSpec.upto designSeatsSpec)

/-- 'aloeswoodlaw05.DesignTurns', WHERE WHAT IT READS IS OF BULK AT MOST 1048576: true; the input reads as it did. -/
def designTurnsUptoRow : OpenClaim := { program := "ytcmacejpoihhlaa", sum := "24ce9720e26e86ad349e5ad336d16b4d17bc582cf66ca7321ea1582bb517e665", func := "aloeswood/aloeswoodlaw05.DesignTurns", spec := "designTurns", unfollowed := true, recurses := true, apart := false, narrowed := true }
def DesignTurnsUptoSaid : Prop := designTurnsUptoRow.holds Try.pinned (OpenSpec.upto designTurnsSpec)

/-- 'aloeswoodlaw05.DesignKnown', WHERE WHAT IT READS IS OF BULK AT MOST 1048576: true; the input reads as it did. -/
def designKnownUptoRow : OpenClaim := { program := "ytcmacejpoihhlaa", sum := "24ce9720e26e86ad349e5ad336d16b4d17bc582cf66ca7321ea1582bb517e665", func := "aloeswood/aloeswoodlaw05.DesignKnown", spec := "designKnown", unfollowed := true, recurses := true, apart := false, narrowed := true }
def DesignKnownUptoSaid : Prop := designKnownUptoRow.holds Try.pinned (OpenSpec.upto designKnownSpec)

/-- 'aloeswoodtop.TopMoves', WHERE WHAT IT READS IS OF BULK AT MOST 1048576: true; the input reads as it did. -/
def topMovesUptoRow : OpenClaim := { program := "ytcmacejpoihhlaa", sum := "24ce9720e26e86ad349e5ad336d16b4d17bc582cf66ca7321ea1582bb517e665", func := "aloeswood/aloeswoodtop.TopMoves", spec := "topMoves", apart := false, narrowed := true }
def TopMovesUptoSaid : Prop := topMovesUptoRow.holds Try.pinned (OpenSpec.upto topMovesSpec)

/-- 'aloeswoodtop.TopGuessed', WHERE WHAT IT READS IS OF BULK AT MOST 1048576: true; the input reads as it did. -/
def topGuessedUptoRow : OpenClaim := { program := "ytcmacejpoihhlaa", sum := "24ce9720e26e86ad349e5ad336d16b4d17bc582cf66ca7321ea1582bb517e665", func := "aloeswood/aloeswoodtop.TopGuessed", spec := "topGuessed", unfollowed := true, recurses := true, apart := false, narrowed := true }
def TopGuessedUptoSaid : Prop := topGuessedUptoRow.holds Try.pinned (OpenSpec.upto topGuessedSpec)

end Rows
end Go.Proofs.Ytcmacejpoihhlaa
