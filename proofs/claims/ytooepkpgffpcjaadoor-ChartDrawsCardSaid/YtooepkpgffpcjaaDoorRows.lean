/-
  NARROWER THAN 'FOR EVERY INPUT', by the rows' own cells (each row's printed sentence says how): ChartMoves: laid · ChartRows: laid · ChartLabels: laid · ChartMetric: laid · ChartChecks: laid · ChartRanks: laid · ChartLattice: laid · ChartFiner: laid · ChartAll: laid · ChartLaws: laid · ChartDraws: laid · ChartOne: laid · ChartWords: laid · ChartNamed: laid · ChartKnown: laid.
  DERIVED. THE GIVEN ROWS OF THIS SEAT. 15 by the template 'for every input the law returns true; each argument reads behind the call as it read before'; 0 by the template 'total and deterministic' (their statements: YtooepkpgffpcjaaDoorTotals.lean).
  GIVEN WITH THE SEED: the statements are not yours to turn. If you find one false, say at which input.
  Laid BY PROGRAM, IN A SANDBOX (cutbox-rows.mjs): the forced cells as the released guide's own fill.sh prints them over the translation 36d3d980224fdd55… (all of the seat's roots in one cut). By AI agents, Wed Nov 11 2026. No macro, syntax, notation, axiom, sorry.
-/
import Derived.Test.YtooepkpgffpcjaaDoorChecked
import GoSem.PinnedTables
import GoSem.Claim
import GoSem.ClaimJoined
import GoSem.ClaimMapViews
import Derived.JoinedTies
import Derived.KernelRfl
namespace Go.Proofs.YtooepkpgffpcjaaDoor
/- THE CELL 'sum', in the pinned program and in every row, IS THE sha256 OF THE DUMP (.gsa) THAT YtooepkpgffpcjaaDoorProg.lean LOADS. Nothing in Lean hashes anything: it is a label: what it is worth is what the hold of that sum in a sandbox is worth. -/
noncomputable def Tryd.pinned : Pinned := { name := "ytooepkpgffpcjaadoor", sum := "36d3d980224fdd557713a49a1afee961514090d56228ef90f0c81e2103007f9c", checked := Tryd.checked }
namespace Rows
def none {H : Type} : Left H := { results := [], args := [] }

/- WHAT THE LISTED PACKAGE-LEVEL VARIABLES READ AS WHEN THE CALL BEGINS. Each datum BY PROGRAM (the guide's laid-datum.mjs) off the statement by which the dump's own 'gosem.cut.vars' lays the variable. In a bare row this is a premise. The card (YtooepkpgffpcjaaDoorCards.lean) ties it to the program's text. -/
def laid_aloeswood_chart_signs {H : Type} : DataW H := .agg [.agg [.lit (.int .u8 32), .lit (.int .u8 45)], .agg [.lit (.int .u8 124), .lit (.int .u8 111)], .agg [.lit (.int .u8 124), .lit (.int .u8 120)]]
def laid_unicode_utf8_acceptRanges {H : Type} : DataW H := .agg [.agg [.lit (.int .u8 128), .lit (.int .u8 191)], .agg [.lit (.int .u8 160), .lit (.int .u8 191)], .agg [.lit (.int .u8 128), .lit (.int .u8 159)], .agg [.lit (.int .u8 144), .lit (.int .u8 191)], .agg [.lit (.int .u8 128), .lit (.int .u8 143)], .agg [.lit (.int .u8 0), .lit (.int .u8 0)], .agg [.lit (.int .u8 0), .lit (.int .u8 0)], .agg [.lit (.int .u8 0), .lit (.int .u8 0)], .agg [.lit (.int .u8 0), .lit (.int .u8 0)], .agg [.lit (.int .u8 0), .lit (.int .u8 0)], .agg [.lit (.int .u8 0), .lit (.int .u8 0)], .agg [.lit (.int .u8 0), .lit (.int .u8 0)], .agg [.lit (.int .u8 0), .lit (.int .u8 0)], .agg [.lit (.int .u8 0), .lit (.int .u8 0)], .agg [.lit (.int .u8 0), .lit (.int .u8 0)], .agg [.lit (.int .u8 0), .lit (.int .u8 0)]]
/-- One of Go's own tables, pinned by name: the form's constant. -/
def laid_unicode_utf8_first : DataW Unit := Go.Pinned.utf8First

/-- 'aloeswoodlaw01.ChartMoves': WHATEVER THE INPUT: true; the input reads as it did. -/
def chartMovesSpec : ChangeSpec := { name := "chartMoves", fn := fun _ => fun
  | [d1, d2, d3] => { results := [.lit (.bool true)], args := [d1, d2, d3] }
  | _ => none }
def chartMovesRow : OpenClaim := { program := "ytooepkpgffpcjaadoor", sum := "36d3d980224fdd557713a49a1afee961514090d56228ef90f0c81e2103007f9c", func := "aloeswood/aloeswoodlaw01.ChartMoves", spec := "chartMoves", inPlace := ["internal/abi.NoEscape"], recurses := true, named := ["aloeswood/chart.signs"], plainKeys := false, apart := false, laid := [("aloeswood/chart.signs", laid_aloeswood_chart_signs)] }
def ChartMovesSaid : Prop := chartMovesRow.holds Tryd.pinned (OpenSpec.ofChange chartMovesSpec)

/-- ITS FALSE NEIGHBOUR: 'it returns false'. Refute it at one input. -/
def chartMovesWrong : ChangeSpec := { name := "chartMoves", fn := fun _ => fun
  | [d1, d2, d3] => { results := [.lit (.bool false)], args := [d1, d2, d3] }
  | _ => none }
def ChartMovesWrongFalsely : Prop := chartMovesRow.holds Tryd.pinned (OpenSpec.ofChange chartMovesWrong)

/-- 'aloeswoodlaw01.ChartRows': WHATEVER THE INPUT: true; the input reads as it did. -/
def chartRowsSpec : ChangeSpec := { name := "chartRows", fn := fun _ => fun
  | [d] => { results := [.lit (.bool true)], args := [d] }
  | _ => none }
def chartRowsRow : OpenClaim := { program := "ytooepkpgffpcjaadoor", sum := "36d3d980224fdd557713a49a1afee961514090d56228ef90f0c81e2103007f9c", func := "aloeswood/aloeswoodlaw01.ChartRows", spec := "chartRows", inPlace := ["internal/abi.NoEscape"], named := ["aloeswood/chart.signs"], plainKeys := false, apart := false, laid := [("aloeswood/chart.signs", laid_aloeswood_chart_signs)] }
def ChartRowsSaid : Prop := chartRowsRow.holds Tryd.pinned (OpenSpec.ofChange chartRowsSpec)

/-- ITS FALSE NEIGHBOUR: 'it returns false'. Refute it at one input. -/
def chartRowsWrong : ChangeSpec := { name := "chartRows", fn := fun _ => fun
  | [d] => { results := [.lit (.bool false)], args := [d] }
  | _ => none }
def ChartRowsWrongFalsely : Prop := chartRowsRow.holds Tryd.pinned (OpenSpec.ofChange chartRowsWrong)

/-- 'aloeswoodlaw01.ChartLabels': WHATEVER THE INPUT: true; the input reads as it did. -/
def chartLabelsSpec : ChangeSpec := { name := "chartLabels", fn := fun _ => fun
  | [d1, d2] => { results := [.lit (.bool true)], args := [d1, d2] }
  | _ => none }
def chartLabelsRow : OpenClaim := { program := "ytooepkpgffpcjaadoor", sum := "36d3d980224fdd557713a49a1afee961514090d56228ef90f0c81e2103007f9c", func := "aloeswood/aloeswoodlaw01.ChartLabels", spec := "chartLabels", inPlace := ["internal/abi.NoEscape"], named := ["aloeswood/chart.signs"], plainKeys := false, apart := false, laid := [("aloeswood/chart.signs", laid_aloeswood_chart_signs)] }
def ChartLabelsSaid : Prop := chartLabelsRow.holds Tryd.pinned (OpenSpec.ofChange chartLabelsSpec)

/-- ITS FALSE NEIGHBOUR: 'it returns false'. Refute it at one input. -/
def chartLabelsWrong : ChangeSpec := { name := "chartLabels", fn := fun _ => fun
  | [d1, d2] => { results := [.lit (.bool false)], args := [d1, d2] }
  | _ => none }
def ChartLabelsWrongFalsely : Prop := chartLabelsRow.holds Tryd.pinned (OpenSpec.ofChange chartLabelsWrong)

/-- 'aloeswoodlaw01.ChartMetric': WHATEVER THE INPUT: true; the input reads as it did. -/
def chartMetricSpec : ChangeSpec := { name := "chartMetric", fn := fun _ => fun
  | [d] => { results := [.lit (.bool true)], args := [d] }
  | _ => none }
def chartMetricRow : OpenClaim := { program := "ytooepkpgffpcjaadoor", sum := "36d3d980224fdd557713a49a1afee961514090d56228ef90f0c81e2103007f9c", func := "aloeswood/aloeswoodlaw01.ChartMetric", spec := "chartMetric", inPlace := ["internal/abi.NoEscape"], named := ["aloeswood/chart.signs"], plainKeys := false, apart := false, laid := [("aloeswood/chart.signs", laid_aloeswood_chart_signs)] }
def ChartMetricSaid : Prop := chartMetricRow.holds Tryd.pinned (OpenSpec.ofChange chartMetricSpec)

/-- ITS FALSE NEIGHBOUR: 'it returns false'. Refute it at one input. -/
def chartMetricWrong : ChangeSpec := { name := "chartMetric", fn := fun _ => fun
  | [d] => { results := [.lit (.bool false)], args := [d] }
  | _ => none }
def ChartMetricWrongFalsely : Prop := chartMetricRow.holds Tryd.pinned (OpenSpec.ofChange chartMetricWrong)

/-- 'aloeswoodlaw01.ChartChecks': WHATEVER THE INPUT: true; the input reads as it did. -/
def chartChecksSpec : ChangeSpec := { name := "chartChecks", fn := fun _ => fun
  | [d1, d2, d3, d4, d5] => { results := [.lit (.bool true)], args := [d1, d2, d3, d4, d5] }
  | _ => none }
def chartChecksRow : OpenClaim := { program := "ytooepkpgffpcjaadoor", sum := "36d3d980224fdd557713a49a1afee961514090d56228ef90f0c81e2103007f9c", func := "aloeswood/aloeswoodlaw01.ChartChecks", spec := "chartChecks", inPlace := ["internal/abi.NoEscape"], recurses := true, named := ["aloeswood/chart.signs"], plainKeys := false, apart := false, laid := [("aloeswood/chart.signs", laid_aloeswood_chart_signs)] }
def ChartChecksSaid : Prop := chartChecksRow.holds Tryd.pinned (OpenSpec.ofChange chartChecksSpec)

/-- ITS FALSE NEIGHBOUR: 'it returns false'. Refute it at one input. -/
def chartChecksWrong : ChangeSpec := { name := "chartChecks", fn := fun _ => fun
  | [d1, d2, d3, d4, d5] => { results := [.lit (.bool false)], args := [d1, d2, d3, d4, d5] }
  | _ => none }
def ChartChecksWrongFalsely : Prop := chartChecksRow.holds Tryd.pinned (OpenSpec.ofChange chartChecksWrong)

/-- 'aloeswoodlaw01.ChartRanks': WHATEVER THE INPUT: true; the input reads as it did. -/
def chartRanksSpec : ChangeSpec := { name := "chartRanks", fn := fun _ => fun
  | [d1, d2, d3, d4] => { results := [.lit (.bool true)], args := [d1, d2, d3, d4] }
  | _ => none }
def chartRanksRow : OpenClaim := { program := "ytooepkpgffpcjaadoor", sum := "36d3d980224fdd557713a49a1afee961514090d56228ef90f0c81e2103007f9c", func := "aloeswood/aloeswoodlaw01.ChartRanks", spec := "chartRanks", inPlace := ["internal/abi.NoEscape"], unfollowed := true, recurses := true, named := ["aloeswood/chart.signs"], plainKeys := false, apart := false, laid := [("aloeswood/chart.signs", laid_aloeswood_chart_signs)] }
def ChartRanksSaid : Prop := chartRanksRow.holds Tryd.pinned (OpenSpec.ofChange chartRanksSpec)

/-- ITS FALSE NEIGHBOUR: 'it returns false'. Refute it at one input. -/
def chartRanksWrong : ChangeSpec := { name := "chartRanks", fn := fun _ => fun
  | [d1, d2, d3, d4] => { results := [.lit (.bool false)], args := [d1, d2, d3, d4] }
  | _ => none }
def ChartRanksWrongFalsely : Prop := chartRanksRow.holds Tryd.pinned (OpenSpec.ofChange chartRanksWrong)

/-- 'aloeswoodlaw01.ChartLattice': WHATEVER THE INPUT: true; the input reads as it did. -/
def chartLatticeSpec : ChangeSpec := { name := "chartLattice", fn := fun _ => fun
  | [d1, d2, d3] => { results := [.lit (.bool true)], args := [d1, d2, d3] }
  | _ => none }
def chartLatticeRow : OpenClaim := { program := "ytooepkpgffpcjaadoor", sum := "36d3d980224fdd557713a49a1afee961514090d56228ef90f0c81e2103007f9c", func := "aloeswood/aloeswoodlaw01.ChartLattice", spec := "chartLattice", inPlace := ["internal/abi.NoEscape"], named := ["aloeswood/chart.signs"], plainKeys := false, apart := false, laid := [("aloeswood/chart.signs", laid_aloeswood_chart_signs)] }
def ChartLatticeSaid : Prop := chartLatticeRow.holds Tryd.pinned (OpenSpec.ofChange chartLatticeSpec)

/-- ITS FALSE NEIGHBOUR: 'it returns false'. Refute it at one input. -/
def chartLatticeWrong : ChangeSpec := { name := "chartLattice", fn := fun _ => fun
  | [d1, d2, d3] => { results := [.lit (.bool false)], args := [d1, d2, d3] }
  | _ => none }
def ChartLatticeWrongFalsely : Prop := chartLatticeRow.holds Tryd.pinned (OpenSpec.ofChange chartLatticeWrong)

/-- 'aloeswoodlaw01.ChartFiner': WHATEVER THE INPUT: true; the input reads as it did. -/
def chartFinerSpec : ChangeSpec := { name := "chartFiner", fn := fun _ => fun
  | [d] => { results := [.lit (.bool true)], args := [d] }
  | _ => none }
def chartFinerRow : OpenClaim := { program := "ytooepkpgffpcjaadoor", sum := "36d3d980224fdd557713a49a1afee961514090d56228ef90f0c81e2103007f9c", func := "aloeswood/aloeswoodlaw01.ChartFiner", spec := "chartFiner", inPlace := ["internal/abi.NoEscape"], named := ["aloeswood/chart.signs"], plainKeys := false, apart := false, laid := [("aloeswood/chart.signs", laid_aloeswood_chart_signs)] }
def ChartFinerSaid : Prop := chartFinerRow.holds Tryd.pinned (OpenSpec.ofChange chartFinerSpec)

/-- ITS FALSE NEIGHBOUR: 'it returns false'. Refute it at one input. -/
def chartFinerWrong : ChangeSpec := { name := "chartFiner", fn := fun _ => fun
  | [d] => { results := [.lit (.bool false)], args := [d] }
  | _ => none }
def ChartFinerWrongFalsely : Prop := chartFinerRow.holds Tryd.pinned (OpenSpec.ofChange chartFinerWrong)

/-- 'aloeswoodlaw01.ChartAll': WHATEVER THE INPUT: true; the input reads as it did. -/
def chartAllSpec : ChangeSpec := { name := "chartAll", fn := fun _ => fun
  | [d] => { results := [.lit (.bool true)], args := [d] }
  | _ => none }
def chartAllRow : OpenClaim := { program := "ytooepkpgffpcjaadoor", sum := "36d3d980224fdd557713a49a1afee961514090d56228ef90f0c81e2103007f9c", func := "aloeswood/aloeswoodlaw01.ChartAll", spec := "chartAll", inPlace := ["internal/abi.NoEscape"], unfollowed := true, recurses := true, named := ["aloeswood/chart.signs"], plainKeys := false, apart := false, laid := [("aloeswood/chart.signs", laid_aloeswood_chart_signs)] }
def ChartAllSaid : Prop := chartAllRow.holds Tryd.pinned (OpenSpec.ofChange chartAllSpec)

/-- ITS FALSE NEIGHBOUR: 'it returns false'. Refute it at one input. -/
def chartAllWrong : ChangeSpec := { name := "chartAll", fn := fun _ => fun
  | [d] => { results := [.lit (.bool false)], args := [d] }
  | _ => none }
def ChartAllWrongFalsely : Prop := chartAllRow.holds Tryd.pinned (OpenSpec.ofChange chartAllWrong)

/-- 'aloeswoodlaw01.ChartLaws': WHATEVER THE INPUT: true; the input reads as it did. -/
def chartLawsSpec : ChangeSpec := { name := "chartLaws", fn := fun _ => fun
  | [d] => { results := [.lit (.bool true)], args := [d] }
  | _ => none }
def chartLawsRow : OpenClaim := { program := "ytooepkpgffpcjaadoor", sum := "36d3d980224fdd557713a49a1afee961514090d56228ef90f0c81e2103007f9c", func := "aloeswood/aloeswoodlaw01.ChartLaws", spec := "chartLaws", inPlace := ["internal/abi.NoEscape"], named := ["aloeswood/chart.signs"], plainKeys := false, apart := false, laid := [("aloeswood/chart.signs", laid_aloeswood_chart_signs)] }
def ChartLawsSaid : Prop := chartLawsRow.holds Tryd.pinned (OpenSpec.ofChange chartLawsSpec)

/-- ITS FALSE NEIGHBOUR: 'it returns false'. Refute it at one input. -/
def chartLawsWrong : ChangeSpec := { name := "chartLaws", fn := fun _ => fun
  | [d] => { results := [.lit (.bool false)], args := [d] }
  | _ => none }
def ChartLawsWrongFalsely : Prop := chartLawsRow.holds Tryd.pinned (OpenSpec.ofChange chartLawsWrong)

/-- 'aloeswoodlaw01.ChartDraws': WHATEVER THE INPUT: true; the input reads as it did. -/
def chartDrawsSpec : ChangeSpec := { name := "chartDraws", fn := fun _ => fun
  | [d1, d2, d3, d4, d5, d6] => { results := [.lit (.bool true)], args := [d1, d2, d3, d4, d5, d6] }
  | _ => none }
def chartDrawsRow : OpenClaim := { program := "ytooepkpgffpcjaadoor", sum := "36d3d980224fdd557713a49a1afee961514090d56228ef90f0c81e2103007f9c", func := "aloeswood/aloeswoodlaw01.ChartDraws", spec := "chartDraws", inPlace := ["internal/abi.NoEscape", "internal/bytealg.CountString", "internal/bytealg.IndexByteString", "internal/bytealg.IndexString"], unfollowed := true, recurses := true, named := ["aloeswood/chart.signs", "unicode/utf8.first", "unicode/utf8.acceptRanges", "internal/bytealg.MaxLen"], plainKeys := false, apart := false, laid := [("unicode/utf8.acceptRanges", laid_unicode_utf8_acceptRanges), ("aloeswood/chart.signs", laid_aloeswood_chart_signs), ("unicode/utf8.first", laid_unicode_utf8_first)] }
def ChartDrawsSaid : Prop := chartDrawsRow.holds Tryd.pinned (OpenSpec.ofChange chartDrawsSpec)

/-- ITS FALSE NEIGHBOUR: 'it returns false'. Refute it at one input. -/
def chartDrawsWrong : ChangeSpec := { name := "chartDraws", fn := fun _ => fun
  | [d1, d2, d3, d4, d5, d6] => { results := [.lit (.bool false)], args := [d1, d2, d3, d4, d5, d6] }
  | _ => none }
def ChartDrawsWrongFalsely : Prop := chartDrawsRow.holds Tryd.pinned (OpenSpec.ofChange chartDrawsWrong)

/-- 'aloeswoodlaw01.ChartOne': WHATEVER THE INPUT: true; the input reads as it did. -/
def chartOneSpec : ChangeSpec := { name := "chartOne", fn := fun _ => fun
  | [d1, d2, d3, d4] => { results := [.lit (.bool true)], args := [d1, d2, d3, d4] }
  | _ => none }
def chartOneRow : OpenClaim := { program := "ytooepkpgffpcjaadoor", sum := "36d3d980224fdd557713a49a1afee961514090d56228ef90f0c81e2103007f9c", func := "aloeswood/aloeswoodlaw01.ChartOne", spec := "chartOne", inPlace := ["internal/abi.NoEscape", "internal/bytealg.CountString", "internal/bytealg.IndexByteString", "internal/bytealg.IndexString"], unfollowed := true, recurses := true, named := ["aloeswood/chart.signs", "unicode/utf8.first", "unicode/utf8.acceptRanges", "internal/bytealg.MaxLen"], plainKeys := false, apart := false, laid := [("unicode/utf8.acceptRanges", laid_unicode_utf8_acceptRanges), ("aloeswood/chart.signs", laid_aloeswood_chart_signs), ("unicode/utf8.first", laid_unicode_utf8_first)] }
def ChartOneSaid : Prop := chartOneRow.holds Tryd.pinned (OpenSpec.ofChange chartOneSpec)

/-- ITS FALSE NEIGHBOUR: 'it returns false'. Refute it at one input. -/
def chartOneWrong : ChangeSpec := { name := "chartOne", fn := fun _ => fun
  | [d1, d2, d3, d4] => { results := [.lit (.bool false)], args := [d1, d2, d3, d4] }
  | _ => none }
def ChartOneWrongFalsely : Prop := chartOneRow.holds Tryd.pinned (OpenSpec.ofChange chartOneWrong)

/-- 'aloeswoodlaw01.ChartWords': WHATEVER THE INPUT: true; the input reads as it did. -/
def chartWordsSpec : ChangeSpec := { name := "chartWords", fn := fun _ => fun
  | [d1, d2, d3, d4, d5, d6] => { results := [.lit (.bool true)], args := [d1, d2, d3, d4, d5, d6] }
  | _ => none }
def chartWordsRow : OpenClaim := { program := "ytooepkpgffpcjaadoor", sum := "36d3d980224fdd557713a49a1afee961514090d56228ef90f0c81e2103007f9c", func := "aloeswood/aloeswoodlaw01.ChartWords", spec := "chartWords", inPlace := ["internal/abi.NoEscape", "internal/bytealg.IndexByteString", "internal/bytealg.IndexString"], recurses := true, named := ["aloeswood/chart.signs", "unicode/utf8.first", "unicode/utf8.acceptRanges", "internal/bytealg.MaxLen"], plainKeys := false, apart := false, laid := [("unicode/utf8.acceptRanges", laid_unicode_utf8_acceptRanges), ("aloeswood/chart.signs", laid_aloeswood_chart_signs), ("unicode/utf8.first", laid_unicode_utf8_first)] }
def ChartWordsSaid : Prop := chartWordsRow.holds Tryd.pinned (OpenSpec.ofChange chartWordsSpec)

/-- ITS FALSE NEIGHBOUR: 'it returns false'. Refute it at one input. -/
def chartWordsWrong : ChangeSpec := { name := "chartWords", fn := fun _ => fun
  | [d1, d2, d3, d4, d5, d6] => { results := [.lit (.bool false)], args := [d1, d2, d3, d4, d5, d6] }
  | _ => none }
def ChartWordsWrongFalsely : Prop := chartWordsRow.holds Tryd.pinned (OpenSpec.ofChange chartWordsWrong)

/-- 'aloeswoodlaw01.ChartNamed': WHATEVER THE INPUT: true; the input reads as it did. -/
def chartNamedSpec : ChangeSpec := { name := "chartNamed", fn := fun _ => fun
  | [d] => { results := [.lit (.bool true)], args := [d] }
  | _ => none }
def chartNamedRow : OpenClaim := { program := "ytooepkpgffpcjaadoor", sum := "36d3d980224fdd557713a49a1afee961514090d56228ef90f0c81e2103007f9c", func := "aloeswood/aloeswoodlaw01.ChartNamed", spec := "chartNamed", inPlace := ["internal/abi.NoEscape", "internal/bytealg.IndexByteString", "internal/bytealg.IndexString"], recurses := true, named := ["unicode/utf8.first", "unicode/utf8.acceptRanges", "aloeswood/chart.signs", "internal/bytealg.MaxLen"], plainKeys := false, apart := false, laid := [("unicode/utf8.acceptRanges", laid_unicode_utf8_acceptRanges), ("aloeswood/chart.signs", laid_aloeswood_chart_signs), ("unicode/utf8.first", laid_unicode_utf8_first)] }
def ChartNamedSaid : Prop := chartNamedRow.holds Tryd.pinned (OpenSpec.ofChange chartNamedSpec)

/-- ITS FALSE NEIGHBOUR: 'it returns false'. Refute it at one input. -/
def chartNamedWrong : ChangeSpec := { name := "chartNamed", fn := fun _ => fun
  | [d] => { results := [.lit (.bool false)], args := [d] }
  | _ => none }
def ChartNamedWrongFalsely : Prop := chartNamedRow.holds Tryd.pinned (OpenSpec.ofChange chartNamedWrong)

/-- 'aloeswoodlaw01.ChartKnown': WHATEVER THE INPUT: true; the input reads as it did. -/
def chartKnownSpec : ChangeSpec := { name := "chartKnown", fn := fun _ => fun
  | [] => { results := [.lit (.bool true)], args := [] }
  | _ => none }
def chartKnownRow : OpenClaim := { program := "ytooepkpgffpcjaadoor", sum := "36d3d980224fdd557713a49a1afee961514090d56228ef90f0c81e2103007f9c", func := "aloeswood/aloeswoodlaw01.ChartKnown", spec := "chartKnown", inPlace := ["internal/abi.NoEscape", "internal/bytealg.IndexByteString", "internal/bytealg.IndexString"], unfollowed := true, recurses := true, named := ["aloeswood/chart.signs", "unicode/utf8.first", "unicode/utf8.acceptRanges", "internal/bytealg.MaxLen"], plainKeys := false, apart := false, laid := [("unicode/utf8.acceptRanges", laid_unicode_utf8_acceptRanges), ("aloeswood/chart.signs", laid_aloeswood_chart_signs), ("unicode/utf8.first", laid_unicode_utf8_first)] }
def ChartKnownSaid : Prop := chartKnownRow.holds Tryd.pinned (OpenSpec.ofChange chartKnownSpec)

/-- ITS FALSE NEIGHBOUR: 'it returns false'. Refute it at one input. -/
def chartKnownWrong : ChangeSpec := { name := "chartKnown", fn := fun _ => fun
  | [] => { results := [.lit (.bool false)], args := [] }
  | _ => none }
def ChartKnownWrongFalsely : Prop := chartKnownRow.holds Tryd.pinned (OpenSpec.ofChange chartKnownWrong)

/- THE SECOND FORM. 'bulk': how many values and letters a reading holds, each counted each time it is reached (what is shared counts as often as it is met; a slice's spare places count too). A statement '..UptoSaid' is the law's where the arguments, and the package variables that the reading takes, are together of bulk at most 1048576: NARROWER than '..Said'. Prove '..Said' where nothing that the law and all that it calls make is longer than what came in: it says more and counts as full. Else prove '..UptoSaid'. A law counts once. -/
mutual
def uptoBulk {H : Type} : DataW H → Nat
  | .lit (.string bytes) => bytes.length + 1
  | .lit _ => 1
  | .nil => 1
  | .ptr d => uptoBulk d + 1
  | .slice elems spare => uptoBulkAll elems + uptoBulkAll spare + 1
  | .agg parts => uptoBulkAll parts + 1
  | .iface _ d => uptoBulk d + 1
  | .map entries => uptoBulkEntries entries + 1
  | .held _ => 1
def uptoBulkAll {H : Type} : List (DataW H) → Nat
  | [] => 0
  | d :: r => uptoBulk d + uptoBulkAll r
def uptoBulkEntries {H : Type} : List (Lit × DataW H) → Nat
  | [] => 0
  | x :: r => uptoBulkEntry x + uptoBulkEntries r
def uptoBulkEntry {H : Type} : Lit × DataW H → Nat
  | (.string bytes, d) => bytes.length + uptoBulk d + 1
  | (_, d) => uptoBulk d + 1
 end
def uptoSmall : (H : Type) → List (DataW H) → Bool := fun _ ds => decide (uptoBulkAll ds ≤ 1048576)
def OpenSpec.upto (s : _root_.Go.ChangeSpec) : _root_.Go.OpenSpec := { _root_.Go.OpenSpec.ofChange s with cond := some uptoSmall }

/-- 'aloeswoodlaw01.ChartMoves', WHERE WHAT IT READS IS OF BULK AT MOST 1048576: true; the input reads as it did. -/
def chartMovesUptoRow : OpenClaim := { program := "ytooepkpgffpcjaadoor", sum := "36d3d980224fdd557713a49a1afee961514090d56228ef90f0c81e2103007f9c", func := "aloeswood/aloeswoodlaw01.ChartMoves", spec := "chartMoves", inPlace := ["internal/abi.NoEscape"], recurses := true, named := ["aloeswood/chart.signs"], plainKeys := false, apart := false, laid := [("aloeswood/chart.signs", laid_aloeswood_chart_signs)], narrowed := true }
def ChartMovesUptoSaid : Prop := chartMovesUptoRow.holds Tryd.pinned (OpenSpec.upto chartMovesSpec)

/-- 'aloeswoodlaw01.ChartRows', WHERE WHAT IT READS IS OF BULK AT MOST 1048576: true; the input reads as it did. -/
def chartRowsUptoRow : OpenClaim := { program := "ytooepkpgffpcjaadoor", sum := "36d3d980224fdd557713a49a1afee961514090d56228ef90f0c81e2103007f9c", func := "aloeswood/aloeswoodlaw01.ChartRows", spec := "chartRows", inPlace := ["internal/abi.NoEscape"], named := ["aloeswood/chart.signs"], plainKeys := false, apart := false, laid := [("aloeswood/chart.signs", laid_aloeswood_chart_signs)], narrowed := true }
def ChartRowsUptoSaid : Prop := chartRowsUptoRow.holds Tryd.pinned (OpenSpec.upto chartRowsSpec)

/-- 'aloeswoodlaw01.ChartLabels', WHERE WHAT IT READS IS OF BULK AT MOST 1048576: true; the input reads as it did. -/
def chartLabelsUptoRow : OpenClaim := { program := "ytooepkpgffpcjaadoor", sum := "36d3d980224fdd557713a49a1afee961514090d56228ef90f0c81e2103007f9c", func := "aloeswood/aloeswoodlaw01.ChartLabels", spec := "chartLabels", inPlace := ["internal/abi.NoEscape"], named := ["aloeswood/chart.signs"], plainKeys := false, apart := false, laid := [("aloeswood/chart.signs", laid_aloeswood_chart_signs)], narrowed := true }
def ChartLabelsUptoSaid : Prop := chartLabelsUptoRow.holds Tryd.pinned (OpenSpec.upto chartLabelsSpec)

/-- 'aloeswoodlaw01.ChartMetric', WHERE WHAT IT READS IS OF BULK AT MOST 1048576: true; the input reads as it did. -/
def chartMetricUptoRow : OpenClaim := { program := "ytooepkpgffpcjaadoor", sum := "36d3d980224fdd557713a49a1afee961514090d56228ef90f0c81e2103007f9c", func := "aloeswood/aloeswoodlaw01.ChartMetric", spec := "chartMetric", inPlace := ["internal/abi.NoEscape"], named := ["aloeswood/chart.signs"], plainKeys := false, apart := false, laid := [("aloeswood/chart.signs", laid_aloeswood_chart_signs)], narrowed := true }
def ChartMetricUptoSaid : Prop := chartMetricUptoRow.holds Tryd.pinned (OpenSpec.upto chartMetricSpec)

/-- 'aloeswoodlaw01.ChartChecks', WHERE WHAT IT READS IS OF BULK AT MOST 1048576: true; the input reads as it did. -/
def chartChecksUptoRow : OpenClaim := { program := "ytooepkpgffpcjaadoor", sum := "36d3d980224fdd557713a49a1afee961514090d56228ef90f0c81e2103007f9c", func := "aloeswood/aloeswoodlaw01.ChartChecks", spec := "chartChecks", inPlace := ["internal/abi.NoEscape"], recurses := true, named := ["aloeswood/chart.signs"], plainKeys := false, apart := false, laid := [("aloeswood/chart.signs", laid_aloeswood_chart_signs)], narrowed := true }
def ChartChecksUptoSaid : Prop := chartChecksUptoRow.holds Tryd.pinned (OpenSpec.upto chartChecksSpec)

/-- 'aloeswoodlaw01.ChartRanks', WHERE WHAT IT READS IS OF BULK AT MOST 1048576: true; the input reads as it did. -/
def chartRanksUptoRow : OpenClaim := { program := "ytooepkpgffpcjaadoor", sum := "36d3d980224fdd557713a49a1afee961514090d56228ef90f0c81e2103007f9c", func := "aloeswood/aloeswoodlaw01.ChartRanks", spec := "chartRanks", inPlace := ["internal/abi.NoEscape"], unfollowed := true, recurses := true, named := ["aloeswood/chart.signs"], plainKeys := false, apart := false, laid := [("aloeswood/chart.signs", laid_aloeswood_chart_signs)], narrowed := true }
def ChartRanksUptoSaid : Prop := chartRanksUptoRow.holds Tryd.pinned (OpenSpec.upto chartRanksSpec)

/-- 'aloeswoodlaw01.ChartLattice', WHERE WHAT IT READS IS OF BULK AT MOST 1048576: true; the input reads as it did. -/
def chartLatticeUptoRow : OpenClaim := { program := "ytooepkpgffpcjaadoor", sum := "36d3d980224fdd557713a49a1afee961514090d56228ef90f0c81e2103007f9c", func := "aloeswood/aloeswoodlaw01.ChartLattice", spec := "chartLattice", inPlace := ["internal/abi.NoEscape"], named := ["aloeswood/chart.signs"], plainKeys := false, apart := false, laid := [("aloeswood/chart.signs", laid_aloeswood_chart_signs)], narrowed := true }
def ChartLatticeUptoSaid : Prop := chartLatticeUptoRow.holds Tryd.pinned (OpenSpec.upto chartLatticeSpec)

/-- 'aloeswoodlaw01.ChartFiner', WHERE WHAT IT READS IS OF BULK AT MOST 1048576: true; the input reads as it did. -/
def chartFinerUptoRow : OpenClaim := { program := "ytooepkpgffpcjaadoor", sum := "36d3d980224fdd557713a49a1afee961514090d56228ef90f0c81e2103007f9c", func := "aloeswood/aloeswoodlaw01.ChartFiner", spec := "chartFiner", inPlace := ["internal/abi.NoEscape"], named := ["aloeswood/chart.signs"], plainKeys := false, apart := false, laid := [("aloeswood/chart.signs", laid_aloeswood_chart_signs)], narrowed := true }
def ChartFinerUptoSaid : Prop := chartFinerUptoRow.holds Tryd.pinned (OpenSpec.upto chartFinerSpec)

/-- 'aloeswoodlaw01.ChartAll', WHERE WHAT IT READS IS OF BULK AT MOST 1048576: true; the input reads as it did. -/
def chartAllUptoRow : OpenClaim := { program := "ytooepkpgffpcjaadoor", sum := "36d3d980224fdd557713a49a1afee961514090d56228ef90f0c81e2103007f9c", func := "aloeswood/aloeswoodlaw01.ChartAll", spec := "chartAll", inPlace := ["internal/abi.NoEscape"], unfollowed := true, recurses := true, named := ["aloeswood/chart.signs"], plainKeys := false, apart := false, laid := [("aloeswood/chart.signs", laid_aloeswood_chart_signs)], narrowed := true }
def ChartAllUptoSaid : Prop := chartAllUptoRow.holds Tryd.pinned (OpenSpec.upto chartAllSpec)

/-- 'aloeswoodlaw01.ChartLaws', WHERE WHAT IT READS IS OF BULK AT MOST 1048576: true; the input reads as it did. -/
def chartLawsUptoRow : OpenClaim := { program := "ytooepkpgffpcjaadoor", sum := "36d3d980224fdd557713a49a1afee961514090d56228ef90f0c81e2103007f9c", func := "aloeswood/aloeswoodlaw01.ChartLaws", spec := "chartLaws", inPlace := ["internal/abi.NoEscape"], named := ["aloeswood/chart.signs"], plainKeys := false, apart := false, laid := [("aloeswood/chart.signs", laid_aloeswood_chart_signs)], narrowed := true }
def ChartLawsUptoSaid : Prop := chartLawsUptoRow.holds Tryd.pinned (OpenSpec.upto chartLawsSpec)

/-- 'aloeswoodlaw01.ChartDraws', WHERE WHAT IT READS IS OF BULK AT MOST 1048576: true; the input reads as it did. -/
def chartDrawsUptoRow : OpenClaim := { program := "ytooepkpgffpcjaadoor", sum := "36d3d980224fdd557713a49a1afee961514090d56228ef90f0c81e2103007f9c", func := "aloeswood/aloeswoodlaw01.ChartDraws", spec := "chartDraws", inPlace := ["internal/abi.NoEscape", "internal/bytealg.CountString", "internal/bytealg.IndexByteString", "internal/bytealg.IndexString"], unfollowed := true, recurses := true, named := ["aloeswood/chart.signs", "unicode/utf8.first", "unicode/utf8.acceptRanges", "internal/bytealg.MaxLen"], plainKeys := false, apart := false, laid := [("unicode/utf8.acceptRanges", laid_unicode_utf8_acceptRanges), ("aloeswood/chart.signs", laid_aloeswood_chart_signs), ("unicode/utf8.first", laid_unicode_utf8_first)], narrowed := true }
def ChartDrawsUptoSaid : Prop := chartDrawsUptoRow.holds Tryd.pinned (OpenSpec.upto chartDrawsSpec)

/-- 'aloeswoodlaw01.ChartOne', WHERE WHAT IT READS IS OF BULK AT MOST 1048576: true; the input reads as it did. -/
def chartOneUptoRow : OpenClaim := { program := "ytooepkpgffpcjaadoor", sum := "36d3d980224fdd557713a49a1afee961514090d56228ef90f0c81e2103007f9c", func := "aloeswood/aloeswoodlaw01.ChartOne", spec := "chartOne", inPlace := ["internal/abi.NoEscape", "internal/bytealg.CountString", "internal/bytealg.IndexByteString", "internal/bytealg.IndexString"], unfollowed := true, recurses := true, named := ["aloeswood/chart.signs", "unicode/utf8.first", "unicode/utf8.acceptRanges", "internal/bytealg.MaxLen"], plainKeys := false, apart := false, laid := [("unicode/utf8.acceptRanges", laid_unicode_utf8_acceptRanges), ("aloeswood/chart.signs", laid_aloeswood_chart_signs), ("unicode/utf8.first", laid_unicode_utf8_first)], narrowed := true }
def ChartOneUptoSaid : Prop := chartOneUptoRow.holds Tryd.pinned (OpenSpec.upto chartOneSpec)

/-- 'aloeswoodlaw01.ChartWords', WHERE WHAT IT READS IS OF BULK AT MOST 1048576: true; the input reads as it did. -/
def chartWordsUptoRow : OpenClaim := { program := "ytooepkpgffpcjaadoor", sum := "36d3d980224fdd557713a49a1afee961514090d56228ef90f0c81e2103007f9c", func := "aloeswood/aloeswoodlaw01.ChartWords", spec := "chartWords", inPlace := ["internal/abi.NoEscape", "internal/bytealg.IndexByteString", "internal/bytealg.IndexString"], recurses := true, named := ["aloeswood/chart.signs", "unicode/utf8.first", "unicode/utf8.acceptRanges", "internal/bytealg.MaxLen"], plainKeys := false, apart := false, laid := [("unicode/utf8.acceptRanges", laid_unicode_utf8_acceptRanges), ("aloeswood/chart.signs", laid_aloeswood_chart_signs), ("unicode/utf8.first", laid_unicode_utf8_first)], narrowed := true }
def ChartWordsUptoSaid : Prop := chartWordsUptoRow.holds Tryd.pinned (OpenSpec.upto chartWordsSpec)

/-- 'aloeswoodlaw01.ChartNamed', WHERE WHAT IT READS IS OF BULK AT MOST 1048576: true; the input reads as it did. -/
def chartNamedUptoRow : OpenClaim := { program := "ytooepkpgffpcjaadoor", sum := "36d3d980224fdd557713a49a1afee961514090d56228ef90f0c81e2103007f9c", func := "aloeswood/aloeswoodlaw01.ChartNamed", spec := "chartNamed", inPlace := ["internal/abi.NoEscape", "internal/bytealg.IndexByteString", "internal/bytealg.IndexString"], recurses := true, named := ["unicode/utf8.first", "unicode/utf8.acceptRanges", "aloeswood/chart.signs", "internal/bytealg.MaxLen"], plainKeys := false, apart := false, laid := [("unicode/utf8.acceptRanges", laid_unicode_utf8_acceptRanges), ("aloeswood/chart.signs", laid_aloeswood_chart_signs), ("unicode/utf8.first", laid_unicode_utf8_first)], narrowed := true }
def ChartNamedUptoSaid : Prop := chartNamedUptoRow.holds Tryd.pinned (OpenSpec.upto chartNamedSpec)

/-- 'aloeswoodlaw01.ChartKnown', WHERE WHAT IT READS IS OF BULK AT MOST 1048576: true; the input reads as it did. -/
def chartKnownUptoRow : OpenClaim := { program := "ytooepkpgffpcjaadoor", sum := "36d3d980224fdd557713a49a1afee961514090d56228ef90f0c81e2103007f9c", func := "aloeswood/aloeswoodlaw01.ChartKnown", spec := "chartKnown", inPlace := ["internal/abi.NoEscape", "internal/bytealg.IndexByteString", "internal/bytealg.IndexString"], unfollowed := true, recurses := true, named := ["aloeswood/chart.signs", "unicode/utf8.first", "unicode/utf8.acceptRanges", "internal/bytealg.MaxLen"], plainKeys := false, apart := false, laid := [("unicode/utf8.acceptRanges", laid_unicode_utf8_acceptRanges), ("aloeswood/chart.signs", laid_aloeswood_chart_signs), ("unicode/utf8.first", laid_unicode_utf8_first)], narrowed := true }
def ChartKnownUptoSaid : Prop := chartKnownUptoRow.holds Tryd.pinned (OpenSpec.upto chartKnownSpec)

end Rows
end Go.Proofs.YtooepkpgffpcjaaDoor
