/-
  DERIVED. GIVEN WITH THE SEED: THE CARDS: each row of YtooepkpgffpcjaaDoorRows.lean that lists a variable, with what it lists TIED to the program's text (the seventh form; the later family's looks); each row that meets fmt, with fmt's text TOLD by the authors' own Lean function (tested against real Go, not proved from fmt's source: count such statements apart). THE CARD IS WHAT COUNTS. Prove the row's statement (the work); the ties are given (YtooepkpgffpcjaaDoorTie.lean); close each card by the builder's one call (the guide's Derived/Test/ToyasCard.lean, 'card_holds'). Laid BY PROGRAM, IN A SANDBOX (cutbox-door.mjs). By AI agents, Wed Nov 11 2026. No macro, syntax, notation, axiom, sorry.
-/
import Derived.Test.YtooepkpgffpcjaaDoorRows
import GoSem.ClaimSeven
namespace Go.Proofs.YtooepkpgffpcjaaDoor
namespace Rows

/-- THE TIED CARD OF 'aloeswoodlaw01.ChartMoves'. -/
def chartMovesCard : Claim7 := { stood := { row := chartMovesRow, standIns := [], harness := (true, "5961d0f62888aaa78217b28e80a7047ac61560873b92fe3465261809cf5537ae"), looks := false }, kinds := [], alts := [], laidByText := true, laidKinds := [.data], laidTests := true, laidLooks := .later }
def ChartMovesCardSaid : Prop := Claim7.holds Tryd.pinned (.plain (OpenSpec.ofChange chartMovesSpec)) chartMovesCard

/-- THE TIED CARD OF 'aloeswoodlaw01.ChartRows'. -/
def chartRowsCard : Claim7 := { stood := { row := chartRowsRow, standIns := [], harness := (true, "5961d0f62888aaa78217b28e80a7047ac61560873b92fe3465261809cf5537ae"), looks := false }, kinds := [], alts := [], laidByText := true, laidKinds := [.data], laidTests := true, laidLooks := .later }
def ChartRowsCardSaid : Prop := Claim7.holds Tryd.pinned (.plain (OpenSpec.ofChange chartRowsSpec)) chartRowsCard

/-- THE TIED CARD OF 'aloeswoodlaw01.ChartLabels'. -/
def chartLabelsCard : Claim7 := { stood := { row := chartLabelsRow, standIns := [], harness := (true, "5961d0f62888aaa78217b28e80a7047ac61560873b92fe3465261809cf5537ae"), looks := false }, kinds := [], alts := [], laidByText := true, laidKinds := [.data], laidTests := true, laidLooks := .later }
def ChartLabelsCardSaid : Prop := Claim7.holds Tryd.pinned (.plain (OpenSpec.ofChange chartLabelsSpec)) chartLabelsCard

/-- THE TIED CARD OF 'aloeswoodlaw01.ChartMetric'. -/
def chartMetricCard : Claim7 := { stood := { row := chartMetricRow, standIns := [], harness := (true, "5961d0f62888aaa78217b28e80a7047ac61560873b92fe3465261809cf5537ae"), looks := false }, kinds := [], alts := [], laidByText := true, laidKinds := [.data], laidTests := true, laidLooks := .later }
def ChartMetricCardSaid : Prop := Claim7.holds Tryd.pinned (.plain (OpenSpec.ofChange chartMetricSpec)) chartMetricCard

/-- THE TIED CARD OF 'aloeswoodlaw01.ChartChecks'. -/
def chartChecksCard : Claim7 := { stood := { row := chartChecksRow, standIns := [], harness := (true, "5961d0f62888aaa78217b28e80a7047ac61560873b92fe3465261809cf5537ae"), looks := false }, kinds := [], alts := [], laidByText := true, laidKinds := [.data], laidTests := true, laidLooks := .later }
def ChartChecksCardSaid : Prop := Claim7.holds Tryd.pinned (.plain (OpenSpec.ofChange chartChecksSpec)) chartChecksCard

/-- THE TIED CARD OF 'aloeswoodlaw01.ChartRanks'. -/
def chartRanksCard : Claim7 := { stood := { row := chartRanksRow, standIns := [], harness := (true, "5961d0f62888aaa78217b28e80a7047ac61560873b92fe3465261809cf5537ae"), looks := false }, kinds := [], alts := [], laidByText := true, laidKinds := [.data], laidTests := true, laidLooks := .later }
def ChartRanksCardSaid : Prop := Claim7.holds Tryd.pinned (.plain (OpenSpec.ofChange chartRanksSpec)) chartRanksCard

/-- THE TIED CARD OF 'aloeswoodlaw01.ChartLattice'. -/
def chartLatticeCard : Claim7 := { stood := { row := chartLatticeRow, standIns := [], harness := (true, "5961d0f62888aaa78217b28e80a7047ac61560873b92fe3465261809cf5537ae"), looks := false }, kinds := [], alts := [], laidByText := true, laidKinds := [.data], laidTests := true, laidLooks := .later }
def ChartLatticeCardSaid : Prop := Claim7.holds Tryd.pinned (.plain (OpenSpec.ofChange chartLatticeSpec)) chartLatticeCard

/-- THE TIED CARD OF 'aloeswoodlaw01.ChartFiner'. -/
def chartFinerCard : Claim7 := { stood := { row := chartFinerRow, standIns := [], harness := (true, "5961d0f62888aaa78217b28e80a7047ac61560873b92fe3465261809cf5537ae"), looks := false }, kinds := [], alts := [], laidByText := true, laidKinds := [.data], laidTests := true, laidLooks := .later }
def ChartFinerCardSaid : Prop := Claim7.holds Tryd.pinned (.plain (OpenSpec.ofChange chartFinerSpec)) chartFinerCard

/-- THE TIED CARD OF 'aloeswoodlaw01.ChartAll'. -/
def chartAllCard : Claim7 := { stood := { row := chartAllRow, standIns := [], harness := (true, "5961d0f62888aaa78217b28e80a7047ac61560873b92fe3465261809cf5537ae"), looks := false }, kinds := [], alts := [], laidByText := true, laidKinds := [.data], laidTests := true, laidLooks := .later }
def ChartAllCardSaid : Prop := Claim7.holds Tryd.pinned (.plain (OpenSpec.ofChange chartAllSpec)) chartAllCard

/-- THE TIED CARD OF 'aloeswoodlaw01.ChartLaws'. -/
def chartLawsCard : Claim7 := { stood := { row := chartLawsRow, standIns := [], harness := (true, "5961d0f62888aaa78217b28e80a7047ac61560873b92fe3465261809cf5537ae"), looks := false }, kinds := [], alts := [], laidByText := true, laidKinds := [.data], laidTests := true, laidLooks := .later }
def ChartLawsCardSaid : Prop := Claim7.holds Tryd.pinned (.plain (OpenSpec.ofChange chartLawsSpec)) chartLawsCard

/-- THE TIED CARD OF 'aloeswoodlaw01.ChartDraws'. -/
def chartDrawsCard : Claim7 := { stood := { row := chartDrawsRow, standIns := [], harness := (true, "5961d0f62888aaa78217b28e80a7047ac61560873b92fe3465261809cf5537ae"), looks := false }, kinds := [], alts := [], laidByText := true, laidKinds := [.data, .data, .pinned], laidTests := true, laidLooks := .later }
def ChartDrawsCardSaid : Prop := Claim7.holds Tryd.pinned (.plain (OpenSpec.ofChange chartDrawsSpec)) chartDrawsCard

/-- THE TIED CARD OF 'aloeswoodlaw01.ChartOne'. -/
def chartOneCard : Claim7 := { stood := { row := chartOneRow, standIns := [], harness := (true, "5961d0f62888aaa78217b28e80a7047ac61560873b92fe3465261809cf5537ae"), looks := false }, kinds := [], alts := [], laidByText := true, laidKinds := [.data, .data, .pinned], laidTests := true, laidLooks := .later }
def ChartOneCardSaid : Prop := Claim7.holds Tryd.pinned (.plain (OpenSpec.ofChange chartOneSpec)) chartOneCard

/-- THE TIED CARD OF 'aloeswoodlaw01.ChartWords'. -/
def chartWordsCard : Claim7 := { stood := { row := chartWordsRow, standIns := [], harness := (true, "5961d0f62888aaa78217b28e80a7047ac61560873b92fe3465261809cf5537ae"), looks := false }, kinds := [], alts := [], laidByText := true, laidKinds := [.data, .data, .pinned], laidTests := true, laidLooks := .later }
def ChartWordsCardSaid : Prop := Claim7.holds Tryd.pinned (.plain (OpenSpec.ofChange chartWordsSpec)) chartWordsCard

/-- THE TIED CARD OF 'aloeswoodlaw01.ChartNamed'. -/
def chartNamedCard : Claim7 := { stood := { row := chartNamedRow, standIns := [], harness := (true, "5961d0f62888aaa78217b28e80a7047ac61560873b92fe3465261809cf5537ae"), looks := false }, kinds := [], alts := [], laidByText := true, laidKinds := [.data, .data, .pinned], laidTests := true, laidLooks := .later }
def ChartNamedCardSaid : Prop := Claim7.holds Tryd.pinned (.plain (OpenSpec.ofChange chartNamedSpec)) chartNamedCard

/-- THE TIED CARD OF 'aloeswoodlaw01.ChartKnown'. -/
def chartKnownCard : Claim7 := { stood := { row := chartKnownRow, standIns := [], harness := (true, "5961d0f62888aaa78217b28e80a7047ac61560873b92fe3465261809cf5537ae"), looks := false }, kinds := [], alts := [], laidByText := true, laidKinds := [.data, .data, .pinned], laidTests := true, laidLooks := .later }
def ChartKnownCardSaid : Prop := Claim7.holds Tryd.pinned (.plain (OpenSpec.ofChange chartKnownSpec)) chartKnownCard

/-- THE SECOND FORM's CARD OF 'aloeswoodlaw01.ChartMoves'. -/
def chartMovesUptoCard : Claim7 := { stood := { row := chartMovesUptoRow, standIns := [], harness := (true, "5961d0f62888aaa78217b28e80a7047ac61560873b92fe3465261809cf5537ae"), looks := false }, kinds := [], alts := [], laidByText := true, laidKinds := [.data], laidTests := true, laidLooks := .later }
def ChartMovesUptoCardSaid : Prop := Claim7.holds Tryd.pinned (.plain (OpenSpec.upto chartMovesSpec)) chartMovesUptoCard

/-- THE SECOND FORM's CARD OF 'aloeswoodlaw01.ChartRows'. -/
def chartRowsUptoCard : Claim7 := { stood := { row := chartRowsUptoRow, standIns := [], harness := (true, "5961d0f62888aaa78217b28e80a7047ac61560873b92fe3465261809cf5537ae"), looks := false }, kinds := [], alts := [], laidByText := true, laidKinds := [.data], laidTests := true, laidLooks := .later }
def ChartRowsUptoCardSaid : Prop := Claim7.holds Tryd.pinned (.plain (OpenSpec.upto chartRowsSpec)) chartRowsUptoCard

/-- THE SECOND FORM's CARD OF 'aloeswoodlaw01.ChartLabels'. -/
def chartLabelsUptoCard : Claim7 := { stood := { row := chartLabelsUptoRow, standIns := [], harness := (true, "5961d0f62888aaa78217b28e80a7047ac61560873b92fe3465261809cf5537ae"), looks := false }, kinds := [], alts := [], laidByText := true, laidKinds := [.data], laidTests := true, laidLooks := .later }
def ChartLabelsUptoCardSaid : Prop := Claim7.holds Tryd.pinned (.plain (OpenSpec.upto chartLabelsSpec)) chartLabelsUptoCard

/-- THE SECOND FORM's CARD OF 'aloeswoodlaw01.ChartMetric'. -/
def chartMetricUptoCard : Claim7 := { stood := { row := chartMetricUptoRow, standIns := [], harness := (true, "5961d0f62888aaa78217b28e80a7047ac61560873b92fe3465261809cf5537ae"), looks := false }, kinds := [], alts := [], laidByText := true, laidKinds := [.data], laidTests := true, laidLooks := .later }
def ChartMetricUptoCardSaid : Prop := Claim7.holds Tryd.pinned (.plain (OpenSpec.upto chartMetricSpec)) chartMetricUptoCard

/-- THE SECOND FORM's CARD OF 'aloeswoodlaw01.ChartChecks'. -/
def chartChecksUptoCard : Claim7 := { stood := { row := chartChecksUptoRow, standIns := [], harness := (true, "5961d0f62888aaa78217b28e80a7047ac61560873b92fe3465261809cf5537ae"), looks := false }, kinds := [], alts := [], laidByText := true, laidKinds := [.data], laidTests := true, laidLooks := .later }
def ChartChecksUptoCardSaid : Prop := Claim7.holds Tryd.pinned (.plain (OpenSpec.upto chartChecksSpec)) chartChecksUptoCard

/-- THE SECOND FORM's CARD OF 'aloeswoodlaw01.ChartRanks'. -/
def chartRanksUptoCard : Claim7 := { stood := { row := chartRanksUptoRow, standIns := [], harness := (true, "5961d0f62888aaa78217b28e80a7047ac61560873b92fe3465261809cf5537ae"), looks := false }, kinds := [], alts := [], laidByText := true, laidKinds := [.data], laidTests := true, laidLooks := .later }
def ChartRanksUptoCardSaid : Prop := Claim7.holds Tryd.pinned (.plain (OpenSpec.upto chartRanksSpec)) chartRanksUptoCard

/-- THE SECOND FORM's CARD OF 'aloeswoodlaw01.ChartLattice'. -/
def chartLatticeUptoCard : Claim7 := { stood := { row := chartLatticeUptoRow, standIns := [], harness := (true, "5961d0f62888aaa78217b28e80a7047ac61560873b92fe3465261809cf5537ae"), looks := false }, kinds := [], alts := [], laidByText := true, laidKinds := [.data], laidTests := true, laidLooks := .later }
def ChartLatticeUptoCardSaid : Prop := Claim7.holds Tryd.pinned (.plain (OpenSpec.upto chartLatticeSpec)) chartLatticeUptoCard

/-- THE SECOND FORM's CARD OF 'aloeswoodlaw01.ChartFiner'. -/
def chartFinerUptoCard : Claim7 := { stood := { row := chartFinerUptoRow, standIns := [], harness := (true, "5961d0f62888aaa78217b28e80a7047ac61560873b92fe3465261809cf5537ae"), looks := false }, kinds := [], alts := [], laidByText := true, laidKinds := [.data], laidTests := true, laidLooks := .later }
def ChartFinerUptoCardSaid : Prop := Claim7.holds Tryd.pinned (.plain (OpenSpec.upto chartFinerSpec)) chartFinerUptoCard

/-- THE SECOND FORM's CARD OF 'aloeswoodlaw01.ChartAll'. -/
def chartAllUptoCard : Claim7 := { stood := { row := chartAllUptoRow, standIns := [], harness := (true, "5961d0f62888aaa78217b28e80a7047ac61560873b92fe3465261809cf5537ae"), looks := false }, kinds := [], alts := [], laidByText := true, laidKinds := [.data], laidTests := true, laidLooks := .later }
def ChartAllUptoCardSaid : Prop := Claim7.holds Tryd.pinned (.plain (OpenSpec.upto chartAllSpec)) chartAllUptoCard

/-- THE SECOND FORM's CARD OF 'aloeswoodlaw01.ChartLaws'. -/
def chartLawsUptoCard : Claim7 := { stood := { row := chartLawsUptoRow, standIns := [], harness := (true, "5961d0f62888aaa78217b28e80a7047ac61560873b92fe3465261809cf5537ae"), looks := false }, kinds := [], alts := [], laidByText := true, laidKinds := [.data], laidTests := true, laidLooks := .later }
def ChartLawsUptoCardSaid : Prop := Claim7.holds Tryd.pinned (.plain (OpenSpec.upto chartLawsSpec)) chartLawsUptoCard

/-- THE SECOND FORM's CARD OF 'aloeswoodlaw01.ChartDraws'. -/
def chartDrawsUptoCard : Claim7 := { stood := { row := chartDrawsUptoRow, standIns := [], harness := (true, "5961d0f62888aaa78217b28e80a7047ac61560873b92fe3465261809cf5537ae"), looks := false }, kinds := [], alts := [], laidByText := true, laidKinds := [.data, .data, .pinned], laidTests := true, laidLooks := .later }
def ChartDrawsUptoCardSaid : Prop := Claim7.holds Tryd.pinned (.plain (OpenSpec.upto chartDrawsSpec)) chartDrawsUptoCard

/-- THE SECOND FORM's CARD OF 'aloeswoodlaw01.ChartOne'. -/
def chartOneUptoCard : Claim7 := { stood := { row := chartOneUptoRow, standIns := [], harness := (true, "5961d0f62888aaa78217b28e80a7047ac61560873b92fe3465261809cf5537ae"), looks := false }, kinds := [], alts := [], laidByText := true, laidKinds := [.data, .data, .pinned], laidTests := true, laidLooks := .later }
def ChartOneUptoCardSaid : Prop := Claim7.holds Tryd.pinned (.plain (OpenSpec.upto chartOneSpec)) chartOneUptoCard

/-- THE SECOND FORM's CARD OF 'aloeswoodlaw01.ChartWords'. -/
def chartWordsUptoCard : Claim7 := { stood := { row := chartWordsUptoRow, standIns := [], harness := (true, "5961d0f62888aaa78217b28e80a7047ac61560873b92fe3465261809cf5537ae"), looks := false }, kinds := [], alts := [], laidByText := true, laidKinds := [.data, .data, .pinned], laidTests := true, laidLooks := .later }
def ChartWordsUptoCardSaid : Prop := Claim7.holds Tryd.pinned (.plain (OpenSpec.upto chartWordsSpec)) chartWordsUptoCard

/-- THE SECOND FORM's CARD OF 'aloeswoodlaw01.ChartNamed'. -/
def chartNamedUptoCard : Claim7 := { stood := { row := chartNamedUptoRow, standIns := [], harness := (true, "5961d0f62888aaa78217b28e80a7047ac61560873b92fe3465261809cf5537ae"), looks := false }, kinds := [], alts := [], laidByText := true, laidKinds := [.data, .data, .pinned], laidTests := true, laidLooks := .later }
def ChartNamedUptoCardSaid : Prop := Claim7.holds Tryd.pinned (.plain (OpenSpec.upto chartNamedSpec)) chartNamedUptoCard

/-- THE SECOND FORM's CARD OF 'aloeswoodlaw01.ChartKnown'. -/
def chartKnownUptoCard : Claim7 := { stood := { row := chartKnownUptoRow, standIns := [], harness := (true, "5961d0f62888aaa78217b28e80a7047ac61560873b92fe3465261809cf5537ae"), looks := false }, kinds := [], alts := [], laidByText := true, laidKinds := [.data, .data, .pinned], laidTests := true, laidLooks := .later }
def ChartKnownUptoCardSaid : Prop := Claim7.holds Tryd.pinned (.plain (OpenSpec.upto chartKnownSpec)) chartKnownUptoCard
end Rows
end Go.Proofs.YtooepkpgffpcjaaDoor
