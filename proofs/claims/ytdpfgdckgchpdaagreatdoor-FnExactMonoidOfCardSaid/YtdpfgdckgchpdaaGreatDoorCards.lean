/-
  DERIVED. GIVEN WITH THE SEED: THE CARDS: each row of YtdpfgdckgchpdaaGreatDoorRows.lean that lists a variable, with what it lists TIED to the program's text (the seventh form; the later family's looks); each row that meets fmt, with fmt's text TOLD by the authors' own Lean function (tested against real Go, not proved from fmt's source: count such statements apart). THE CARD IS WHAT COUNTS. Prove the row's statement (the work); the ties are given (YtdpfgdckgchpdaaGreatDoorTie.lean); close each card by the builder's one call (the guide's Derived/Test/ToyasCard.lean, 'card_holds'). Laid BY PROGRAM, IN A SANDBOX (cutbox-door.mjs). By AI agents, Wed Nov 11 2026. No macro, syntax, notation, axiom, sorry.
-/
import Derived.Test.YtdpfgdckgchpdaaGreatDoorRows
import GoSem.ClaimSeven
namespace Go.Proofs.YtdpfgdckgchpdaaGreatDoor
namespace Rows

/-- THE TIED CARD OF 'laws.FnExactSystemLine'. -/
def fnExactSystemLineCard : Claim7 := { stood := { row := fnExactSystemLineRow, standIns := [], harness := (true, "00565f23f81ca7739f6ae0cb00e5b15749cae2239301be8a63af8894a477114d"), looks := false }, kinds := [], alts := [], laidByText := true, laidKinds := [.data, .data, .data], laidTests := true, laidLooks := .later }
def FnExactSystemLineCardSaid : Prop := Claim7.holds Tryz.pinned (.plain (OpenSpec.ofChange fnExactSystemLineSpec)) fnExactSystemLineCard

/-- THE TIED CARD OF 'laws.FnExactMonoidOf'. -/
def fnExactMonoidOfCard : Claim7 := { stood := { row := fnExactMonoidOfRow, standIns := [], harness := (true, "00565f23f81ca7739f6ae0cb00e5b15749cae2239301be8a63af8894a477114d"), looks := false }, kinds := [], alts := [], laidByText := true, laidKinds := [.data, .data, .data], laidTests := true, laidLooks := .later }
def FnExactMonoidOfCardSaid : Prop := Claim7.holds Tryz.pinned (.plain (OpenSpec.ofChange fnExactMonoidOfSpec)) fnExactMonoidOfCard

/-- THE TIED CARD OF 'laws.FnExactCompleteLine'. -/
def fnExactCompleteLineCard : Claim7 := { stood := { row := fnExactCompleteLineRow, standIns := [], harness := (true, "00565f23f81ca7739f6ae0cb00e5b15749cae2239301be8a63af8894a477114d"), looks := false }, kinds := [], alts := [], laidByText := true, laidKinds := [.data, .data, .data], laidTests := true, laidLooks := .later }
def FnExactCompleteLineCardSaid : Prop := Claim7.holds Tryz.pinned (.plain (OpenSpec.ofChange fnExactCompleteLineSpec)) fnExactCompleteLineCard

/-- THE TIED CARD OF 'laws.FnPairs'. -/
def fnPairsCard : Claim7 := { stood := { row := fnPairsRow, standIns := [], harness := (true, "00565f23f81ca7739f6ae0cb00e5b15749cae2239301be8a63af8894a477114d"), looks := false }, kinds := [], alts := [], laidByText := true, laidKinds := [.data, .data, .data], laidTests := true, laidLooks := .later }
def FnPairsCardSaid : Prop := Claim7.holds Tryz.pinned (.plain (OpenSpec.ofChange fnPairsSpec)) fnPairsCard

/-- THE TIED CARD OF 'laws.FnReports'. -/
def fnReportsCard : Claim7 := { stood := { row := fnReportsRow, standIns := [], harness := (true, "00565f23f81ca7739f6ae0cb00e5b15749cae2239301be8a63af8894a477114d"), looks := false }, kinds := [], alts := [], laidByText := true, laidKinds := [.data, .data, .data], laidTests := true, laidLooks := .later }
def FnReportsCardSaid : Prop := Claim7.holds Tryz.pinned (.plain (OpenSpec.ofChange fnReportsSpec)) fnReportsCard

/-- THE TIED CARD OF 'laws.FnCompletion'. -/
def fnCompletionCard : Claim7 := { stood := { row := fnCompletionRow, standIns := [], harness := (true, "00565f23f81ca7739f6ae0cb00e5b15749cae2239301be8a63af8894a477114d"), looks := false }, kinds := [], alts := [], laidByText := true, laidKinds := [.data, .data, .data], laidTests := true, laidLooks := .later }
def FnCompletionCardSaid : Prop := Claim7.holds Tryz.pinned (.plain (OpenSpec.ofChange fnCompletionSpec)) fnCompletionCard

/-- THE SECOND FORM's CARD OF 'laws.FnExactSystemLine'. -/
def fnExactSystemLineUptoCard : Claim7 := { stood := { row := fnExactSystemLineUptoRow, standIns := [], harness := (true, "00565f23f81ca7739f6ae0cb00e5b15749cae2239301be8a63af8894a477114d"), looks := false }, kinds := [], alts := [], laidByText := true, laidKinds := [.data, .data, .data], laidTests := true, laidLooks := .later }
def FnExactSystemLineUptoCardSaid : Prop := Claim7.holds Tryz.pinned (.plain (OpenSpec.upto fnExactSystemLineSpec)) fnExactSystemLineUptoCard

/-- THE SECOND FORM's CARD OF 'laws.FnExactMonoidOf'. -/
def fnExactMonoidOfUptoCard : Claim7 := { stood := { row := fnExactMonoidOfUptoRow, standIns := [], harness := (true, "00565f23f81ca7739f6ae0cb00e5b15749cae2239301be8a63af8894a477114d"), looks := false }, kinds := [], alts := [], laidByText := true, laidKinds := [.data, .data, .data], laidTests := true, laidLooks := .later }
def FnExactMonoidOfUptoCardSaid : Prop := Claim7.holds Tryz.pinned (.plain (OpenSpec.upto fnExactMonoidOfSpec)) fnExactMonoidOfUptoCard

/-- THE SECOND FORM's CARD OF 'laws.FnExactCompleteLine'. -/
def fnExactCompleteLineUptoCard : Claim7 := { stood := { row := fnExactCompleteLineUptoRow, standIns := [], harness := (true, "00565f23f81ca7739f6ae0cb00e5b15749cae2239301be8a63af8894a477114d"), looks := false }, kinds := [], alts := [], laidByText := true, laidKinds := [.data, .data, .data], laidTests := true, laidLooks := .later }
def FnExactCompleteLineUptoCardSaid : Prop := Claim7.holds Tryz.pinned (.plain (OpenSpec.upto fnExactCompleteLineSpec)) fnExactCompleteLineUptoCard

/-- THE SECOND FORM's CARD OF 'laws.FnPairs'. -/
def fnPairsUptoCard : Claim7 := { stood := { row := fnPairsUptoRow, standIns := [], harness := (true, "00565f23f81ca7739f6ae0cb00e5b15749cae2239301be8a63af8894a477114d"), looks := false }, kinds := [], alts := [], laidByText := true, laidKinds := [.data, .data, .data], laidTests := true, laidLooks := .later }
def FnPairsUptoCardSaid : Prop := Claim7.holds Tryz.pinned (.plain (OpenSpec.upto fnPairsSpec)) fnPairsUptoCard

/-- THE SECOND FORM's CARD OF 'laws.FnReports'. -/
def fnReportsUptoCard : Claim7 := { stood := { row := fnReportsUptoRow, standIns := [], harness := (true, "00565f23f81ca7739f6ae0cb00e5b15749cae2239301be8a63af8894a477114d"), looks := false }, kinds := [], alts := [], laidByText := true, laidKinds := [.data, .data, .data], laidTests := true, laidLooks := .later }
def FnReportsUptoCardSaid : Prop := Claim7.holds Tryz.pinned (.plain (OpenSpec.upto fnReportsSpec)) fnReportsUptoCard

/-- THE SECOND FORM's CARD OF 'laws.FnCompletion'. -/
def fnCompletionUptoCard : Claim7 := { stood := { row := fnCompletionUptoRow, standIns := [], harness := (true, "00565f23f81ca7739f6ae0cb00e5b15749cae2239301be8a63af8894a477114d"), looks := false }, kinds := [], alts := [], laidByText := true, laidKinds := [.data, .data, .data], laidTests := true, laidLooks := .later }
def FnCompletionUptoCardSaid : Prop := Claim7.holds Tryz.pinned (.plain (OpenSpec.upto fnCompletionSpec)) fnCompletionUptoCard
end Rows
end Go.Proofs.YtdpfgdckgchpdaaGreatDoor
