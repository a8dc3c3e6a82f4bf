/-
  DERIVED. GIVEN WITH THE SEED: THE CARDS: each row of YtggfhephdcnpcaaGreatDoorRows.lean that lists a variable, with what it lists TIED to the program's text (the seventh form; the later family's looks); each row that meets fmt, with fmt's text TOLD by the authors' own Lean function (tested against real Go, not proved from fmt's source: count such statements apart). THE CARD IS WHAT COUNTS. Prove the row's statement (the work); the ties are given (YtggfhephdcnpcaaGreatDoorTie.lean); close each card by the builder's one call (the guide's Derived/Test/ToyasCard.lean, 'card_holds'). Laid BY PROGRAM, IN A SANDBOX (cutbox-door.mjs). By AI agents, Wed Nov 11 2026. No macro, syntax, notation, axiom, sorry.
-/
import Derived.Test.YtggfhephdcnpcaaGreatDoorRows
import GoSem.ClaimSeven
namespace Go.Proofs.YtggfhephdcnpcaaGreatDoor
namespace Rows

/-- THE TIED CARD OF 'laws.FnExactMonoidLine'. -/
def fnExactMonoidLineCard : Claim7 := { stood := { row := fnExactMonoidLineRow, standIns := [], harness := (true, "3a7684dbcb583f2699c6f63b10780ea182b09cc284dd1fd6b821e3290462aec4"), looks := false }, kinds := [], alts := [], laidByText := true, laidKinds := [.data, .data, .data], laidTests := true, laidLooks := .later }
def FnExactMonoidLineCardSaid : Prop := Claim7.holds Tryz.pinned (.plain (OpenSpec.ofChange fnExactMonoidLineSpec)) fnExactMonoidLineCard

/-- THE TIED CARD OF 'laws.FnExactIsFaithful'. -/
def fnExactIsFaithfulCard : Claim7 := { stood := { row := fnExactIsFaithfulRow, standIns := [], harness := (true, "3a7684dbcb583f2699c6f63b10780ea182b09cc284dd1fd6b821e3290462aec4"), looks := false }, kinds := [], alts := [], laidByText := true, laidKinds := [.data, .data, .data], laidTests := true, laidLooks := .later }
def FnExactIsFaithfulCardSaid : Prop := Claim7.holds Tryz.pinned (.plain (OpenSpec.ofChange fnExactIsFaithfulSpec)) fnExactIsFaithfulCard

/-- THE TIED CARD OF 'laws.FnExactCompleteLine'. -/
def fnExactCompleteLineCard : Claim7 := { stood := { row := fnExactCompleteLineRow, standIns := [], harness := (true, "3a7684dbcb583f2699c6f63b10780ea182b09cc284dd1fd6b821e3290462aec4"), looks := false }, kinds := [], alts := [], laidByText := true, laidKinds := [.data, .data, .data], laidTests := true, laidLooks := .later }
def FnExactCompleteLineCardSaid : Prop := Claim7.holds Tryz.pinned (.plain (OpenSpec.ofChange fnExactCompleteLineSpec)) fnExactCompleteLineCard

/-- THE TIED CARD OF 'laws.FnPairs'. -/
def fnPairsCard : Claim7 := { stood := { row := fnPairsRow, standIns := [], harness := (true, "3a7684dbcb583f2699c6f63b10780ea182b09cc284dd1fd6b821e3290462aec4"), looks := false }, kinds := [], alts := [], laidByText := true, laidKinds := [.data, .data, .data], laidTests := true, laidLooks := .later }
def FnPairsCardSaid : Prop := Claim7.holds Tryz.pinned (.plain (OpenSpec.ofChange fnPairsSpec)) fnPairsCard

/-- THE TIED CARD OF 'laws.FnReports'. -/
def fnReportsCard : Claim7 := { stood := { row := fnReportsRow, standIns := [], harness := (true, "3a7684dbcb583f2699c6f63b10780ea182b09cc284dd1fd6b821e3290462aec4"), looks := false }, kinds := [], alts := [], laidByText := true, laidKinds := [.data, .data, .data], laidTests := true, laidLooks := .later }
def FnReportsCardSaid : Prop := Claim7.holds Tryz.pinned (.plain (OpenSpec.ofChange fnReportsSpec)) fnReportsCard

/-- THE TIED CARD OF 'laws.FnCompletion'. -/
def fnCompletionCard : Claim7 := { stood := { row := fnCompletionRow, standIns := [], harness := (true, "3a7684dbcb583f2699c6f63b10780ea182b09cc284dd1fd6b821e3290462aec4"), looks := false }, kinds := [], alts := [], laidByText := true, laidKinds := [.data, .data, .data], laidTests := true, laidLooks := .later }
def FnCompletionCardSaid : Prop := Claim7.holds Tryz.pinned (.plain (OpenSpec.ofChange fnCompletionSpec)) fnCompletionCard

/-- THE SECOND FORM's CARD OF 'laws.FnExactMonoidLine'. -/
def fnExactMonoidLineUptoCard : Claim7 := { stood := { row := fnExactMonoidLineUptoRow, standIns := [], harness := (true, "3a7684dbcb583f2699c6f63b10780ea182b09cc284dd1fd6b821e3290462aec4"), looks := false }, kinds := [], alts := [], laidByText := true, laidKinds := [.data, .data, .data], laidTests := true, laidLooks := .later }
def FnExactMonoidLineUptoCardSaid : Prop := Claim7.holds Tryz.pinned (.plain (OpenSpec.upto fnExactMonoidLineSpec)) fnExactMonoidLineUptoCard

/-- THE SECOND FORM's CARD OF 'laws.FnExactIsFaithful'. -/
def fnExactIsFaithfulUptoCard : Claim7 := { stood := { row := fnExactIsFaithfulUptoRow, standIns := [], harness := (true, "3a7684dbcb583f2699c6f63b10780ea182b09cc284dd1fd6b821e3290462aec4"), looks := false }, kinds := [], alts := [], laidByText := true, laidKinds := [.data, .data, .data], laidTests := true, laidLooks := .later }
def FnExactIsFaithfulUptoCardSaid : Prop := Claim7.holds Tryz.pinned (.plain (OpenSpec.upto fnExactIsFaithfulSpec)) fnExactIsFaithfulUptoCard

/-- THE SECOND FORM's CARD OF 'laws.FnExactCompleteLine'. -/
def fnExactCompleteLineUptoCard : Claim7 := { stood := { row := fnExactCompleteLineUptoRow, standIns := [], harness := (true, "3a7684dbcb583f2699c6f63b10780ea182b09cc284dd1fd6b821e3290462aec4"), looks := false }, kinds := [], alts := [], laidByText := true, laidKinds := [.data, .data, .data], laidTests := true, laidLooks := .later }
def FnExactCompleteLineUptoCardSaid : Prop := Claim7.holds Tryz.pinned (.plain (OpenSpec.upto fnExactCompleteLineSpec)) fnExactCompleteLineUptoCard

/-- THE SECOND FORM's CARD OF 'laws.FnPairs'. -/
def fnPairsUptoCard : Claim7 := { stood := { row := fnPairsUptoRow, standIns := [], harness := (true, "3a7684dbcb583f2699c6f63b10780ea182b09cc284dd1fd6b821e3290462aec4"), looks := false }, kinds := [], alts := [], laidByText := true, laidKinds := [.data, .data, .data], laidTests := true, laidLooks := .later }
def FnPairsUptoCardSaid : Prop := Claim7.holds Tryz.pinned (.plain (OpenSpec.upto fnPairsSpec)) fnPairsUptoCard

/-- THE SECOND FORM's CARD OF 'laws.FnReports'. -/
def fnReportsUptoCard : Claim7 := { stood := { row := fnReportsUptoRow, standIns := [], harness := (true, "3a7684dbcb583f2699c6f63b10780ea182b09cc284dd1fd6b821e3290462aec4"), looks := false }, kinds := [], alts := [], laidByText := true, laidKinds := [.data, .data, .data], laidTests := true, laidLooks := .later }
def FnReportsUptoCardSaid : Prop := Claim7.holds Tryz.pinned (.plain (OpenSpec.upto fnReportsSpec)) fnReportsUptoCard

/-- THE SECOND FORM's CARD OF 'laws.FnCompletion'. -/
def fnCompletionUptoCard : Claim7 := { stood := { row := fnCompletionUptoRow, standIns := [], harness := (true, "3a7684dbcb583f2699c6f63b10780ea182b09cc284dd1fd6b821e3290462aec4"), looks := false }, kinds := [], alts := [], laidByText := true, laidKinds := [.data, .data, .data], laidTests := true, laidLooks := .later }
def FnCompletionUptoCardSaid : Prop := Claim7.holds Tryz.pinned (.plain (OpenSpec.upto fnCompletionSpec)) fnCompletionUptoCard
end Rows
end Go.Proofs.YtggfhephdcnpcaaGreatDoor
