/-
  DERIVED. GIVEN WITH THE SEED: THE CARDS: each row of YtgoeadgpbidgiaaGreatDoorRows.lean that lists a variable, with what it lists TIED to the program's text (the seventh form; the later family's looks); each row that meets fmt, with fmt's text TOLD by the authors' own Lean function (tested against real Go, not proved from fmt's source: count such statements apart). THE CARD IS WHAT COUNTS. Prove the row's statement (the work); the ties are given (YtgoeadgpbidgiaaGreatDoorTie.lean); close each card by the builder's one call (the guide's Derived/Test/ToyasCard.lean, 'card_holds'). Laid BY PROGRAM, IN A SANDBOX (cutbox-door.mjs). By AI agents, Wed Nov 11 2026. No macro, syntax, notation, axiom, sorry.
-/
import Derived.Test.YtgoeadgpbidgiaaGreatDoorRows
import GoSem.ClaimSeven
namespace Go.Proofs.YtgoeadgpbidgiaaGreatDoor
namespace Rows

/-- THE TIED CARD OF 'laws.FnExactCompleteLine'. -/
def fnExactCompleteLineCard : Claim7 := { stood := { row := fnExactCompleteLineRow, standIns := [], harness := (true, "c1ec443601b15ba1e16138eb6a85af96c7ec492aca355bb50602483afd159751"), looks := false }, kinds := [], alts := [], laidByText := true, laidKinds := [.data, .data, .data], laidTests := true, laidLooks := .later }
def FnExactCompleteLineCardSaid : Prop := Claim7.holds Tryz.pinned (.plain (OpenSpec.ofChange fnExactCompleteLineSpec)) fnExactCompleteLineCard

/-- THE TIED CARD OF 'laws.FnCompletion'. -/
def fnCompletionCard : Claim7 := { stood := { row := fnCompletionRow, standIns := [], harness := (true, "c1ec443601b15ba1e16138eb6a85af96c7ec492aca355bb50602483afd159751"), looks := false }, kinds := [], alts := [], laidByText := true, laidKinds := [.data, .data, .data], laidTests := true, laidLooks := .later }
def FnCompletionCardSaid : Prop := Claim7.holds Tryz.pinned (.plain (OpenSpec.ofChange fnCompletionSpec)) fnCompletionCard

/-- THE TIED CARD OF 'laws.FnMonoids'. -/
def fnMonoidsCard : Claim7 := { stood := { row := fnMonoidsRow, standIns := [], harness := (true, "c1ec443601b15ba1e16138eb6a85af96c7ec492aca355bb50602483afd159751"), looks := false }, kinds := [], alts := [], laidByText := true, laidKinds := [.data, .data, .data], laidTests := true, laidLooks := .later }
def FnMonoidsCardSaid : Prop := Claim7.holds Tryz.pinned (.plain (OpenSpec.ofChange fnMonoidsSpec)) fnMonoidsCard

/-- THE SECOND FORM's CARD OF 'laws.FnExactCompleteLine'. -/
def fnExactCompleteLineUptoCard : Claim7 := { stood := { row := fnExactCompleteLineUptoRow, standIns := [], harness := (true, "c1ec443601b15ba1e16138eb6a85af96c7ec492aca355bb50602483afd159751"), looks := false }, kinds := [], alts := [], laidByText := true, laidKinds := [.data, .data, .data], laidTests := true, laidLooks := .later }
def FnExactCompleteLineUptoCardSaid : Prop := Claim7.holds Tryz.pinned (.plain (OpenSpec.upto fnExactCompleteLineSpec)) fnExactCompleteLineUptoCard

/-- THE SECOND FORM's CARD OF 'laws.FnCompletion'. -/
def fnCompletionUptoCard : Claim7 := { stood := { row := fnCompletionUptoRow, standIns := [], harness := (true, "c1ec443601b15ba1e16138eb6a85af96c7ec492aca355bb50602483afd159751"), looks := false }, kinds := [], alts := [], laidByText := true, laidKinds := [.data, .data, .data], laidTests := true, laidLooks := .later }
def FnCompletionUptoCardSaid : Prop := Claim7.holds Tryz.pinned (.plain (OpenSpec.upto fnCompletionSpec)) fnCompletionUptoCard

/-- THE SECOND FORM's CARD OF 'laws.FnMonoids'. -/
def fnMonoidsUptoCard : Claim7 := { stood := { row := fnMonoidsUptoRow, standIns := [], harness := (true, "c1ec443601b15ba1e16138eb6a85af96c7ec492aca355bb50602483afd159751"), looks := false }, kinds := [], alts := [], laidByText := true, laidKinds := [.data, .data, .data], laidTests := true, laidLooks := .later }
def FnMonoidsUptoCardSaid : Prop := Claim7.holds Tryz.pinned (.plain (OpenSpec.upto fnMonoidsSpec)) fnMonoidsUptoCard
end Rows
end Go.Proofs.YtgoeadgpbidgiaaGreatDoor
