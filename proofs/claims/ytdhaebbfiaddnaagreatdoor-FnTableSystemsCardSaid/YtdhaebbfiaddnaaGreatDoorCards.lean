/-
  DERIVED. GIVEN WITH THE SEED: THE CARDS: each row of YtdhaebbfiaddnaaGreatDoorRows.lean that lists a variable, with what it lists TIED to the program's text (the seventh form; the later family's looks); each row that meets fmt, with fmt's text TOLD by the authors' own Lean function (tested against real Go, not proved from fmt's source: count such statements apart). THE CARD IS WHAT COUNTS. Prove the row's statement (the work); the ties are given (YtdhaebbfiaddnaaGreatDoorTie.lean); close each card by the builder's one call (the guide's Derived/Test/ToyasCard.lean, 'card_holds'). Laid BY PROGRAM, IN A SANDBOX (cutbox-door.mjs). By AI agents, Wed Nov 11 2026. No macro, syntax, notation, axiom, sorry.
-/
import Derived.Test.YtdhaebbfiaddnaaGreatDoorRows
import GoSem.ClaimSeven
namespace Go.Proofs.YtdhaebbfiaddnaaGreatDoor
namespace Rows

/-- THE TIED CARD OF 'laws.FnPairs'. -/
def fnPairsCard : Claim7 := { stood := { row := fnPairsRow, standIns := [], harness := (true, "ac59f0413169a81ea2b72a0f3e8c110ff1de9675cd288bc8653110e8d77400d4"), looks := false }, kinds := [], alts := [], laidByText := true, laidKinds := [.data, .data, .data], laidTests := true, laidLooks := .later }
def FnPairsCardSaid : Prop := Claim7.holds Tryz.pinned (.plain (OpenSpec.ofChange fnPairsSpec)) fnPairsCard

/-- THE TIED CARD OF 'laws.FnReports'. -/
def fnReportsCard : Claim7 := { stood := { row := fnReportsRow, standIns := [], harness := (true, "ac59f0413169a81ea2b72a0f3e8c110ff1de9675cd288bc8653110e8d77400d4"), looks := false }, kinds := [], alts := [], laidByText := true, laidKinds := [.data, .data, .data], laidTests := true, laidLooks := .later }
def FnReportsCardSaid : Prop := Claim7.holds Tryz.pinned (.plain (OpenSpec.ofChange fnReportsSpec)) fnReportsCard

/-- THE TIED CARD OF 'laws.FnTableSystems'. -/
def fnTableSystemsCard : Claim7 := { stood := { row := fnTableSystemsRow, standIns := [], harness := (true, "ac59f0413169a81ea2b72a0f3e8c110ff1de9675cd288bc8653110e8d77400d4"), looks := false }, kinds := [], alts := [], laidByText := true, laidKinds := [.data, .data, .data], laidTests := true, laidLooks := .later }
def FnTableSystemsCardSaid : Prop := Claim7.holds Tryz.pinned (.plain (OpenSpec.ofChange fnTableSystemsSpec)) fnTableSystemsCard

/-- THE SECOND FORM's CARD OF 'laws.FnPairs'. -/
def fnPairsUptoCard : Claim7 := { stood := { row := fnPairsUptoRow, standIns := [], harness := (true, "ac59f0413169a81ea2b72a0f3e8c110ff1de9675cd288bc8653110e8d77400d4"), looks := false }, kinds := [], alts := [], laidByText := true, laidKinds := [.data, .data, .data], laidTests := true, laidLooks := .later }
def FnPairsUptoCardSaid : Prop := Claim7.holds Tryz.pinned (.plain (OpenSpec.upto fnPairsSpec)) fnPairsUptoCard

/-- THE SECOND FORM's CARD OF 'laws.FnReports'. -/
def fnReportsUptoCard : Claim7 := { stood := { row := fnReportsUptoRow, standIns := [], harness := (true, "ac59f0413169a81ea2b72a0f3e8c110ff1de9675cd288bc8653110e8d77400d4"), looks := false }, kinds := [], alts := [], laidByText := true, laidKinds := [.data, .data, .data], laidTests := true, laidLooks := .later }
def FnReportsUptoCardSaid : Prop := Claim7.holds Tryz.pinned (.plain (OpenSpec.upto fnReportsSpec)) fnReportsUptoCard

/-- THE SECOND FORM's CARD OF 'laws.FnTableSystems'. -/
def fnTableSystemsUptoCard : Claim7 := { stood := { row := fnTableSystemsUptoRow, standIns := [], harness := (true, "ac59f0413169a81ea2b72a0f3e8c110ff1de9675cd288bc8653110e8d77400d4"), looks := false }, kinds := [], alts := [], laidByText := true, laidKinds := [.data, .data, .data], laidTests := true, laidLooks := .later }
def FnTableSystemsUptoCardSaid : Prop := Claim7.holds Tryz.pinned (.plain (OpenSpec.upto fnTableSystemsSpec)) fnTableSystemsUptoCard
end Rows
end Go.Proofs.YtdhaebbfiaddnaaGreatDoor
