/-
  DERIVED. GIVEN WITH THE SEED: THE CARDS: each row of YtoddpmdjjgnpgaaGreatDoorRows.lean that lists a variable, with what it lists TIED to the program's text (the seventh form; the later family's looks); each row that meets fmt, with fmt's text TOLD by the authors' own Lean function (tested against real Go, not proved from fmt's source: count such statements apart). THE CARD IS WHAT COUNTS. Prove the row's statement (the work); the ties are given (YtoddpmdjjgnpgaaGreatDoorTie.lean); close each card by the builder's one call (the guide's Derived/Test/ToyasCard.lean, 'card_holds'). Laid BY PROGRAM, IN A SANDBOX (cutbox-door.mjs). By AI agents, Wed Nov 11 2026. No macro, syntax, notation, axiom, sorry.
-/
import Derived.Test.YtoddpmdjjgnpgaaGreatDoorRows
import GoSem.ClaimSeven
namespace Go.Proofs.YtoddpmdjjgnpgaaGreatDoor
namespace Rows

/-- THE TIED CARD OF 'laws.FnAutomata'. -/
def fnAutomataCard : Claim7 := { stood := { row := fnAutomataRow, standIns := [], harness := (true, "c1f79ad4c5e76a52a632a0207ea623855a1a7a36d808b1140bd2ab11558ab600"), looks := true }, kinds := [], alts := [], laidByText := true, laidKinds := [.data, .data, .data], laidTests := true, laidLooks := .later }
def FnAutomataCardSaid : Prop := Claim7.holds Tryz.pinned (.plain (OpenSpec.ofChange fnAutomataSpec)) fnAutomataCard

/-- THE TIED CARD OF 'laws.FnTexts'. -/
def fnTextsCard : Claim7 := { stood := { row := fnTextsRow, standIns := [], harness := (true, "c1f79ad4c5e76a52a632a0207ea623855a1a7a36d808b1140bd2ab11558ab600"), looks := true }, kinds := [], alts := [], laidByText := true, laidKinds := [.data, .data, .data, .data, .sentinel, .sentinel, .pinned], laidTests := true, laidLooks := .later }
def FnTextsCardSaid : Prop := Claim7.holds Tryz.pinned (.plain (OpenSpec.ofChange fnTextsSpec)) fnTextsCard

/-- THE SECOND FORM's CARD OF 'laws.FnAutomata'. -/
def fnAutomataUptoCard : Claim7 := { stood := { row := fnAutomataUptoRow, standIns := [], harness := (true, "c1f79ad4c5e76a52a632a0207ea623855a1a7a36d808b1140bd2ab11558ab600"), looks := true }, kinds := [], alts := [], laidByText := true, laidKinds := [.data, .data, .data], laidTests := true, laidLooks := .later }
def FnAutomataUptoCardSaid : Prop := Claim7.holds Tryz.pinned (.plain (OpenSpec.upto fnAutomataSpec)) fnAutomataUptoCard

/-- THE SECOND FORM's CARD OF 'laws.FnTexts'. -/
def fnTextsUptoCard : Claim7 := { stood := { row := fnTextsUptoRow, standIns := [], harness := (true, "c1f79ad4c5e76a52a632a0207ea623855a1a7a36d808b1140bd2ab11558ab600"), looks := true }, kinds := [], alts := [], laidByText := true, laidKinds := [.data, .data, .data, .data, .sentinel, .sentinel, .pinned], laidTests := true, laidLooks := .later }
def FnTextsUptoCardSaid : Prop := Claim7.holds Tryz.pinned (.plain (OpenSpec.upto fnTextsSpec)) fnTextsUptoCard
end Rows
end Go.Proofs.YtoddpmdjjgnpgaaGreatDoor
