/-
  DERIVED. GIVEN WITH THE SEED: THE CARDS: each row of YtlldhmoiahcfpaaDoorRows.lean that lists a variable, with what it lists TIED to the program's text (the seventh form; the later family's looks); each row that meets fmt, with fmt's text TOLD by the authors' own Lean function (tested against real Go, not proved from fmt's source: count such statements apart). THE CARD IS WHAT COUNTS. Prove the row's statement (the work); the ties are given (YtlldhmoiahcfpaaDoorTie.lean); close each card by the builder's one call (the guide's Derived/Test/ToyasCard.lean, 'card_holds'). Laid BY PROGRAM, IN A SANDBOX (cutbox-door.mjs). By AI agents, Wed Nov 11 2026. No macro, syntax, notation, axiom, sorry.
-/
import Derived.Test.YtlldhmoiahcfpaaDoorRows
import GoSem.ClaimSeven
namespace Go.Proofs.YtlldhmoiahcfpaaDoor
namespace Rows

/-- THE TIED CARD OF 'laws.FnExactGrowthLine'. -/
def fnExactGrowthLineCard : Claim7 := { stood := { row := fnExactGrowthLineRow, standIns := [], harness := (true, "e50c558232ab9a2f02af3fd9e6d8ded1d2cd4ff13bf1bca75797329336413de2"), looks := false }, kinds := [], alts := [], laidByText := true, laidKinds := [.data, .data, .data], laidTests := true, laidLooks := .later }
def FnExactGrowthLineCardSaid : Prop := Claim7.holds Tryd.pinned (.plain (OpenSpec.ofChange fnExactGrowthLineSpec)) fnExactGrowthLineCard

/-- THE TIED CARD OF 'laws.FnExactAllReduced'. -/
def fnExactAllReducedCard : Claim7 := { stood := { row := fnExactAllReducedRow, standIns := [], harness := (true, "e50c558232ab9a2f02af3fd9e6d8ded1d2cd4ff13bf1bca75797329336413de2"), looks := false }, kinds := [], alts := [], laidByText := true, laidKinds := [.data, .data, .data], laidTests := true, laidLooks := .later }
def FnExactAllReducedCardSaid : Prop := Claim7.holds Tryd.pinned (.plain (OpenSpec.ofChange fnExactAllReducedSpec)) fnExactAllReducedCard

/-- THE SECOND FORM's CARD OF 'laws.FnExactGrowthLine'. -/
def fnExactGrowthLineUptoCard : Claim7 := { stood := { row := fnExactGrowthLineUptoRow, standIns := [], harness := (true, "e50c558232ab9a2f02af3fd9e6d8ded1d2cd4ff13bf1bca75797329336413de2"), looks := false }, kinds := [], alts := [], laidByText := true, laidKinds := [.data, .data, .data], laidTests := true, laidLooks := .later }
def FnExactGrowthLineUptoCardSaid : Prop := Claim7.holds Tryd.pinned (.plain (OpenSpec.upto fnExactGrowthLineSpec)) fnExactGrowthLineUptoCard

/-- THE SECOND FORM's CARD OF 'laws.FnExactAllReduced'. -/
def fnExactAllReducedUptoCard : Claim7 := { stood := { row := fnExactAllReducedUptoRow, standIns := [], harness := (true, "e50c558232ab9a2f02af3fd9e6d8ded1d2cd4ff13bf1bca75797329336413de2"), looks := false }, kinds := [], alts := [], laidByText := true, laidKinds := [.data, .data, .data], laidTests := true, laidLooks := .later }
def FnExactAllReducedUptoCardSaid : Prop := Claim7.holds Tryd.pinned (.plain (OpenSpec.upto fnExactAllReducedSpec)) fnExactAllReducedUptoCard
end Rows
end Go.Proofs.YtlldhmoiahcfpaaDoor
