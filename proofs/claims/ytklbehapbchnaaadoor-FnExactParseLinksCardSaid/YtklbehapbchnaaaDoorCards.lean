/-
  DERIVED. GIVEN WITH THE SEED: THE CARDS: each row of YtklbehapbchnaaaDoorRows.lean that lists a variable, with what it lists TIED to the program's text (the seventh form; the later family's looks); each row that meets fmt, with fmt's text TOLD by the authors' own Lean function (tested against real Go, not proved from fmt's source: count such statements apart). THE CARD IS WHAT COUNTS. Prove the row's statement (the work); the ties are given (YtklbehapbchnaaaDoorTie.lean); close each card by the builder's one call (the guide's Derived/Test/ToyasCard.lean, 'card_holds'). Laid BY PROGRAM, IN A SANDBOX (cutbox-door.mjs). By AI agents, Wed Nov 11 2026. No macro, syntax, notation, axiom, sorry.
-/
import Derived.Test.YtklbehapbchnaaaDoorRows
import GoSem.ClaimSeven
namespace Go.Proofs.YtklbehapbchnaaaDoor
namespace Rows

/-- THE TIED CARD OF 'laws.FnExactParseLinks'. -/
def fnExactParseLinksCard : Claim7 := { stood := { row := fnExactParseLinksRow, standIns := [], harness := (true, "82c6675a25ee7f3b6354010a81f8ab2516bbdece6755ac8003825ca59328320c"), looks := true }, kinds := [], alts := [], laidByText := true, laidKinds := [.data, .data, .data, .data, .sentinel, .sentinel, .pinned], laidTests := true, laidLooks := .later }
def FnExactParseLinksCardSaid : Prop := Claim7.holds Tryd.pinned (.plain (OpenSpec.ofChange fnExactParseLinksSpec)) fnExactParseLinksCard

/-- THE TIED CARD OF 'laws.FnExactFoldLine'. -/
def fnExactFoldLineCard : Claim7 := { stood := { row := fnExactFoldLineRow, standIns := [], harness := (true, "82c6675a25ee7f3b6354010a81f8ab2516bbdece6755ac8003825ca59328320c"), looks := true }, kinds := [], alts := [], laidByText := true, laidKinds := [.data, .data, .data], laidTests := true, laidLooks := .later }
def FnExactFoldLineCardSaid : Prop := Claim7.holds Tryd.pinned (.plain (OpenSpec.ofChange fnExactFoldLineSpec)) fnExactFoldLineCard

/-- THE SECOND FORM's CARD OF 'laws.FnExactParseLinks'. -/
def fnExactParseLinksUptoCard : Claim7 := { stood := { row := fnExactParseLinksUptoRow, standIns := [], harness := (true, "82c6675a25ee7f3b6354010a81f8ab2516bbdece6755ac8003825ca59328320c"), looks := true }, kinds := [], alts := [], laidByText := true, laidKinds := [.data, .data, .data, .data, .sentinel, .sentinel, .pinned], laidTests := true, laidLooks := .later }
def FnExactParseLinksUptoCardSaid : Prop := Claim7.holds Tryd.pinned (.plain (OpenSpec.upto fnExactParseLinksSpec)) fnExactParseLinksUptoCard

/-- THE SECOND FORM's CARD OF 'laws.FnExactFoldLine'. -/
def fnExactFoldLineUptoCard : Claim7 := { stood := { row := fnExactFoldLineUptoRow, standIns := [], harness := (true, "82c6675a25ee7f3b6354010a81f8ab2516bbdece6755ac8003825ca59328320c"), looks := true }, kinds := [], alts := [], laidByText := true, laidKinds := [.data, .data, .data], laidTests := true, laidLooks := .later }
def FnExactFoldLineUptoCardSaid : Prop := Claim7.holds Tryd.pinned (.plain (OpenSpec.upto fnExactFoldLineSpec)) fnExactFoldLineUptoCard
end Rows
end Go.Proofs.YtklbehapbchnaaaDoor
