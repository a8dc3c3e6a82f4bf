/-
  DERIVED. GIVEN WITH THE SEED: THE CARDS: each row of YtldkghfnlkbmpaaDoorRows.lean that lists a variable, with what it lists TIED to the program's text (the seventh form; the later family's looks); each row that meets fmt, with fmt's text TOLD by the authors' own Lean function (tested against real Go, not proved from fmt's source: count such statements apart). THE CARD IS WHAT COUNTS. Prove the row's statement (the work); the ties are given (YtldkghfnlkbmpaaDoorTie.lean); close each card by the builder's one call (the guide's Derived/Test/ToyasCard.lean, 'card_holds'). Laid BY PROGRAM, IN A SANDBOX (cutbox-door.mjs). By AI agents, Wed Nov 11 2026. No macro, syntax, notation, axiom, sorry.
-/
import Derived.Test.YtldkghfnlkbmpaaDoorRows
import GoSem.ClaimSeven
namespace Go.Proofs.YtldkghfnlkbmpaaDoor
namespace Rows

/-- THE TIED CARD OF 'laws.FnExactFormatNumbers'. -/
def fnExactFormatNumbersCard : Claim7 := { stood := { row := fnExactFormatNumbersRow, standIns := [], harness := (true, "0d273ec9c31a9df71daf30b9473ed57049ae317c1a66cc5721c3a35591a78c47"), looks := false }, kinds := [], alts := [], laidByText := true, laidKinds := [.data, .data, .data], laidTests := true, laidLooks := .later }
def FnExactFormatNumbersCardSaid : Prop := Claim7.holds Tryd.pinned (.plain (OpenSpec.ofChange fnExactFormatNumbersSpec)) fnExactFormatNumbersCard

/-- THE TIED CARD OF 'laws.FnExactRunText'. -/
def fnExactRunTextCard : Claim7 := { stood := { row := fnExactRunTextRow, standIns := [], harness := (true, "0d273ec9c31a9df71daf30b9473ed57049ae317c1a66cc5721c3a35591a78c47"), looks := false }, kinds := [], alts := [], laidByText := true, laidKinds := [.data, .data, .data], laidTests := true, laidLooks := .later }
def FnExactRunTextCardSaid : Prop := Claim7.holds Tryd.pinned (.plain (OpenSpec.ofChange fnExactRunTextSpec)) fnExactRunTextCard

/-- THE TIED CARD OF 'laws.FnExactFormatSteps'. -/
def fnExactFormatStepsCard : Claim7 := { stood := { row := fnExactFormatStepsRow, standIns := [], harness := (true, "0d273ec9c31a9df71daf30b9473ed57049ae317c1a66cc5721c3a35591a78c47"), looks := false }, kinds := [], alts := [], laidByText := true, laidKinds := [.data, .data, .data], laidTests := true, laidLooks := .later }
def FnExactFormatStepsCardSaid : Prop := Claim7.holds Tryd.pinned (.plain (OpenSpec.ofChange fnExactFormatStepsSpec)) fnExactFormatStepsCard

/-- THE TIED CARD OF 'laws.FnExactFormatLinks'. -/
def fnExactFormatLinksCard : Claim7 := { stood := { row := fnExactFormatLinksRow, standIns := [], harness := (true, "0d273ec9c31a9df71daf30b9473ed57049ae317c1a66cc5721c3a35591a78c47"), looks := false }, kinds := [], alts := [], laidByText := true, laidKinds := [.data, .data, .data], laidTests := true, laidLooks := .later }
def FnExactFormatLinksCardSaid : Prop := Claim7.holds Tryd.pinned (.plain (OpenSpec.ofChange fnExactFormatLinksSpec)) fnExactFormatLinksCard

/-- THE TIED CARD OF 'laws.FnExactRepeatLine'. -/
def fnExactRepeatLineCard : Claim7 := { stood := { row := fnExactRepeatLineRow, standIns := [], harness := (true, "0d273ec9c31a9df71daf30b9473ed57049ae317c1a66cc5721c3a35591a78c47"), looks := false }, kinds := [], alts := [], laidByText := true, laidKinds := [.data, .data, .data], laidTests := true, laidLooks := .later }
def FnExactRepeatLineCardSaid : Prop := Claim7.holds Tryd.pinned (.plain (OpenSpec.ofChange fnExactRepeatLineSpec)) fnExactRepeatLineCard

/-- THE SECOND FORM's CARD OF 'laws.FnExactFormatNumbers'. -/
def fnExactFormatNumbersUptoCard : Claim7 := { stood := { row := fnExactFormatNumbersUptoRow, standIns := [], harness := (true, "0d273ec9c31a9df71daf30b9473ed57049ae317c1a66cc5721c3a35591a78c47"), looks := false }, kinds := [], alts := [], laidByText := true, laidKinds := [.data, .data, .data], laidTests := true, laidLooks := .later }
def FnExactFormatNumbersUptoCardSaid : Prop := Claim7.holds Tryd.pinned (.plain (OpenSpec.upto fnExactFormatNumbersSpec)) fnExactFormatNumbersUptoCard

/-- THE SECOND FORM's CARD OF 'laws.FnExactRunText'. -/
def fnExactRunTextUptoCard : Claim7 := { stood := { row := fnExactRunTextUptoRow, standIns := [], harness := (true, "0d273ec9c31a9df71daf30b9473ed57049ae317c1a66cc5721c3a35591a78c47"), looks := false }, kinds := [], alts := [], laidByText := true, laidKinds := [.data, .data, .data], laidTests := true, laidLooks := .later }
def FnExactRunTextUptoCardSaid : Prop := Claim7.holds Tryd.pinned (.plain (OpenSpec.upto fnExactRunTextSpec)) fnExactRunTextUptoCard

/-- THE SECOND FORM's CARD OF 'laws.FnExactFormatSteps'. -/
def fnExactFormatStepsUptoCard : Claim7 := { stood := { row := fnExactFormatStepsUptoRow, standIns := [], harness := (true, "0d273ec9c31a9df71daf30b9473ed57049ae317c1a66cc5721c3a35591a78c47"), looks := false }, kinds := [], alts := [], laidByText := true, laidKinds := [.data, .data, .data], laidTests := true, laidLooks := .later }
def FnExactFormatStepsUptoCardSaid : Prop := Claim7.holds Tryd.pinned (.plain (OpenSpec.upto fnExactFormatStepsSpec)) fnExactFormatStepsUptoCard

/-- THE SECOND FORM's CARD OF 'laws.FnExactFormatLinks'. -/
def fnExactFormatLinksUptoCard : Claim7 := { stood := { row := fnExactFormatLinksUptoRow, standIns := [], harness := (true, "0d273ec9c31a9df71daf30b9473ed57049ae317c1a66cc5721c3a35591a78c47"), looks := false }, kinds := [], alts := [], laidByText := true, laidKinds := [.data, .data, .data], laidTests := true, laidLooks := .later }
def FnExactFormatLinksUptoCardSaid : Prop := Claim7.holds Tryd.pinned (.plain (OpenSpec.upto fnExactFormatLinksSpec)) fnExactFormatLinksUptoCard

/-- THE SECOND FORM's CARD OF 'laws.FnExactRepeatLine'. -/
def fnExactRepeatLineUptoCard : Claim7 := { stood := { row := fnExactRepeatLineUptoRow, standIns := [], harness := (true, "0d273ec9c31a9df71daf30b9473ed57049ae317c1a66cc5721c3a35591a78c47"), looks := false }, kinds := [], alts := [], laidByText := true, laidKinds := [.data, .data, .data], laidTests := true, laidLooks := .later }
def FnExactRepeatLineUptoCardSaid : Prop := Claim7.holds Tryd.pinned (.plain (OpenSpec.upto fnExactRepeatLineSpec)) fnExactRepeatLineUptoCard
end Rows
end Go.Proofs.YtldkghfnlkbmpaaDoor
