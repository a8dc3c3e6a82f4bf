/-
  No cell of these rows narrows 'for every input' (looked for: loops, veiled, ifaces, maps, wideKeys, modest, calm, conditions, laid).
  DERIVED. THE GIVEN ROWS OF THIS SEAT. 9 by the template 'for every input the law returns true; each argument reads behind the call as it read before'; 0 by the template 'total and deterministic' (their statements: YtldkghfnlkbmpaaTotals.lean).
  GIVEN WITH THE SEED: the statements are not yours to turn. If you find one false, say at which input.
  Laid BY PROGRAM, IN A SANDBOX (cutbox-rows.mjs): the forced cells as the released guide's own fill.sh prints them over the translation 0b96be1b02a8ae90… (all of the seat's roots in one cut). By AI agents, Wed Nov 11 2026. No macro, syntax, notation, axiom, sorry.
-/
import Derived.Test.YtldkghfnlkbmpaaChecked
import GoSem.Claim
import GoSem.ClaimJoined
import GoSem.ClaimMapViews
import Derived.JoinedTies
import Derived.KernelRfl
namespace Go.Proofs.Ytldkghfnlkbmpaa
/- THE CELL 'sum', in the pinned program and in every row, IS THE sha256 OF THE DUMP (.gsa) THAT YtldkghfnlkbmpaaProg.lean LOADS. Nothing in Lean hashes anything: it is a label: what it is worth is what the hold of that sum in a sandbox is worth. -/
noncomputable def Try.pinned : Pinned := { name := "ytldkghfnlkbmpaa", sum := "0b96be1b02a8ae90f367e8ce310a70156331810b0159626247adfe61a2b18b12", checked := Try.checked }
namespace Rows
def none {H : Type} : Left H := { results := [], args := [] }

/-- 'laws.FnExactNewConsole': WHATEVER THE INPUT: true; the input reads as it did. -/
def fnExactNewConsoleSpec : ChangeSpec := { name := "fnExactNewConsole", fn := fun _ => fun
  | [] => { results := [.lit (.bool true)], args := [] }
  | _ => none }
def fnExactNewConsoleRow : OpenClaim := { program := "ytldkghfnlkbmpaa", sum := "0b96be1b02a8ae90f367e8ce310a70156331810b0159626247adfe61a2b18b12", func := "loop.example/g03201/laws.FnExactNewConsole", spec := "fnExactNewConsole", apart := false }
def FnExactNewConsoleSaid : Prop := fnExactNewConsoleRow.holds Try.pinned (OpenSpec.ofChange fnExactNewConsoleSpec)

/-- ITS FALSE NEIGHBOUR: 'it returns false'. Refute it at one input. -/
def fnExactNewConsoleWrong : ChangeSpec := { name := "fnExactNewConsole", fn := fun _ => fun
  | [] => { results := [.lit (.bool false)], args := [] }
  | _ => none }
def FnExactNewConsoleWrongFalsely : Prop := fnExactNewConsoleRow.holds Try.pinned (OpenSpec.ofChange fnExactNewConsoleWrong)

/-- 'laws.FnExactFormatWords': WHATEVER THE INPUT: true; the input reads as it did. -/
def fnExactFormatWordsSpec : ChangeSpec := { name := "fnExactFormatWords", fn := fun _ => fun
  | [d] => { results := [.lit (.bool true)], args := [d] }
  | _ => none }
def fnExactFormatWordsRow : OpenClaim := { program := "ytldkghfnlkbmpaa", sum := "0b96be1b02a8ae90f367e8ce310a70156331810b0159626247adfe61a2b18b12", func := "loop.example/g03201/laws.FnExactFormatWords", spec := "fnExactFormatWords", inPlace := ["internal/abi.NoEscape", "internal/bytealg.MakeNoZero"], apart := false }
def FnExactFormatWordsSaid : Prop := fnExactFormatWordsRow.holds Try.pinned (OpenSpec.ofChange fnExactFormatWordsSpec)

/-- ITS FALSE NEIGHBOUR: 'it returns false'. Refute it at one input. -/
def fnExactFormatWordsWrong : ChangeSpec := { name := "fnExactFormatWords", fn := fun _ => fun
  | [d] => { results := [.lit (.bool false)], args := [d] }
  | _ => none }
def FnExactFormatWordsWrongFalsely : Prop := fnExactFormatWordsRow.holds Try.pinned (OpenSpec.ofChange fnExactFormatWordsWrong)

/-- 'laws.FnExactVariablesOf': WHATEVER THE INPUT: true; the input reads as it did. -/
def fnExactVariablesOfSpec : ChangeSpec := { name := "fnExactVariablesOf", fn := fun _ => fun
  | [d] => { results := [.lit (.bool true)], args := [d] }
  | _ => none }
def fnExactVariablesOfRow : OpenClaim := { program := "ytldkghfnlkbmpaa", sum := "0b96be1b02a8ae90f367e8ce310a70156331810b0159626247adfe61a2b18b12", func := "loop.example/g03201/laws.FnExactVariablesOf", spec := "fnExactVariablesOf", inPlace := ["internal/bytealg.IndexByteString", "internal/bytealg.IndexString"], named := ["internal/bytealg.MaxLen"], apart := false }
def FnExactVariablesOfSaid : Prop := fnExactVariablesOfRow.holds Try.pinned (OpenSpec.ofChange fnExactVariablesOfSpec)

/-- ITS FALSE NEIGHBOUR: 'it returns false'. Refute it at one input. -/
def fnExactVariablesOfWrong : ChangeSpec := { name := "fnExactVariablesOf", fn := fun _ => fun
  | [d] => { results := [.lit (.bool false)], args := [d] }
  | _ => none }
def FnExactVariablesOfWrongFalsely : Prop := fnExactVariablesOfRow.holds Try.pinned (OpenSpec.ofChange fnExactVariablesOfWrong)

/-- 'laws.FnExactCountFits': WHATEVER THE INPUT: true; the input reads as it did. -/
def fnExactCountFitsSpec : ChangeSpec := { name := "fnExactCountFits", fn := fun _ => fun
  | [d1, d2] => { results := [.lit (.bool true)], args := [d1, d2] }
  | _ => none }
def fnExactCountFitsRow : OpenClaim := { program := "ytldkghfnlkbmpaa", sum := "0b96be1b02a8ae90f367e8ce310a70156331810b0159626247adfe61a2b18b12", func := "loop.example/g03201/laws.FnExactCountFits", spec := "fnExactCountFits", inPlace := ["internal/bytealg.IndexByteString", "internal/bytealg.IndexString"], unfollowed := true, recurses := true, named := ["internal/bytealg.MaxLen"], apart := false }
def FnExactCountFitsSaid : Prop := fnExactCountFitsRow.holds Try.pinned (OpenSpec.ofChange fnExactCountFitsSpec)

/-- ITS FALSE NEIGHBOUR: 'it returns false'. Refute it at one input. -/
def fnExactCountFitsWrong : ChangeSpec := { name := "fnExactCountFits", fn := fun _ => fun
  | [d1, d2] => { results := [.lit (.bool false)], args := [d1, d2] }
  | _ => none }
def FnExactCountFitsWrongFalsely : Prop := fnExactCountFitsRow.holds Try.pinned (OpenSpec.ofChange fnExactCountFitsWrong)

/-- 'laws.FnExactAvoidsPattern': WHATEVER THE INPUT: true; the input reads as it did. -/
def fnExactAvoidsPatternSpec : ChangeSpec := { name := "fnExactAvoidsPattern", fn := fun _ => fun
  | [d1, d2] => { results := [.lit (.bool true)], args := [d1, d2] }
  | _ => none }
def fnExactAvoidsPatternRow : OpenClaim := { program := "ytldkghfnlkbmpaa", sum := "0b96be1b02a8ae90f367e8ce310a70156331810b0159626247adfe61a2b18b12", func := "loop.example/g03201/laws.FnExactAvoidsPattern", spec := "fnExactAvoidsPattern", inPlace := ["internal/bytealg.IndexByteString", "internal/bytealg.IndexString"], unfollowed := true, recurses := true, named := ["internal/bytealg.MaxLen"], apart := false }
def FnExactAvoidsPatternSaid : Prop := fnExactAvoidsPatternRow.holds Try.pinned (OpenSpec.ofChange fnExactAvoidsPatternSpec)

/-- ITS FALSE NEIGHBOUR: 'it returns false'. Refute it at one input. -/
def fnExactAvoidsPatternWrong : ChangeSpec := { name := "fnExactAvoidsPattern", fn := fun _ => fun
  | [d1, d2] => { results := [.lit (.bool false)], args := [d1, d2] }
  | _ => none }
def FnExactAvoidsPatternWrongFalsely : Prop := fnExactAvoidsPatternRow.holds Try.pinned (OpenSpec.ofChange fnExactAvoidsPatternWrong)

/-- 'laws.FnExactFirstFit': WHATEVER THE INPUT: true; the input reads as it did. -/
def fnExactFirstFitSpec : ChangeSpec := { name := "fnExactFirstFit", fn := fun _ => fun
  | [d1, d2] => { results := [.lit (.bool true)], args := [d1, d2] }
  | _ => none }
def fnExactFirstFitRow : OpenClaim := { program := "ytldkghfnlkbmpaa", sum := "0b96be1b02a8ae90f367e8ce310a70156331810b0159626247adfe61a2b18b12", func := "loop.example/g03201/laws.FnExactFirstFit", spec := "fnExactFirstFit", inPlace := ["internal/bytealg.IndexByteString", "internal/bytealg.IndexString"], unfollowed := true, recurses := true, named := ["internal/bytealg.MaxLen"], apart := false }
def FnExactFirstFitSaid : Prop := fnExactFirstFitRow.holds Try.pinned (OpenSpec.ofChange fnExactFirstFitSpec)

/-- ITS FALSE NEIGHBOUR: 'it returns false'. Refute it at one input. -/
def fnExactFirstFitWrong : ChangeSpec := { name := "fnExactFirstFit", fn := fun _ => fun
  | [d1, d2] => { results := [.lit (.bool false)], args := [d1, d2] }
  | _ => none }
def FnExactFirstFitWrongFalsely : Prop := fnExactFirstFitRow.holds Try.pinned (OpenSpec.ofChange fnExactFirstFitWrong)

/-- 'laws.FnExactFillPattern': WHATEVER THE INPUT: true; the input reads as it did. -/
def fnExactFillPatternSpec : ChangeSpec := { name := "fnExactFillPattern", fn := fun _ => fun
  | [d1, d2] => { results := [.lit (.bool true)], args := [d1, d2] }
  | _ => none }
def fnExactFillPatternRow : OpenClaim := { program := "ytldkghfnlkbmpaa", sum := "0b96be1b02a8ae90f367e8ce310a70156331810b0159626247adfe61a2b18b12", func := "loop.example/g03201/laws.FnExactFillPattern", spec := "fnExactFillPattern", inPlace := ["internal/bytealg.IndexByteString", "internal/bytealg.IndexString", "internal/abi.NoEscape"], unfollowed := true, recurses := true, named := ["internal/bytealg.MaxLen"], apart := false }
def FnExactFillPatternSaid : Prop := fnExactFillPatternRow.holds Try.pinned (OpenSpec.ofChange fnExactFillPatternSpec)

/-- ITS FALSE NEIGHBOUR: 'it returns false'. Refute it at one input. -/
def fnExactFillPatternWrong : ChangeSpec := { name := "fnExactFillPattern", fn := fun _ => fun
  | [d1, d2] => { results := [.lit (.bool false)], args := [d1, d2] }
  | _ => none }
def FnExactFillPatternWrongFalsely : Prop := fnExactFillPatternRow.holds Try.pinned (OpenSpec.ofChange fnExactFillPatternWrong)

/-- 'laws.FnExactFitsPattern': WHATEVER THE INPUT: true; the input reads as it did. -/
def fnExactFitsPatternSpec : ChangeSpec := { name := "fnExactFitsPattern", fn := fun _ => fun
  | [d1, d2] => { results := [.lit (.bool true)], args := [d1, d2] }
  | _ => none }
def fnExactFitsPatternRow : OpenClaim := { program := "ytldkghfnlkbmpaa", sum := "0b96be1b02a8ae90f367e8ce310a70156331810b0159626247adfe61a2b18b12", func := "loop.example/g03201/laws.FnExactFitsPattern", spec := "fnExactFitsPattern", inPlace := ["internal/bytealg.IndexByteString", "internal/bytealg.IndexString"], unfollowed := true, recurses := true, named := ["internal/bytealg.MaxLen"], apart := false }
def FnExactFitsPatternSaid : Prop := fnExactFitsPatternRow.holds Try.pinned (OpenSpec.ofChange fnExactFitsPatternSpec)

/-- ITS FALSE NEIGHBOUR: 'it returns false'. Refute it at one input. -/
def fnExactFitsPatternWrong : ChangeSpec := { name := "fnExactFitsPattern", fn := fun _ => fun
  | [d1, d2] => { results := [.lit (.bool false)], args := [d1, d2] }
  | _ => none }
def FnExactFitsPatternWrongFalsely : Prop := fnExactFitsPatternRow.holds Try.pinned (OpenSpec.ofChange fnExactFitsPatternWrong)

/-- 'laws.FnExactCountAvoiding': WHATEVER THE INPUT: true; the input reads as it did. -/
def fnExactCountAvoidingSpec : ChangeSpec := { name := "fnExactCountAvoiding", fn := fun _ => fun
  | [d1, d2, d3] => { results := [.lit (.bool true)], args := [d1, d2, d3] }
  | _ => none }
def fnExactCountAvoidingRow : OpenClaim := { program := "ytldkghfnlkbmpaa", sum := "0b96be1b02a8ae90f367e8ce310a70156331810b0159626247adfe61a2b18b12", func := "loop.example/g03201/laws.FnExactCountAvoiding", spec := "fnExactCountAvoiding", inPlace := ["internal/bytealg.IndexByteString", "internal/bytealg.IndexString"], unfollowed := true, recurses := true, named := ["internal/bytealg.MaxLen"], apart := false }
def FnExactCountAvoidingSaid : Prop := fnExactCountAvoidingRow.holds Try.pinned (OpenSpec.ofChange fnExactCountAvoidingSpec)

/-- ITS FALSE NEIGHBOUR: 'it returns false'. Refute it at one input. -/
def fnExactCountAvoidingWrong : ChangeSpec := { name := "fnExactCountAvoiding", fn := fun _ => fun
  | [d1, d2, d3] => { results := [.lit (.bool false)], args := [d1, d2, d3] }
  | _ => none }
def FnExactCountAvoidingWrongFalsely : Prop := fnExactCountAvoidingRow.holds Try.pinned (OpenSpec.ofChange fnExactCountAvoidingWrong)

/- THE SECOND FORM. 'bulk': how many values and letters a reading holds, each counted each time it is reached (what is shared counts as often as it is met; a slice's spare places count too). A statement '..UptoSaid' is the law's where the arguments, and the package variables that the reading takes, are together of bulk at most 1048576: NARROWER than '..Said'. Prove '..Said' where nothing that the law and all that it calls make is longer than what came in: it says more and counts as full. Else prove '..UptoSaid'. A law counts once. -/
mutual
def uptoBulk {H : Type} : DataW H → Nat
  | .lit (.string bytes) => bytes.length + 1
  | .lit _ => 1
  | .nil => 1
  | .ptr d => uptoBulk d + 1
  | .slice elems spare => uptoBulkAll elems + uptoBulkAll spare + 1
  | .agg parts => uptoBulkAll parts + 1
  | .iface _ d => uptoBulk d + 1
  | .map entries => uptoBulkEntries entries + 1
  | .held _ => 1
def uptoBulkAll {H : Type} : List (DataW H) → Nat
  | [] => 0
  | d :: r => uptoBulk d + uptoBulkAll r
def uptoBulkEntries {H : Type} : List (Lit × DataW H) → Nat
  | [] => 0
  | x :: r => uptoBulkEntry x + uptoBulkEntries r
def uptoBulkEntry {H : Type} : Lit × DataW H → Nat
  | (.string bytes, d) => bytes.length + uptoBulk d + 1
  | (_, d) => uptoBulk d + 1
 end
def uptoSmall : (H : Type) → List (DataW H) → Bool := fun _ ds => decide (uptoBulkAll ds ≤ 1048576)
def OpenSpec.upto (s : _root_.Go.ChangeSpec) : _root_.Go.OpenSpec := { _root_.Go.OpenSpec.ofChange s with cond := some uptoSmall }

/-- 'laws.FnExactNewConsole', WHERE WHAT IT READS IS OF BULK AT MOST 1048576: true; the input reads as it did. -/
def fnExactNewConsoleUptoRow : OpenClaim := { program := "ytldkghfnlkbmpaa", sum := "0b96be1b02a8ae90f367e8ce310a70156331810b0159626247adfe61a2b18b12", func := "loop.example/g03201/laws.FnExactNewConsole", spec := "fnExactNewConsole", apart := false, narrowed := true }
def FnExactNewConsoleUptoSaid : Prop := fnExactNewConsoleUptoRow.holds Try.pinned (OpenSpec.upto fnExactNewConsoleSpec)

/-- 'laws.FnExactFormatWords', WHERE WHAT IT READS IS OF BULK AT MOST 1048576: true; the input reads as it did. -/
def fnExactFormatWordsUptoRow : OpenClaim := { program := "ytldkghfnlkbmpaa", sum := "0b96be1b02a8ae90f367e8ce310a70156331810b0159626247adfe61a2b18b12", func := "loop.example/g03201/laws.FnExactFormatWords", spec := "fnExactFormatWords", inPlace := ["internal/abi.NoEscape", "internal/bytealg.MakeNoZero"], apart := false, narrowed := true }
def FnExactFormatWordsUptoSaid : Prop := fnExactFormatWordsUptoRow.holds Try.pinned (OpenSpec.upto fnExactFormatWordsSpec)

/-- 'laws.FnExactVariablesOf', WHERE WHAT IT READS IS OF BULK AT MOST 1048576: true; the input reads as it did. -/
def fnExactVariablesOfUptoRow : OpenClaim := { program := "ytldkghfnlkbmpaa", sum := "0b96be1b02a8ae90f367e8ce310a70156331810b0159626247adfe61a2b18b12", func := "loop.example/g03201/laws.FnExactVariablesOf", spec := "fnExactVariablesOf", inPlace := ["internal/bytealg.IndexByteString", "internal/bytealg.IndexString"], named := ["internal/bytealg.MaxLen"], apart := false, narrowed := true }
def FnExactVariablesOfUptoSaid : Prop := fnExactVariablesOfUptoRow.holds Try.pinned (OpenSpec.upto fnExactVariablesOfSpec)

/-- 'laws.FnExactCountFits', WHERE WHAT IT READS IS OF BULK AT MOST 1048576: true; the input reads as it did. -/
def fnExactCountFitsUptoRow : OpenClaim := { program := "ytldkghfnlkbmpaa", sum := "0b96be1b02a8ae90f367e8ce310a70156331810b0159626247adfe61a2b18b12", func := "loop.example/g03201/laws.FnExactCountFits", spec := "fnExactCountFits", inPlace := ["internal/bytealg.IndexByteString", "internal/bytealg.IndexString"], unfollowed := true, recurses := true, named := ["internal/bytealg.MaxLen"], apart := false, narrowed := true }
def FnExactCountFitsUptoSaid : Prop := fnExactCountFitsUptoRow.holds Try.pinned (OpenSpec.upto fnExactCountFitsSpec)

/-- 'laws.FnExactAvoidsPattern', WHERE WHAT IT READS IS OF BULK AT MOST 1048576: true; the input reads as it did. -/
def fnExactAvoidsPatternUptoRow : OpenClaim := { program := "ytldkghfnlkbmpaa", sum := "0b96be1b02a8ae90f367e8ce310a70156331810b0159626247adfe61a2b18b12", func := "loop.example/g03201/laws.FnExactAvoidsPattern", spec := "fnExactAvoidsPattern", inPlace := ["internal/bytealg.IndexByteString", "internal/bytealg.IndexString"], unfollowed := true, recurses := true, named := ["internal/bytealg.MaxLen"], apart := false, narrowed := true }
def FnExactAvoidsPatternUptoSaid : Prop := fnExactAvoidsPatternUptoRow.holds Try.pinned (OpenSpec.upto fnExactAvoidsPatternSpec)

/-- 'laws.FnExactFirstFit', WHERE WHAT IT READS IS OF BULK AT MOST 1048576: true; the input reads as it did. -/
def fnExactFirstFitUptoRow : OpenClaim := { program := "ytldkghfnlkbmpaa", sum := "0b96be1b02a8ae90f367e8ce310a70156331810b0159626247adfe61a2b18b12", func := "loop.example/g03201/laws.FnExactFirstFit", spec := "fnExactFirstFit", inPlace := ["internal/bytealg.IndexByteString", "internal/bytealg.IndexString"], unfollowed := true, recurses := true, named := ["internal/bytealg.MaxLen"], apart := false, narrowed := true }
def FnExactFirstFitUptoSaid : Prop := fnExactFirstFitUptoRow.holds Try.pinned (OpenSpec.upto fnExactFirstFitSpec)

/-- 'laws.FnExactFillPattern', WHERE WHAT IT READS IS OF BULK AT MOST 1048576: true; the input reads as it did. -/
def fnExactFillPatternUptoRow : OpenClaim := { program := "ytldkghfnlkbmpaa", sum := "0b96be1b02a8ae90f367e8ce310a70156331810b0159626247adfe61a2b18b12", func := "loop.example/g03201/laws.FnExactFillPattern", spec := "fnExactFillPattern", inPlace := ["internal/bytealg.IndexByteString", "internal/bytealg.IndexString", "internal/abi.NoEscape"], unfollowed := true, recurses := true, named := ["internal/bytealg.MaxLen"], apart := false, narrowed := true }
def FnExactFillPatternUptoSaid : Prop := fnExactFillPatternUptoRow.holds Try.pinned (OpenSpec.upto fnExactFillPatternSpec)

/-- 'laws.FnExactFitsPattern', WHERE WHAT IT READS IS OF BULK AT MOST 1048576: true; the input reads as it did. -/
def fnExactFitsPatternUptoRow : OpenClaim := { program := "ytldkghfnlkbmpaa", sum := "0b96be1b02a8ae90f367e8ce310a70156331810b0159626247adfe61a2b18b12", func := "loop.example/g03201/laws.FnExactFitsPattern", spec := "fnExactFitsPattern", inPlace := ["internal/bytealg.IndexByteString", "internal/bytealg.IndexString"], unfollowed := true, recurses := true, named := ["internal/bytealg.MaxLen"], apart := false, narrowed := true }
def FnExactFitsPatternUptoSaid : Prop := fnExactFitsPatternUptoRow.holds Try.pinned (OpenSpec.upto fnExactFitsPatternSpec)

/-- 'laws.FnExactCountAvoiding', WHERE WHAT IT READS IS OF BULK AT MOST 1048576: true; the input reads as it did. -/
def fnExactCountAvoidingUptoRow : OpenClaim := { program := "ytldkghfnlkbmpaa", sum := "0b96be1b02a8ae90f367e8ce310a70156331810b0159626247adfe61a2b18b12", func := "loop.example/g03201/laws.FnExactCountAvoiding", spec := "fnExactCountAvoiding", inPlace := ["internal/bytealg.IndexByteString", "internal/bytealg.IndexString"], unfollowed := true, recurses := true, named := ["internal/bytealg.MaxLen"], apart := false, narrowed := true }
def FnExactCountAvoidingUptoSaid : Prop := fnExactCountAvoidingUptoRow.holds Try.pinned (OpenSpec.upto fnExactCountAvoidingSpec)

end Rows
end Go.Proofs.Ytldkghfnlkbmpaa
