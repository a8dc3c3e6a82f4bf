/-
  No cell of these rows narrows 'for every input' (looked for: loops, veiled, ifaces, maps, wideKeys, modest, calm, conditions, laid).
  DERIVED. THE GIVEN ROWS OF THIS SEAT. 6 by the template 'for every input the law returns true; each argument reads behind the call as it read before'; 0 by the template 'total and deterministic' (their statements: YtdnkeicclgcgmaaTotals.lean).
  GIVEN WITH THE SEED: the statements are not yours to turn. If you find one false, say at which input.
  Laid BY PROGRAM, IN A SANDBOX (cutbox-rows.mjs): the forced cells as the released guide's own fill.sh prints them over the translation fb750238b92915ca… (all of the seat's roots in one cut). By AI agents, Wed Nov 11 2026. No macro, syntax, notation, axiom, sorry.
-/
import Derived.Test.YtdnkeicclgcgmaaChecked
import GoSem.Claim
import GoSem.ClaimJoined
import GoSem.ClaimMapViews
import Derived.JoinedTies
import Derived.KernelRfl
namespace Go.Proofs.Ytdnkeicclgcgmaa
/- THE CELL 'sum', in the pinned program and in every row, IS THE sha256 OF THE DUMP (.gsa) THAT YtdnkeicclgcgmaaProg.lean LOADS. Nothing in Lean hashes anything: it is a label: what it is worth is what the hold of that sum in a sandbox is worth. -/
noncomputable def Try.pinned : Pinned := { name := "ytdnkeicclgcgmaa", sum := "fb750238b92915ca78a188ebc0b4f8f9d73acd913388cf8299dd8b6acdde4eea", checked := Try.checked }
namespace Rows
def none {H : Type} : Left H := { results := [], args := [] }

/-- 'laws.FnExactPatternOk': WHATEVER THE INPUT: true; the input reads as it did. -/
def fnExactPatternOkSpec : ChangeSpec := { name := "fnExactPatternOk", fn := fun _ => fun
  | [d] => { results := [.lit (.bool true)], args := [d] }
  | _ => none }
def fnExactPatternOkRow : OpenClaim := { program := "ytdnkeicclgcgmaa", sum := "fb750238b92915ca78a188ebc0b4f8f9d73acd913388cf8299dd8b6acdde4eea", func := "loop.example/g03201/laws.FnExactPatternOk", spec := "fnExactPatternOk", apart := false }
def FnExactPatternOkSaid : Prop := fnExactPatternOkRow.holds Try.pinned (OpenSpec.ofChange fnExactPatternOkSpec)

/-- ITS FALSE NEIGHBOUR: 'it returns false'. Refute it at one input. -/
def fnExactPatternOkWrong : ChangeSpec := { name := "fnExactPatternOk", fn := fun _ => fun
  | [d] => { results := [.lit (.bool false)], args := [d] }
  | _ => none }
def FnExactPatternOkWrongFalsely : Prop := fnExactPatternOkRow.holds Try.pinned (OpenSpec.ofChange fnExactPatternOkWrong)

/-- 'laws.FnExactNewConsole': WHATEVER THE INPUT: true; the input reads as it did. -/
def fnExactNewConsoleSpec : ChangeSpec := { name := "fnExactNewConsole", fn := fun _ => fun
  | [] => { results := [.lit (.bool true)], args := [] }
  | _ => none }
def fnExactNewConsoleRow : OpenClaim := { program := "ytdnkeicclgcgmaa", sum := "fb750238b92915ca78a188ebc0b4f8f9d73acd913388cf8299dd8b6acdde4eea", func := "loop.example/g03201/laws.FnExactNewConsole", spec := "fnExactNewConsole", apart := false }
def FnExactNewConsoleSaid : Prop := fnExactNewConsoleRow.holds Try.pinned (OpenSpec.ofChange fnExactNewConsoleSpec)

/-- ITS FALSE NEIGHBOUR: 'it returns false'. Refute it at one input. -/
def fnExactNewConsoleWrong : ChangeSpec := { name := "fnExactNewConsole", fn := fun _ => fun
  | [] => { results := [.lit (.bool false)], args := [] }
  | _ => none }
def FnExactNewConsoleWrongFalsely : Prop := fnExactNewConsoleRow.holds Try.pinned (OpenSpec.ofChange fnExactNewConsoleWrong)

/-- 'laws.FnExactFormatWords': WHATEVER THE INPUT: true; the input reads as it did. -/
def fnExactFormatWordsSpec : ChangeSpec := { name := "fnExactFormatWords", fn := fun _ => fun
  | [d] => { results := [.lit (.bool true)], args := [d] }
  | _ => none }
def fnExactFormatWordsRow : OpenClaim := { program := "ytdnkeicclgcgmaa", sum := "fb750238b92915ca78a188ebc0b4f8f9d73acd913388cf8299dd8b6acdde4eea", func := "loop.example/g03201/laws.FnExactFormatWords", spec := "fnExactFormatWords", inPlace := ["internal/abi.NoEscape", "internal/bytealg.MakeNoZero"], apart := false }
def FnExactFormatWordsSaid : Prop := fnExactFormatWordsRow.holds Try.pinned (OpenSpec.ofChange fnExactFormatWordsSpec)

/-- ITS FALSE NEIGHBOUR: 'it returns false'. Refute it at one input. -/
def fnExactFormatWordsWrong : ChangeSpec := { name := "fnExactFormatWords", fn := fun _ => fun
  | [d] => { results := [.lit (.bool false)], args := [d] }
  | _ => none }
def FnExactFormatWordsWrongFalsely : Prop := fnExactFormatWordsRow.holds Try.pinned (OpenSpec.ofChange fnExactFormatWordsWrong)

/-- 'laws.FnExactZeroOf': WHATEVER THE INPUT: true; the input reads as it did. -/
def fnExactZeroOfSpec : ChangeSpec := { name := "fnExactZeroOf", fn := fun _ => fun
  | [d] => { results := [.lit (.bool true)], args := [d] }
  | _ => none }
def fnExactZeroOfRow : OpenClaim := { program := "ytdnkeicclgcgmaa", sum := "fb750238b92915ca78a188ebc0b4f8f9d73acd913388cf8299dd8b6acdde4eea", func := "loop.example/g03201/laws.FnExactZeroOf", spec := "fnExactZeroOf", unfollowed := true, recurses := true, apart := false }
def FnExactZeroOfSaid : Prop := fnExactZeroOfRow.holds Try.pinned (OpenSpec.ofChange fnExactZeroOfSpec)

/-- ITS FALSE NEIGHBOUR: 'it returns false'. Refute it at one input. -/
def fnExactZeroOfWrong : ChangeSpec := { name := "fnExactZeroOf", fn := fun _ => fun
  | [d] => { results := [.lit (.bool false)], args := [d] }
  | _ => none }
def FnExactZeroOfWrongFalsely : Prop := fnExactZeroOfRow.holds Try.pinned (OpenSpec.ofChange fnExactZeroOfWrong)

/-- 'laws.FnExactIsGroup': WHATEVER THE INPUT: true; the input reads as it did. -/
def fnExactIsGroupSpec : ChangeSpec := { name := "fnExactIsGroup", fn := fun _ => fun
  | [d] => { results := [.lit (.bool true)], args := [d] }
  | _ => none }
def fnExactIsGroupRow : OpenClaim := { program := "ytdnkeicclgcgmaa", sum := "fb750238b92915ca78a188ebc0b4f8f9d73acd913388cf8299dd8b6acdde4eea", func := "loop.example/g03201/laws.FnExactIsGroup", spec := "fnExactIsGroup", unfollowed := true, recurses := true, apart := false }
def FnExactIsGroupSaid : Prop := fnExactIsGroupRow.holds Try.pinned (OpenSpec.ofChange fnExactIsGroupSpec)

/-- ITS FALSE NEIGHBOUR: 'it returns false'. Refute it at one input. -/
def fnExactIsGroupWrong : ChangeSpec := { name := "fnExactIsGroup", fn := fun _ => fun
  | [d] => { results := [.lit (.bool false)], args := [d] }
  | _ => none }
def FnExactIsGroupWrongFalsely : Prop := fnExactIsGroupRow.holds Try.pinned (OpenSpec.ofChange fnExactIsGroupWrong)

/-- 'laws.FnExactVariablesOf': WHATEVER THE INPUT: true; the input reads as it did. -/
def fnExactVariablesOfSpec : ChangeSpec := { name := "fnExactVariablesOf", fn := fun _ => fun
  | [d] => { results := [.lit (.bool true)], args := [d] }
  | _ => none }
def fnExactVariablesOfRow : OpenClaim := { program := "ytdnkeicclgcgmaa", sum := "fb750238b92915ca78a188ebc0b4f8f9d73acd913388cf8299dd8b6acdde4eea", func := "loop.example/g03201/laws.FnExactVariablesOf", spec := "fnExactVariablesOf", inPlace := ["internal/bytealg.IndexByteString", "internal/bytealg.IndexString"], named := ["internal/bytealg.MaxLen"], apart := false }
def FnExactVariablesOfSaid : Prop := fnExactVariablesOfRow.holds Try.pinned (OpenSpec.ofChange fnExactVariablesOfSpec)

/-- ITS FALSE NEIGHBOUR: 'it returns false'. Refute it at one input. -/
def fnExactVariablesOfWrong : ChangeSpec := { name := "fnExactVariablesOf", fn := fun _ => fun
  | [d] => { results := [.lit (.bool false)], args := [d] }
  | _ => none }
def FnExactVariablesOfWrongFalsely : Prop := fnExactVariablesOfRow.holds Try.pinned (OpenSpec.ofChange fnExactVariablesOfWrong)

/- THE SECOND FORM. 'bulk': how many values and letters a reading holds, each counted each time it is reached (what is shared counts as often as it is met; a slice's spare places count too). A statement '..UptoSaid' is the law's where the arguments, and the package variables that the reading takes, are together of bulk at most 1048576: NARROWER than '..Said'. Prove '..Said' where nothing that the law and all that it calls make is longer than what came in: it says more and counts as full. Else prove '..UptoSaid'. A law counts once. -/
mutual
def uptoBulk {H : Type} : DataW H → Nat
  | .lit (.string bytes) => bytes.length + 1
  | .lit _ => 1
  | .nil => 1
  | .ptr d => uptoBulk d + 1
  | .slice elems spare => uptoBulkAll elems + uptoBulkAll spare + 1
  | .agg parts => uptoBulkAll parts + 1
  | .iface _ d => uptoBulk d + 1
  | .map entries => uptoBulkEntries entries + 1
  | .held _ => 1
def uptoBulkAll {H : Type} : List (DataW H) → Nat
  | [] => 0
  | d :: r => uptoBulk d + uptoBulkAll r
def uptoBulkEntries {H : Type} : List (Lit × DataW H) → Nat
  | [] => 0
  | x :: r => uptoBulkEntry x + uptoBulkEntries r
def uptoBulkEntry {H : Type} : Lit × DataW H → Nat
  | (.string bytes, d) => bytes.length + uptoBulk d + 1
  | (_, d) => uptoBulk d + 1
 end
def uptoSmall : (H : Type) → List (DataW H) → Bool := fun _ ds => decide (uptoBulkAll ds ≤ 1048576)
def OpenSpec.upto (s : _root_.Go.ChangeSpec) : _root_.Go.OpenSpec := { _root_.Go.OpenSpec.ofChange s with cond := some uptoSmall }

/-- 'laws.FnExactPatternOk', WHERE WHAT IT READS IS OF BULK AT MOST 1048576: true; the input reads as it did. -/
def fnExactPatternOkUptoRow : OpenClaim := { program := "ytdnkeicclgcgmaa", sum := "fb750238b92915ca78a188ebc0b4f8f9d73acd913388cf8299dd8b6acdde4eea", func := "loop.example/g03201/laws.FnExactPatternOk", spec := "fnExactPatternOk", apart := false, narrowed := true }
def FnExactPatternOkUptoSaid : Prop := fnExactPatternOkUptoRow.holds Try.pinned (OpenSpec.upto fnExactPatternOkSpec)

/-- 'laws.FnExactNewConsole', WHERE WHAT IT READS IS OF BULK AT MOST 1048576: true; the input reads as it did. -/
def fnExactNewConsoleUptoRow : OpenClaim := { program := "ytdnkeicclgcgmaa", sum := "fb750238b92915ca78a188ebc0b4f8f9d73acd913388cf8299dd8b6acdde4eea", func := "loop.example/g03201/laws.FnExactNewConsole", spec := "fnExactNewConsole", apart := false, narrowed := true }
def FnExactNewConsoleUptoSaid : Prop := fnExactNewConsoleUptoRow.holds Try.pinned (OpenSpec.upto fnExactNewConsoleSpec)

/-- 'laws.FnExactFormatWords', WHERE WHAT IT READS IS OF BULK AT MOST 1048576: true; the input reads as it did. -/
def fnExactFormatWordsUptoRow : OpenClaim := { program := "ytdnkeicclgcgmaa", sum := "fb750238b92915ca78a188ebc0b4f8f9d73acd913388cf8299dd8b6acdde4eea", func := "loop.example/g03201/laws.FnExactFormatWords", spec := "fnExactFormatWords", inPlace := ["internal/abi.NoEscape", "internal/bytealg.MakeNoZero"], apart := false, narrowed := true }
def FnExactFormatWordsUptoSaid : Prop := fnExactFormatWordsUptoRow.holds Try.pinned (OpenSpec.upto fnExactFormatWordsSpec)

/-- 'laws.FnExactZeroOf', WHERE WHAT IT READS IS OF BULK AT MOST 1048576: true; the input reads as it did. -/
def fnExactZeroOfUptoRow : OpenClaim := { program := "ytdnkeicclgcgmaa", sum := "fb750238b92915ca78a188ebc0b4f8f9d73acd913388cf8299dd8b6acdde4eea", func := "loop.example/g03201/laws.FnExactZeroOf", spec := "fnExactZeroOf", unfollowed := true, recurses := true, apart := false, narrowed := true }
def FnExactZeroOfUptoSaid : Prop := fnExactZeroOfUptoRow.holds Try.pinned (OpenSpec.upto fnExactZeroOfSpec)

/-- 'laws.FnExactIsGroup', WHERE WHAT IT READS IS OF BULK AT MOST 1048576: true; the input reads as it did. -/
def fnExactIsGroupUptoRow : OpenClaim := { program := "ytdnkeicclgcgmaa", sum := "fb750238b92915ca78a188ebc0b4f8f9d73acd913388cf8299dd8b6acdde4eea", func := "loop.example/g03201/laws.FnExactIsGroup", spec := "fnExactIsGroup", unfollowed := true, recurses := true, apart := false, narrowed := true }
def FnExactIsGroupUptoSaid : Prop := fnExactIsGroupUptoRow.holds Try.pinned (OpenSpec.upto fnExactIsGroupSpec)

/-- 'laws.FnExactVariablesOf', WHERE WHAT IT READS IS OF BULK AT MOST 1048576: true; the input reads as it did. -/
def fnExactVariablesOfUptoRow : OpenClaim := { program := "ytdnkeicclgcgmaa", sum := "fb750238b92915ca78a188ebc0b4f8f9d73acd913388cf8299dd8b6acdde4eea", func := "loop.example/g03201/laws.FnExactVariablesOf", spec := "fnExactVariablesOf", inPlace := ["internal/bytealg.IndexByteString", "internal/bytealg.IndexString"], named := ["internal/bytealg.MaxLen"], apart := false, narrowed := true }
def FnExactVariablesOfUptoSaid : Prop := fnExactVariablesOfUptoRow.holds Try.pinned (OpenSpec.upto fnExactVariablesOfSpec)

end Rows
end Go.Proofs.Ytdnkeicclgcgmaa
