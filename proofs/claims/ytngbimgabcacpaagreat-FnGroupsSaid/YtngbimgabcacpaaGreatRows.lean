/-
  No cell of these rows narrows 'for every input' (looked for: loops, veiled, ifaces, maps, wideKeys, modest, calm, conditions, laid).
  DERIVED. THE GIVEN ROWS OF THIS SEAT. 3 by the template 'for every input the law returns true; each argument reads behind the call as it read before'; 0 by the template 'total and deterministic' (their statements: YtngbimgabcacpaaGreatTotals.lean).
  GIVEN WITH THE SEED: the statements are not yours to turn. If you find one false, say at which input.
  Laid BY PROGRAM, IN A SANDBOX (cutbox-rows.mjs): the forced cells as the released guide's own fill.sh prints them over the translation 2453e18599b193b8… (all of the seat's roots in one cut). By AI agents, Wed Nov 11 2026. No macro, syntax, notation, axiom, sorry.
-/
import Derived.Test.YtngbimgabcacpaaGreatChecked
import GoSem.Claim
import GoSem.ClaimJoined
import GoSem.ClaimMapViews
import Derived.JoinedTies
import Derived.KernelRfl
namespace Go.Proofs.YtngbimgabcacpaaGreat
/- THE CELL 'sum', in the pinned program and in every row, IS THE sha256 OF THE DUMP (.gsa) THAT YtngbimgabcacpaaGreatProg.lean LOADS. Nothing in Lean hashes anything: it is a label: what it is worth is what the hold of that sum in a sandbox is worth. -/
noncomputable def Tryz.pinned : Pinned := { name := "ytngbimgabcacpaagreat", sum := "2453e18599b193b889bc551a5504d22991bcf3f293ec2ef75d83795e462f57c3", checked := Tryz.checked }
namespace Rows
def none {H : Type} : Left H := { results := [], args := [] }

/-- 'laws.FnGroups': WHATEVER THE INPUT: true; the input reads as it did. -/
def fnGroupsSpec : ChangeSpec := { name := "fnGroups", fn := fun _ => fun
  | [d] => { results := [.lit (.bool true)], args := [d] }
  | _ => none }
def fnGroupsRow : OpenClaim := { program := "ytngbimgabcacpaagreat", sum := "2453e18599b193b889bc551a5504d22991bcf3f293ec2ef75d83795e462f57c3", func := "loop.example/g03201/laws.FnGroups", spec := "fnGroups", unfollowed := true, recurses := true, apart := false }
def FnGroupsSaid : Prop := fnGroupsRow.holds Tryz.pinned (OpenSpec.ofChange fnGroupsSpec)

/-- ITS FALSE NEIGHBOUR: 'it returns false'. Refute it at one input. -/
def fnGroupsWrong : ChangeSpec := { name := "fnGroups", fn := fun _ => fun
  | [d] => { results := [.lit (.bool false)], args := [d] }
  | _ => none }
def FnGroupsWrongFalsely : Prop := fnGroupsRow.holds Tryz.pinned (OpenSpec.ofChange fnGroupsWrong)

/-- 'laws.FnIdeals': WHATEVER THE INPUT: true; the input reads as it did. -/
def fnIdealsSpec : ChangeSpec := { name := "fnIdeals", fn := fun _ => fun
  | [d] => { results := [.lit (.bool true)], args := [d] }
  | _ => none }
def fnIdealsRow : OpenClaim := { program := "ytngbimgabcacpaagreat", sum := "2453e18599b193b889bc551a5504d22991bcf3f293ec2ef75d83795e462f57c3", func := "loop.example/g03201/laws.FnIdeals", spec := "fnIdeals", unfollowed := true, recurses := true, apart := false }
def FnIdealsSaid : Prop := fnIdealsRow.holds Tryz.pinned (OpenSpec.ofChange fnIdealsSpec)

/-- ITS FALSE NEIGHBOUR: 'it returns false'. Refute it at one input. -/
def fnIdealsWrong : ChangeSpec := { name := "fnIdeals", fn := fun _ => fun
  | [d] => { results := [.lit (.bool false)], args := [d] }
  | _ => none }
def FnIdealsWrongFalsely : Prop := fnIdealsRow.holds Tryz.pinned (OpenSpec.ofChange fnIdealsWrong)

/-- 'laws.FnConjugates': WHATEVER THE INPUT: true; the input reads as it did. -/
def fnConjugatesSpec : ChangeSpec := { name := "fnConjugates", fn := fun _ => fun
  | [d] => { results := [.lit (.bool true)], args := [d] }
  | _ => none }
def fnConjugatesRow : OpenClaim := { program := "ytngbimgabcacpaagreat", sum := "2453e18599b193b889bc551a5504d22991bcf3f293ec2ef75d83795e462f57c3", func := "loop.example/g03201/laws.FnConjugates", spec := "fnConjugates", unfollowed := true, recurses := true, apart := false }
def FnConjugatesSaid : Prop := fnConjugatesRow.holds Tryz.pinned (OpenSpec.ofChange fnConjugatesSpec)

/-- ITS FALSE NEIGHBOUR: 'it returns false'. Refute it at one input. -/
def fnConjugatesWrong : ChangeSpec := { name := "fnConjugates", fn := fun _ => fun
  | [d] => { results := [.lit (.bool false)], args := [d] }
  | _ => none }
def FnConjugatesWrongFalsely : Prop := fnConjugatesRow.holds Tryz.pinned (OpenSpec.ofChange fnConjugatesWrong)

/- THE SECOND FORM. 'bulk': how many values and letters a reading holds, each counted each time it is reached (what is shared counts as often as it is met; a slice's spare places count too). A statement '..UptoSaid' is the law's where the arguments, and the package variables that the reading takes, are together of bulk at most 1048576: NARROWER than '..Said'. Prove '..Said' where nothing that the law and all that it calls make is longer than what came in: it says more and counts as full. Else prove '..UptoSaid'. A law counts once. -/
mutual
def uptoBulk {H : Type} : DataW H → Nat
  | .lit (.string bytes) => bytes.length + 1
  | .lit _ => 1
  | .nil => 1
  | .ptr d => uptoBulk d + 1
  | .slice elems spare => uptoBulkAll elems + uptoBulkAll spare + 1
  | .agg parts => uptoBulkAll parts + 1
  | .iface _ d => uptoBulk d + 1
  | .map entries => uptoBulkEntries entries + 1
  | .held _ => 1
def uptoBulkAll {H : Type} : List (DataW H) → Nat
  | [] => 0
  | d :: r => uptoBulk d + uptoBulkAll r
def uptoBulkEntries {H : Type} : List (Lit × DataW H) → Nat
  | [] => 0
  | x :: r => uptoBulkEntry x + uptoBulkEntries r
def uptoBulkEntry {H : Type} : Lit × DataW H → Nat
  | (.string bytes, d) => bytes.length + uptoBulk d + 1
  | (_, d) => uptoBulk d + 1
 end
def uptoSmall : (H : Type) → List (DataW H) → Bool := fun _ ds => decide (uptoBulkAll ds ≤ 1048576)
def OpenSpec.upto (s : _root_.Go.ChangeSpec) : _root_.Go.OpenSpec := { _root_.Go.OpenSpec.ofChange s with cond := some uptoSmall }

/-- 'laws.FnGroups', WHERE WHAT IT READS IS OF BULK AT MOST 1048576: true; the input reads as it did. -/
def fnGroupsUptoRow : OpenClaim := { program := "ytngbimgabcacpaagreat", sum := "2453e18599b193b889bc551a5504d22991bcf3f293ec2ef75d83795e462f57c3", func := "loop.example/g03201/laws.FnGroups", spec := "fnGroups", unfollowed := true, recurses := true, apart := false, narrowed := true }
def FnGroupsUptoSaid : Prop := fnGroupsUptoRow.holds Tryz.pinned (OpenSpec.upto fnGroupsSpec)

/-- 'laws.FnIdeals', WHERE WHAT IT READS IS OF BULK AT MOST 1048576: true; the input reads as it did. -/
def fnIdealsUptoRow : OpenClaim := { program := "ytngbimgabcacpaagreat", sum := "2453e18599b193b889bc551a5504d22991bcf3f293ec2ef75d83795e462f57c3", func := "loop.example/g03201/laws.FnIdeals", spec := "fnIdeals", unfollowed := true, recurses := true, apart := false, narrowed := true }
def FnIdealsUptoSaid : Prop := fnIdealsUptoRow.holds Tryz.pinned (OpenSpec.upto fnIdealsSpec)

/-- 'laws.FnConjugates', WHERE WHAT IT READS IS OF BULK AT MOST 1048576: true; the input reads as it did. -/
def fnConjugatesUptoRow : OpenClaim := { program := "ytngbimgabcacpaagreat", sum := "2453e18599b193b889bc551a5504d22991bcf3f293ec2ef75d83795e462f57c3", func := "loop.example/g03201/laws.FnConjugates", spec := "fnConjugates", unfollowed := true, recurses := true, apart := false, narrowed := true }
def FnConjugatesUptoSaid : Prop := fnConjugatesUptoRow.holds Tryz.pinned (OpenSpec.upto fnConjugatesSpec)

end Rows
end Go.Proofs.YtngbimgabcacpaaGreat
