/-
  No cell of these rows narrows 'for every input' (looked for: loops, veiled, ifaces, maps, wideKeys, modest, calm, conditions, laid).
  DERIVED. THE GIVEN ROWS OF THIS SEAT. 14 by the template 'for every input the law returns true; each argument reads behind the call as it read before'; 0 by the template 'total and deterministic' (their statements: YtkkffaiacipibaaTotals.lean).
  GIVEN WITH THE SEED: the statements are not yours to turn. If you find one false, say at which input.
  Laid BY PROGRAM, IN A SANDBOX (cutbox-rows.mjs): the forced cells as the released guide's own fill.sh prints them over the translation b2decc2759f321f2… (all of the seat's roots in one cut). By AI agents, Wed Nov 11 2026. No macro, syntax, notation, axiom, sorry.
-/
import Derived.Test.YtkkffaiacipibaaChecked
import GoSem.Claim
import GoSem.ClaimJoined
import GoSem.ClaimMapViews
import Derived.JoinedTies
import Derived.KernelRfl
namespace Go.Proofs.Ytkkffaiacipibaa
/- THE CELL 'sum', in the pinned program and in every row, IS THE sha256 OF THE DUMP (.gsa) THAT YtkkffaiacipibaaProg.lean LOADS. Nothing in Lean hashes anything: it is a label: what it is worth is what the hold of that sum in a sandbox is worth. -/
noncomputable def Try.pinned : Pinned := { name := "ytkkffaiacipibaa", sum := "b2decc2759f321f280bcb56567246c6954e53d053fdc78c408532ea02892d276", checked := Try.checked }
namespace Rows
def none {H : Type} : Left H := { results := [], args := [] }

/-- 'laws.FnExactZeroOf': WHATEVER THE INPUT: true; the input reads as it did. -/
def fnExactZeroOfSpec : ChangeSpec := { name := "fnExactZeroOf", fn := fun _ => fun
  | [d] => { results := [.lit (.bool true)], args := [d] }
  | _ => none }
def fnExactZeroOfRow : OpenClaim := { program := "ytkkffaiacipibaa", sum := "b2decc2759f321f280bcb56567246c6954e53d053fdc78c408532ea02892d276", func := "loop.example/g03201/laws.FnExactZeroOf", spec := "fnExactZeroOf", unfollowed := true, recurses := true, apart := false }
def FnExactZeroOfSaid : Prop := fnExactZeroOfRow.holds Try.pinned (OpenSpec.ofChange fnExactZeroOfSpec)

/-- ITS FALSE NEIGHBOUR: 'it returns false'. Refute it at one input. -/
def fnExactZeroOfWrong : ChangeSpec := { name := "fnExactZeroOf", fn := fun _ => fun
  | [d] => { results := [.lit (.bool false)], args := [d] }
  | _ => none }
def FnExactZeroOfWrongFalsely : Prop := fnExactZeroOfRow.holds Try.pinned (OpenSpec.ofChange fnExactZeroOfWrong)

/-- 'laws.FnExactIsGroup': WHATEVER THE INPUT: true; the input reads as it did. -/
def fnExactIsGroupSpec : ChangeSpec := { name := "fnExactIsGroup", fn := fun _ => fun
  | [d] => { results := [.lit (.bool true)], args := [d] }
  | _ => none }
def fnExactIsGroupRow : OpenClaim := { program := "ytkkffaiacipibaa", sum := "b2decc2759f321f280bcb56567246c6954e53d053fdc78c408532ea02892d276", func := "loop.example/g03201/laws.FnExactIsGroup", spec := "fnExactIsGroup", unfollowed := true, recurses := true, apart := false }
def FnExactIsGroupSaid : Prop := fnExactIsGroupRow.holds Try.pinned (OpenSpec.ofChange fnExactIsGroupSpec)

/-- ITS FALSE NEIGHBOUR: 'it returns false'. Refute it at one input. -/
def fnExactIsGroupWrong : ChangeSpec := { name := "fnExactIsGroup", fn := fun _ => fun
  | [d] => { results := [.lit (.bool false)], args := [d] }
  | _ => none }
def FnExactIsGroupWrongFalsely : Prop := fnExactIsGroupRow.holds Try.pinned (OpenSpec.ofChange fnExactIsGroupWrong)

/-- 'laws.FnExactUnitsOf': WHATEVER THE INPUT: true; the input reads as it did. -/
def fnExactUnitsOfSpec : ChangeSpec := { name := "fnExactUnitsOf", fn := fun _ => fun
  | [d] => { results := [.lit (.bool true)], args := [d] }
  | _ => none }
def fnExactUnitsOfRow : OpenClaim := { program := "ytkkffaiacipibaa", sum := "b2decc2759f321f280bcb56567246c6954e53d053fdc78c408532ea02892d276", func := "loop.example/g03201/laws.FnExactUnitsOf", spec := "fnExactUnitsOf", unfollowed := true, recurses := true, apart := false }
def FnExactUnitsOfSaid : Prop := fnExactUnitsOfRow.holds Try.pinned (OpenSpec.ofChange fnExactUnitsOfSpec)

/-- ITS FALSE NEIGHBOUR: 'it returns false'. Refute it at one input. -/
def fnExactUnitsOfWrong : ChangeSpec := { name := "fnExactUnitsOf", fn := fun _ => fun
  | [d] => { results := [.lit (.bool false)], args := [d] }
  | _ => none }
def FnExactUnitsOfWrongFalsely : Prop := fnExactUnitsOfRow.holds Try.pinned (OpenSpec.ofChange fnExactUnitsOfWrong)

/-- 'laws.FnExactAreIsomorphic': WHATEVER THE INPUT: true; the input reads as it did. -/
def fnExactAreIsomorphicSpec : ChangeSpec := { name := "fnExactAreIsomorphic", fn := fun _ => fun
  | [d1, d2] => { results := [.lit (.bool true)], args := [d1, d2] }
  | _ => none }
def fnExactAreIsomorphicRow : OpenClaim := { program := "ytkkffaiacipibaa", sum := "b2decc2759f321f280bcb56567246c6954e53d053fdc78c408532ea02892d276", func := "loop.example/g03201/laws.FnExactAreIsomorphic", spec := "fnExactAreIsomorphic", unfollowed := true, recurses := true, apart := false }
def FnExactAreIsomorphicSaid : Prop := fnExactAreIsomorphicRow.holds Try.pinned (OpenSpec.ofChange fnExactAreIsomorphicSpec)

/-- ITS FALSE NEIGHBOUR: 'it returns false'. Refute it at one input. -/
def fnExactAreIsomorphicWrong : ChangeSpec := { name := "fnExactAreIsomorphic", fn := fun _ => fun
  | [d1, d2] => { results := [.lit (.bool false)], args := [d1, d2] }
  | _ => none }
def FnExactAreIsomorphicWrongFalsely : Prop := fnExactAreIsomorphicRow.holds Try.pinned (OpenSpec.ofChange fnExactAreIsomorphicWrong)

/-- 'laws.FnExactRegularOf': WHATEVER THE INPUT: true; the input reads as it did. -/
def fnExactRegularOfSpec : ChangeSpec := { name := "fnExactRegularOf", fn := fun _ => fun
  | [d] => { results := [.lit (.bool true)], args := [d] }
  | _ => none }
def fnExactRegularOfRow : OpenClaim := { program := "ytkkffaiacipibaa", sum := "b2decc2759f321f280bcb56567246c6954e53d053fdc78c408532ea02892d276", func := "loop.example/g03201/laws.FnExactRegularOf", spec := "fnExactRegularOf", unfollowed := true, recurses := true, apart := false }
def FnExactRegularOfSaid : Prop := fnExactRegularOfRow.holds Try.pinned (OpenSpec.ofChange fnExactRegularOfSpec)

/-- ITS FALSE NEIGHBOUR: 'it returns false'. Refute it at one input. -/
def fnExactRegularOfWrong : ChangeSpec := { name := "fnExactRegularOf", fn := fun _ => fun
  | [d] => { results := [.lit (.bool false)], args := [d] }
  | _ => none }
def FnExactRegularOfWrongFalsely : Prop := fnExactRegularOfRow.holds Try.pinned (OpenSpec.ofChange fnExactRegularOfWrong)

/-- 'laws.FnExactInverseOf': WHATEVER THE INPUT: true; the input reads as it did. -/
def fnExactInverseOfSpec : ChangeSpec := { name := "fnExactInverseOf", fn := fun _ => fun
  | [d1, d2] => { results := [.lit (.bool true)], args := [d1, d2] }
  | _ => none }
def fnExactInverseOfRow : OpenClaim := { program := "ytkkffaiacipibaa", sum := "b2decc2759f321f280bcb56567246c6954e53d053fdc78c408532ea02892d276", func := "loop.example/g03201/laws.FnExactInverseOf", spec := "fnExactInverseOf", unfollowed := true, recurses := true, apart := false }
def FnExactInverseOfSaid : Prop := fnExactInverseOfRow.holds Try.pinned (OpenSpec.ofChange fnExactInverseOfSpec)

/-- ITS FALSE NEIGHBOUR: 'it returns false'. Refute it at one input. -/
def fnExactInverseOfWrong : ChangeSpec := { name := "fnExactInverseOf", fn := fun _ => fun
  | [d1, d2] => { results := [.lit (.bool false)], args := [d1, d2] }
  | _ => none }
def FnExactInverseOfWrongFalsely : Prop := fnExactInverseOfRow.holds Try.pinned (OpenSpec.ofChange fnExactInverseOfWrong)

/-- 'laws.FnExactOrderOf': WHATEVER THE INPUT: true; the input reads as it did. -/
def fnExactOrderOfSpec : ChangeSpec := { name := "fnExactOrderOf", fn := fun _ => fun
  | [d1, d2] => { results := [.lit (.bool true)], args := [d1, d2] }
  | _ => none }
def fnExactOrderOfRow : OpenClaim := { program := "ytkkffaiacipibaa", sum := "b2decc2759f321f280bcb56567246c6954e53d053fdc78c408532ea02892d276", func := "loop.example/g03201/laws.FnExactOrderOf", spec := "fnExactOrderOf", unfollowed := true, recurses := true, apart := false }
def FnExactOrderOfSaid : Prop := fnExactOrderOfRow.holds Try.pinned (OpenSpec.ofChange fnExactOrderOfSpec)

/-- ITS FALSE NEIGHBOUR: 'it returns false'. Refute it at one input. -/
def fnExactOrderOfWrong : ChangeSpec := { name := "fnExactOrderOf", fn := fun _ => fun
  | [d1, d2] => { results := [.lit (.bool false)], args := [d1, d2] }
  | _ => none }
def FnExactOrderOfWrongFalsely : Prop := fnExactOrderOfRow.holds Try.pinned (OpenSpec.ofChange fnExactOrderOfWrong)

/-- 'laws.FnExactCenterOf': WHATEVER THE INPUT: true; the input reads as it did. -/
def fnExactCenterOfSpec : ChangeSpec := { name := "fnExactCenterOf", fn := fun _ => fun
  | [d] => { results := [.lit (.bool true)], args := [d] }
  | _ => none }
def fnExactCenterOfRow : OpenClaim := { program := "ytkkffaiacipibaa", sum := "b2decc2759f321f280bcb56567246c6954e53d053fdc78c408532ea02892d276", func := "loop.example/g03201/laws.FnExactCenterOf", spec := "fnExactCenterOf", unfollowed := true, recurses := true, apart := false }
def FnExactCenterOfSaid : Prop := fnExactCenterOfRow.holds Try.pinned (OpenSpec.ofChange fnExactCenterOfSpec)

/-- ITS FALSE NEIGHBOUR: 'it returns false'. Refute it at one input. -/
def fnExactCenterOfWrong : ChangeSpec := { name := "fnExactCenterOf", fn := fun _ => fun
  | [d] => { results := [.lit (.bool false)], args := [d] }
  | _ => none }
def FnExactCenterOfWrongFalsely : Prop := fnExactCenterOfRow.holds Try.pinned (OpenSpec.ofChange fnExactCenterOfWrong)

/-- 'laws.FnExactConjugatesOf': WHATEVER THE INPUT: true; the input reads as it did. -/
def fnExactConjugatesOfSpec : ChangeSpec := { name := "fnExactConjugatesOf", fn := fun _ => fun
  | [d1, d2] => { results := [.lit (.bool true)], args := [d1, d2] }
  | _ => none }
def fnExactConjugatesOfRow : OpenClaim := { program := "ytkkffaiacipibaa", sum := "b2decc2759f321f280bcb56567246c6954e53d053fdc78c408532ea02892d276", func := "loop.example/g03201/laws.FnExactConjugatesOf", spec := "fnExactConjugatesOf", unfollowed := true, recurses := true, apart := false }
def FnExactConjugatesOfSaid : Prop := fnExactConjugatesOfRow.holds Try.pinned (OpenSpec.ofChange fnExactConjugatesOfSpec)

/-- ITS FALSE NEIGHBOUR: 'it returns false'. Refute it at one input. -/
def fnExactConjugatesOfWrong : ChangeSpec := { name := "fnExactConjugatesOf", fn := fun _ => fun
  | [d1, d2] => { results := [.lit (.bool false)], args := [d1, d2] }
  | _ => none }
def FnExactConjugatesOfWrongFalsely : Prop := fnExactConjugatesOfRow.holds Try.pinned (OpenSpec.ofChange fnExactConjugatesOfWrong)

/-- 'laws.FnExactSubgroupOf': WHATEVER THE INPUT: true; the input reads as it did. -/
def fnExactSubgroupOfSpec : ChangeSpec := { name := "fnExactSubgroupOf", fn := fun _ => fun
  | [d1, d2] => { results := [.lit (.bool true)], args := [d1, d2] }
  | _ => none }
def fnExactSubgroupOfRow : OpenClaim := { program := "ytkkffaiacipibaa", sum := "b2decc2759f321f280bcb56567246c6954e53d053fdc78c408532ea02892d276", func := "loop.example/g03201/laws.FnExactSubgroupOf", spec := "fnExactSubgroupOf", unfollowed := true, recurses := true, apart := false }
def FnExactSubgroupOfSaid : Prop := fnExactSubgroupOfRow.holds Try.pinned (OpenSpec.ofChange fnExactSubgroupOfSpec)

/-- ITS FALSE NEIGHBOUR: 'it returns false'. Refute it at one input. -/
def fnExactSubgroupOfWrong : ChangeSpec := { name := "fnExactSubgroupOf", fn := fun _ => fun
  | [d1, d2] => { results := [.lit (.bool false)], args := [d1, d2] }
  | _ => none }
def FnExactSubgroupOfWrongFalsely : Prop := fnExactSubgroupOfRow.holds Try.pinned (OpenSpec.ofChange fnExactSubgroupOfWrong)

/-- 'laws.FnExactIsNormal': WHATEVER THE INPUT: true; the input reads as it did. -/
def fnExactIsNormalSpec : ChangeSpec := { name := "fnExactIsNormal", fn := fun _ => fun
  | [d1, d2] => { results := [.lit (.bool true)], args := [d1, d2] }
  | _ => none }
def fnExactIsNormalRow : OpenClaim := { program := "ytkkffaiacipibaa", sum := "b2decc2759f321f280bcb56567246c6954e53d053fdc78c408532ea02892d276", func := "loop.example/g03201/laws.FnExactIsNormal", spec := "fnExactIsNormal", unfollowed := true, recurses := true, apart := false }
def FnExactIsNormalSaid : Prop := fnExactIsNormalRow.holds Try.pinned (OpenSpec.ofChange fnExactIsNormalSpec)

/-- ITS FALSE NEIGHBOUR: 'it returns false'. Refute it at one input. -/
def fnExactIsNormalWrong : ChangeSpec := { name := "fnExactIsNormal", fn := fun _ => fun
  | [d1, d2] => { results := [.lit (.bool false)], args := [d1, d2] }
  | _ => none }
def FnExactIsNormalWrongFalsely : Prop := fnExactIsNormalRow.holds Try.pinned (OpenSpec.ofChange fnExactIsNormalWrong)

/-- 'laws.FnExactClassSizes': WHATEVER THE INPUT: true; the input reads as it did. -/
def fnExactClassSizesSpec : ChangeSpec := { name := "fnExactClassSizes", fn := fun _ => fun
  | [d] => { results := [.lit (.bool true)], args := [d] }
  | _ => none }
def fnExactClassSizesRow : OpenClaim := { program := "ytkkffaiacipibaa", sum := "b2decc2759f321f280bcb56567246c6954e53d053fdc78c408532ea02892d276", func := "loop.example/g03201/laws.FnExactClassSizes", spec := "fnExactClassSizes", unfollowed := true, recurses := true, apart := false }
def FnExactClassSizesSaid : Prop := fnExactClassSizesRow.holds Try.pinned (OpenSpec.ofChange fnExactClassSizesSpec)

/-- ITS FALSE NEIGHBOUR: 'it returns false'. Refute it at one input. -/
def fnExactClassSizesWrong : ChangeSpec := { name := "fnExactClassSizes", fn := fun _ => fun
  | [d] => { results := [.lit (.bool false)], args := [d] }
  | _ => none }
def FnExactClassSizesWrongFalsely : Prop := fnExactClassSizesRow.holds Try.pinned (OpenSpec.ofChange fnExactClassSizesWrong)

/-- 'laws.FnExactCommutatorsOf': WHATEVER THE INPUT: true; the input reads as it did. -/
def fnExactCommutatorsOfSpec : ChangeSpec := { name := "fnExactCommutatorsOf", fn := fun _ => fun
  | [d] => { results := [.lit (.bool true)], args := [d] }
  | _ => none }
def fnExactCommutatorsOfRow : OpenClaim := { program := "ytkkffaiacipibaa", sum := "b2decc2759f321f280bcb56567246c6954e53d053fdc78c408532ea02892d276", func := "loop.example/g03201/laws.FnExactCommutatorsOf", spec := "fnExactCommutatorsOf", unfollowed := true, recurses := true, apart := false }
def FnExactCommutatorsOfSaid : Prop := fnExactCommutatorsOfRow.holds Try.pinned (OpenSpec.ofChange fnExactCommutatorsOfSpec)

/-- ITS FALSE NEIGHBOUR: 'it returns false'. Refute it at one input. -/
def fnExactCommutatorsOfWrong : ChangeSpec := { name := "fnExactCommutatorsOf", fn := fun _ => fun
  | [d] => { results := [.lit (.bool false)], args := [d] }
  | _ => none }
def FnExactCommutatorsOfWrongFalsely : Prop := fnExactCommutatorsOfRow.holds Try.pinned (OpenSpec.ofChange fnExactCommutatorsOfWrong)

/-- 'laws.FnExactCosetsOf': WHATEVER THE INPUT: true; the input reads as it did. -/
def fnExactCosetsOfSpec : ChangeSpec := { name := "fnExactCosetsOf", fn := fun _ => fun
  | [d1, d2] => { results := [.lit (.bool true)], args := [d1, d2] }
  | _ => none }
def fnExactCosetsOfRow : OpenClaim := { program := "ytkkffaiacipibaa", sum := "b2decc2759f321f280bcb56567246c6954e53d053fdc78c408532ea02892d276", func := "loop.example/g03201/laws.FnExactCosetsOf", spec := "fnExactCosetsOf", unfollowed := true, recurses := true, apart := false }
def FnExactCosetsOfSaid : Prop := fnExactCosetsOfRow.holds Try.pinned (OpenSpec.ofChange fnExactCosetsOfSpec)

/-- ITS FALSE NEIGHBOUR: 'it returns false'. Refute it at one input. -/
def fnExactCosetsOfWrong : ChangeSpec := { name := "fnExactCosetsOf", fn := fun _ => fun
  | [d1, d2] => { results := [.lit (.bool false)], args := [d1, d2] }
  | _ => none }
def FnExactCosetsOfWrongFalsely : Prop := fnExactCosetsOfRow.holds Try.pinned (OpenSpec.ofChange fnExactCosetsOfWrong)

/- THE SECOND FORM. 'bulk': how many values and letters a reading holds, each counted each time it is reached (what is shared counts as often as it is met; a slice's spare places count too). A statement '..UptoSaid' is the law's where the arguments, and the package variables that the reading takes, are together of bulk at most 1048576: NARROWER than '..Said'. Prove '..Said' where nothing that the law and all that it calls make is longer than what came in: it says more and counts as full. Else prove '..UptoSaid'. A law counts once. -/
mutual
def uptoBulk {H : Type} : DataW H → Nat
  | .lit (.string bytes) => bytes.length + 1
  | .lit _ => 1
  | .nil => 1
  | .ptr d => uptoBulk d + 1
  | .slice elems spare => uptoBulkAll elems + uptoBulkAll spare + 1
  | .agg parts => uptoBulkAll parts + 1
  | .iface _ d => uptoBulk d + 1
  | .map entries => uptoBulkEntries entries + 1
  | .held _ => 1
def uptoBulkAll {H : Type} : List (DataW H) → Nat
  | [] => 0
  | d :: r => uptoBulk d + uptoBulkAll r
def uptoBulkEntries {H : Type} : List (Lit × DataW H) → Nat
  | [] => 0
  | x :: r => uptoBulkEntry x + uptoBulkEntries r
def uptoBulkEntry {H : Type} : Lit × DataW H → Nat
  | (.string bytes, d) => bytes.length + uptoBulk d + 1
  | (_, d) => uptoBulk d + 1
 end
def uptoSmall : (H : Type) → List (DataW H) → Bool := fun _ ds => decide (uptoBulkAll ds ≤ 1048576)
def OpenSpec.upto (s : _root_.Go.ChangeSpec) : _root_.Go.OpenSpec := { _root_.Go.OpenSpec.ofChange s with cond := some uptoSmall }

/-- 'laws.FnExactZeroOf', WHERE WHAT IT READS IS OF BULK AT MOST 1048576: true; the input reads as it did. -/
def fnExactZeroOfUptoRow : OpenClaim := { program := "ytkkffaiacipibaa", sum := "b2decc2759f321f280bcb56567246c6954e53d053fdc78c408532ea02892d276", func := "loop.example/g03201/laws.FnExactZeroOf", spec := "fnExactZeroOf", unfollowed := true, recurses := true, apart := false, narrowed := true }
def FnExactZeroOfUptoSaid : Prop := fnExactZeroOfUptoRow.holds Try.pinned (OpenSpec.upto fnExactZeroOfSpec)

/-- 'laws.FnExactIsGroup', WHERE WHAT IT READS IS OF BULK AT MOST 1048576: true; the input reads as it did. -/
def fnExactIsGroupUptoRow : OpenClaim := { program := "ytkkffaiacipibaa", sum := "b2decc2759f321f280bcb56567246c6954e53d053fdc78c408532ea02892d276", func := "loop.example/g03201/laws.FnExactIsGroup", spec := "fnExactIsGroup", unfollowed := true, recurses := true, apart := false, narrowed := true }
def FnExactIsGroupUptoSaid : Prop := fnExactIsGroupUptoRow.holds Try.pinned (OpenSpec.upto fnExactIsGroupSpec)

/-- 'laws.FnExactUnitsOf', WHERE WHAT IT READS IS OF BULK AT MOST 1048576: true; the input reads as it did. -/
def fnExactUnitsOfUptoRow : OpenClaim := { program := "ytkkffaiacipibaa", sum := "b2decc2759f321f280bcb56567246c6954e53d053fdc78c408532ea02892d276", func := "loop.example/g03201/laws.FnExactUnitsOf", spec := "fnExactUnitsOf", unfollowed := true, recurses := true, apart := false, narrowed := true }
def FnExactUnitsOfUptoSaid : Prop := fnExactUnitsOfUptoRow.holds Try.pinned (OpenSpec.upto fnExactUnitsOfSpec)

/-- 'laws.FnExactAreIsomorphic', WHERE WHAT IT READS IS OF BULK AT MOST 1048576: true; the input reads as it did. -/
def fnExactAreIsomorphicUptoRow : OpenClaim := { program := "ytkkffaiacipibaa", sum := "b2decc2759f321f280bcb56567246c6954e53d053fdc78c408532ea02892d276", func := "loop.example/g03201/laws.FnExactAreIsomorphic", spec := "fnExactAreIsomorphic", unfollowed := true, recurses := true, apart := false, narrowed := true }
def FnExactAreIsomorphicUptoSaid : Prop := fnExactAreIsomorphicUptoRow.holds Try.pinned (OpenSpec.upto fnExactAreIsomorphicSpec)

/-- 'laws.FnExactRegularOf', WHERE WHAT IT READS IS OF BULK AT MOST 1048576: true; the input reads as it did. -/
def fnExactRegularOfUptoRow : OpenClaim := { program := "ytkkffaiacipibaa", sum := "b2decc2759f321f280bcb56567246c6954e53d053fdc78c408532ea02892d276", func := "loop.example/g03201/laws.FnExactRegularOf", spec := "fnExactRegularOf", unfollowed := true, recurses := true, apart := false, narrowed := true }
def FnExactRegularOfUptoSaid : Prop := fnExactRegularOfUptoRow.holds Try.pinned (OpenSpec.upto fnExactRegularOfSpec)

/-- 'laws.FnExactInverseOf', WHERE WHAT IT READS IS OF BULK AT MOST 1048576: true; the input reads as it did. -/
def fnExactInverseOfUptoRow : OpenClaim := { program := "ytkkffaiacipibaa", sum := "b2decc2759f321f280bcb56567246c6954e53d053fdc78c408532ea02892d276", func := "loop.example/g03201/laws.FnExactInverseOf", spec := "fnExactInverseOf", unfollowed := true, recurses := true, apart := false, narrowed := true }
def FnExactInverseOfUptoSaid : Prop := fnExactInverseOfUptoRow.holds Try.pinned (OpenSpec.upto fnExactInverseOfSpec)

/-- 'laws.FnExactOrderOf', WHERE WHAT IT READS IS OF BULK AT MOST 1048576: true; the input reads as it did. -/
def fnExactOrderOfUptoRow : OpenClaim := { program := "ytkkffaiacipibaa", sum := "b2decc2759f321f280bcb56567246c6954e53d053fdc78c408532ea02892d276", func := "loop.example/g03201/laws.FnExactOrderOf", spec := "fnExactOrderOf", unfollowed := true, recurses := true, apart := false, narrowed := true }
def FnExactOrderOfUptoSaid : Prop := fnExactOrderOfUptoRow.holds Try.pinned (OpenSpec.upto fnExactOrderOfSpec)

/-- 'laws.FnExactCenterOf', WHERE WHAT IT READS IS OF BULK AT MOST 1048576: true; the input reads as it did. -/
def fnExactCenterOfUptoRow : OpenClaim := { program := "ytkkffaiacipibaa", sum := "b2decc2759f321f280bcb56567246c6954e53d053fdc78c408532ea02892d276", func := "loop.example/g03201/laws.FnExactCenterOf", spec := "fnExactCenterOf", unfollowed := true, recurses := true, apart := false, narrowed := true }
def FnExactCenterOfUptoSaid : Prop := fnExactCenterOfUptoRow.holds Try.pinned (OpenSpec.upto fnExactCenterOfSpec)

/-- 'laws.FnExactConjugatesOf', WHERE WHAT IT READS IS OF BULK AT MOST 1048576: true; the input reads as it did. -/
def fnExactConjugatesOfUptoRow : OpenClaim := { program := "ytkkffaiacipibaa", sum := "b2decc2759f321f280bcb56567246c6954e53d053fdc78c408532ea02892d276", func := "loop.example/g03201/laws.FnExactConjugatesOf", spec := "fnExactConjugatesOf", unfollowed := true, recurses := true, apart := false, narrowed := true }
def FnExactConjugatesOfUptoSaid : Prop := fnExactConjugatesOfUptoRow.holds Try.pinned (OpenSpec.upto fnExactConjugatesOfSpec)

/-- 'laws.FnExactSubgroupOf', WHERE WHAT IT READS IS OF BULK AT MOST 1048576: true; the input reads as it did. -/
def fnExactSubgroupOfUptoRow : OpenClaim := { program := "ytkkffaiacipibaa", sum := "b2decc2759f321f280bcb56567246c6954e53d053fdc78c408532ea02892d276", func := "loop.example/g03201/laws.FnExactSubgroupOf", spec := "fnExactSubgroupOf", unfollowed := true, recurses := true, apart := false, narrowed := true }
def FnExactSubgroupOfUptoSaid : Prop := fnExactSubgroupOfUptoRow.holds Try.pinned (OpenSpec.upto fnExactSubgroupOfSpec)

/-- 'laws.FnExactIsNormal', WHERE WHAT IT READS IS OF BULK AT MOST 1048576: true; the input reads as it did. -/
def fnExactIsNormalUptoRow : OpenClaim := { program := "ytkkffaiacipibaa", sum := "b2decc2759f321f280bcb56567246c6954e53d053fdc78c408532ea02892d276", func := "loop.example/g03201/laws.FnExactIsNormal", spec := "fnExactIsNormal", unfollowed := true, recurses := true, apart := false, narrowed := true }
def FnExactIsNormalUptoSaid : Prop := fnExactIsNormalUptoRow.holds Try.pinned (OpenSpec.upto fnExactIsNormalSpec)

/-- 'laws.FnExactClassSizes', WHERE WHAT IT READS IS OF BULK AT MOST 1048576: true; the input reads as it did. -/
def fnExactClassSizesUptoRow : OpenClaim := { program := "ytkkffaiacipibaa", sum := "b2decc2759f321f280bcb56567246c6954e53d053fdc78c408532ea02892d276", func := "loop.example/g03201/laws.FnExactClassSizes", spec := "fnExactClassSizes", unfollowed := true, recurses := true, apart := false, narrowed := true }
def FnExactClassSizesUptoSaid : Prop := fnExactClassSizesUptoRow.holds Try.pinned (OpenSpec.upto fnExactClassSizesSpec)

/-- 'laws.FnExactCommutatorsOf', WHERE WHAT IT READS IS OF BULK AT MOST 1048576: true; the input reads as it did. -/
def fnExactCommutatorsOfUptoRow : OpenClaim := { program := "ytkkffaiacipibaa", sum := "b2decc2759f321f280bcb56567246c6954e53d053fdc78c408532ea02892d276", func := "loop.example/g03201/laws.FnExactCommutatorsOf", spec := "fnExactCommutatorsOf", unfollowed := true, recurses := true, apart := false, narrowed := true }
def FnExactCommutatorsOfUptoSaid : Prop := fnExactCommutatorsOfUptoRow.holds Try.pinned (OpenSpec.upto fnExactCommutatorsOfSpec)

/-- 'laws.FnExactCosetsOf', WHERE WHAT IT READS IS OF BULK AT MOST 1048576: true; the input reads as it did. -/
def fnExactCosetsOfUptoRow : OpenClaim := { program := "ytkkffaiacipibaa", sum := "b2decc2759f321f280bcb56567246c6954e53d053fdc78c408532ea02892d276", func := "loop.example/g03201/laws.FnExactCosetsOf", spec := "fnExactCosetsOf", unfollowed := true, recurses := true, apart := false, narrowed := true }
def FnExactCosetsOfUptoSaid : Prop := fnExactCosetsOfUptoRow.holds Try.pinned (OpenSpec.upto fnExactCosetsOfSpec)

end Rows
end Go.Proofs.Ytkkffaiacipibaa
