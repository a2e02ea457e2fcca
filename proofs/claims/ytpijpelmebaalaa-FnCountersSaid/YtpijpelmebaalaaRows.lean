/-
  No cell of these rows narrows 'for every input' (looked for: loops, veiled, ifaces, maps, wideKeys, modest, calm, conditions, laid).
  DERIVED. THE GIVEN ROWS OF THIS SEAT. 12 by the template 'for every input the law returns true; each argument reads behind the call as it read before'; 0 by the template 'total and deterministic' (their statements: YtpijpelmebaalaaTotals.lean).
  GIVEN WITH THE SEED: the statements are not yours to turn. If you find one false, say at which input.
  Laid BY PROGRAM, IN A SANDBOX (cutbox-rows.mjs): the forced cells as the released guide's own fill.sh prints them over the translation 3d4510cc29c8d324… (all of the seat's roots in one cut). By AI agents, Wed Nov 11 2026. No macro, syntax, notation, axiom, sorry.
-/
import Derived.Test.YtpijpelmebaalaaChecked
import GoSem.Claim
import GoSem.ClaimJoined
import GoSem.ClaimMapViews
import Derived.JoinedTies
import Derived.KernelRfl
namespace Go.Proofs.Ytpijpelmebaalaa
/- THE CELL 'sum', in the pinned program and in every row, IS THE sha256 OF THE DUMP (.gsa) THAT YtpijpelmebaalaaProg.lean LOADS. Nothing in Lean hashes anything: it is a label: what it is worth is what the hold of that sum in a sandbox is worth. -/
noncomputable def Try.pinned : Pinned := { name := "ytpijpelmebaalaa", sum := "3d4510cc29c8d324efb69c3dfdaa6d259014f4db6a5b6bd37522da7376d46f55", checked := Try.checked }
namespace Rows
def none {H : Type} : Left H := { results := [], args := [] }

/-- 'laws.FnExactCounterRow': WHATEVER THE INPUT: true; the input reads as it did. -/
def fnExactCounterRowSpec : ChangeSpec := { name := "fnExactCounterRow", fn := fun _ => fun
  | [d1, d2] => { results := [.lit (.bool true)], args := [d1, d2] }
  | _ => none }
def fnExactCounterRowRow : OpenClaim := { program := "ytpijpelmebaalaa", sum := "3d4510cc29c8d324efb69c3dfdaa6d259014f4db6a5b6bd37522da7376d46f55", func := "loop.example/g01265/laws.FnExactCounterRow", spec := "fnExactCounterRow", apart := false }
def FnExactCounterRowSaid : Prop := fnExactCounterRowRow.holds Try.pinned (OpenSpec.ofChange fnExactCounterRowSpec)

/-- ITS FALSE NEIGHBOUR: 'it returns false'. Refute it at one input. -/
def fnExactCounterRowWrong : ChangeSpec := { name := "fnExactCounterRow", fn := fun _ => fun
  | [d1, d2] => { results := [.lit (.bool false)], args := [d1, d2] }
  | _ => none }
def FnExactCounterRowWrongFalsely : Prop := fnExactCounterRowRow.holds Try.pinned (OpenSpec.ofChange fnExactCounterRowWrong)

/-- 'laws.FnExactStepChanges': WHATEVER THE INPUT: true; the input reads as it did. -/
def fnExactStepChangesSpec : ChangeSpec := { name := "fnExactStepChanges", fn := fun _ => fun
  | [d1, d2] => { results := [.lit (.bool true)], args := [d1, d2] }
  | _ => none }
def fnExactStepChangesRow : OpenClaim := { program := "ytpijpelmebaalaa", sum := "3d4510cc29c8d324efb69c3dfdaa6d259014f4db6a5b6bd37522da7376d46f55", func := "loop.example/g01265/laws.FnExactStepChanges", spec := "fnExactStepChanges", apart := false }
def FnExactStepChangesSaid : Prop := fnExactStepChangesRow.holds Try.pinned (OpenSpec.ofChange fnExactStepChangesSpec)

/-- ITS FALSE NEIGHBOUR: 'it returns false'. Refute it at one input. -/
def fnExactStepChangesWrong : ChangeSpec := { name := "fnExactStepChanges", fn := fun _ => fun
  | [d1, d2] => { results := [.lit (.bool false)], args := [d1, d2] }
  | _ => none }
def FnExactStepChangesWrongFalsely : Prop := fnExactStepChangesRow.holds Try.pinned (OpenSpec.ofChange fnExactStepChangesWrong)

/-- 'laws.FnExactRunChanges': WHATEVER THE INPUT: true; the input reads as it did. -/
def fnExactRunChangesSpec : ChangeSpec := { name := "fnExactRunChanges", fn := fun _ => fun
  | [d1, d2, d3] => { results := [.lit (.bool true)], args := [d1, d2, d3] }
  | _ => none }
def fnExactRunChangesRow : OpenClaim := { program := "ytpijpelmebaalaa", sum := "3d4510cc29c8d324efb69c3dfdaa6d259014f4db6a5b6bd37522da7376d46f55", func := "loop.example/g01265/laws.FnExactRunChanges", spec := "fnExactRunChanges", apart := false }
def FnExactRunChangesSaid : Prop := fnExactRunChangesRow.holds Try.pinned (OpenSpec.ofChange fnExactRunChangesSpec)

/-- ITS FALSE NEIGHBOUR: 'it returns false'. Refute it at one input. -/
def fnExactRunChangesWrong : ChangeSpec := { name := "fnExactRunChanges", fn := fun _ => fun
  | [d1, d2, d3] => { results := [.lit (.bool false)], args := [d1, d2, d3] }
  | _ => none }
def FnExactRunChangesWrongFalsely : Prop := fnExactRunChangesRow.holds Try.pinned (OpenSpec.ofChange fnExactRunChangesWrong)

/-- 'laws.FnExactWearOf': WHATEVER THE INPUT: true; the input reads as it did. -/
def fnExactWearOfSpec : ChangeSpec := { name := "fnExactWearOf", fn := fun _ => fun
  | [d1, d2, d3] => { results := [.lit (.bool true)], args := [d1, d2, d3] }
  | _ => none }
def fnExactWearOfRow : OpenClaim := { program := "ytpijpelmebaalaa", sum := "3d4510cc29c8d324efb69c3dfdaa6d259014f4db6a5b6bd37522da7376d46f55", func := "loop.example/g01265/laws.FnExactWearOf", spec := "fnExactWearOf", apart := false }
def FnExactWearOfSaid : Prop := fnExactWearOfRow.holds Try.pinned (OpenSpec.ofChange fnExactWearOfSpec)

/-- ITS FALSE NEIGHBOUR: 'it returns false'. Refute it at one input. -/
def fnExactWearOfWrong : ChangeSpec := { name := "fnExactWearOf", fn := fun _ => fun
  | [d1, d2, d3] => { results := [.lit (.bool false)], args := [d1, d2, d3] }
  | _ => none }
def FnExactWearOfWrongFalsely : Prop := fnExactWearOfRow.holds Try.pinned (OpenSpec.ofChange fnExactWearOfWrong)

/-- 'laws.FnExactLightOf': WHATEVER THE INPUT: true; the input reads as it did. -/
def fnExactLightOfSpec : ChangeSpec := { name := "fnExactLightOf", fn := fun _ => fun
  | [d1, d2, d3] => { results := [.lit (.bool true)], args := [d1, d2, d3] }
  | _ => none }
def fnExactLightOfRow : OpenClaim := { program := "ytpijpelmebaalaa", sum := "3d4510cc29c8d324efb69c3dfdaa6d259014f4db6a5b6bd37522da7376d46f55", func := "loop.example/g01265/laws.FnExactLightOf", spec := "fnExactLightOf", unfollowed := true, recurses := true, apart := false }
def FnExactLightOfSaid : Prop := fnExactLightOfRow.holds Try.pinned (OpenSpec.ofChange fnExactLightOfSpec)

/-- ITS FALSE NEIGHBOUR: 'it returns false'. Refute it at one input. -/
def fnExactLightOfWrong : ChangeSpec := { name := "fnExactLightOf", fn := fun _ => fun
  | [d1, d2, d3] => { results := [.lit (.bool false)], args := [d1, d2, d3] }
  | _ => none }
def FnExactLightOfWrongFalsely : Prop := fnExactLightOfRow.holds Try.pinned (OpenSpec.ofChange fnExactLightOfWrong)

/-- 'laws.FnExactMostChanges': WHATEVER THE INPUT: true; the input reads as it did. -/
def fnExactMostChangesSpec : ChangeSpec := { name := "fnExactMostChanges", fn := fun _ => fun
  | [d] => { results := [.lit (.bool true)], args := [d] }
  | _ => none }
def fnExactMostChangesRow : OpenClaim := { program := "ytpijpelmebaalaa", sum := "3d4510cc29c8d324efb69c3dfdaa6d259014f4db6a5b6bd37522da7376d46f55", func := "loop.example/g01265/laws.FnExactMostChanges", spec := "fnExactMostChanges", apart := false }
def FnExactMostChangesSaid : Prop := fnExactMostChangesRow.holds Try.pinned (OpenSpec.ofChange fnExactMostChangesSpec)

/-- ITS FALSE NEIGHBOUR: 'it returns false'. Refute it at one input. -/
def fnExactMostChangesWrong : ChangeSpec := { name := "fnExactMostChanges", fn := fun _ => fun
  | [d] => { results := [.lit (.bool false)], args := [d] }
  | _ => none }
def FnExactMostChangesWrongFalsely : Prop := fnExactMostChangesRow.holds Try.pinned (OpenSpec.ofChange fnExactMostChangesWrong)

/-- 'laws.FnExactChangeTable': WHATEVER THE INPUT: true; the input reads as it did. -/
def fnExactChangeTableSpec : ChangeSpec := { name := "fnExactChangeTable", fn := fun _ => fun
  | [] => { results := [.lit (.bool true)], args := [] }
  | _ => none }
def fnExactChangeTableRow : OpenClaim := { program := "ytpijpelmebaalaa", sum := "3d4510cc29c8d324efb69c3dfdaa6d259014f4db6a5b6bd37522da7376d46f55", func := "loop.example/g01265/laws.FnExactChangeTable", spec := "fnExactChangeTable", apart := false }
def FnExactChangeTableSaid : Prop := fnExactChangeTableRow.holds Try.pinned (OpenSpec.ofChange fnExactChangeTableSpec)

/-- ITS FALSE NEIGHBOUR: 'it returns false'. Refute it at one input. -/
def fnExactChangeTableWrong : ChangeSpec := { name := "fnExactChangeTable", fn := fun _ => fun
  | [] => { results := [.lit (.bool false)], args := [] }
  | _ => none }
def FnExactChangeTableWrongFalsely : Prop := fnExactChangeTableRow.holds Try.pinned (OpenSpec.ofChange fnExactChangeTableWrong)

/-- 'laws.FnExactOrderCost': WHATEVER THE INPUT: true; the input reads as it did. -/
def fnExactOrderCostSpec : ChangeSpec := { name := "fnExactOrderCost", fn := fun _ => fun
  | [d1, d2] => { results := [.lit (.bool true)], args := [d1, d2] }
  | _ => none }
def fnExactOrderCostRow : OpenClaim := { program := "ytpijpelmebaalaa", sum := "3d4510cc29c8d324efb69c3dfdaa6d259014f4db6a5b6bd37522da7376d46f55", func := "loop.example/g01265/laws.FnExactOrderCost", spec := "fnExactOrderCost", apart := false }
def FnExactOrderCostSaid : Prop := fnExactOrderCostRow.holds Try.pinned (OpenSpec.ofChange fnExactOrderCostSpec)

/-- ITS FALSE NEIGHBOUR: 'it returns false'. Refute it at one input. -/
def fnExactOrderCostWrong : ChangeSpec := { name := "fnExactOrderCost", fn := fun _ => fun
  | [d1, d2] => { results := [.lit (.bool false)], args := [d1, d2] }
  | _ => none }
def FnExactOrderCostWrongFalsely : Prop := fnExactOrderCostRow.holds Try.pinned (OpenSpec.ofChange fnExactOrderCostWrong)

/-- 'laws.FnExactNearestDigits': WHATEVER THE INPUT: true; the input reads as it did. -/
def fnExactNearestDigitsSpec : ChangeSpec := { name := "fnExactNearestDigits", fn := fun _ => fun
  | [d] => { results := [.lit (.bool true)], args := [d] }
  | _ => none }
def fnExactNearestDigitsRow : OpenClaim := { program := "ytpijpelmebaalaa", sum := "3d4510cc29c8d324efb69c3dfdaa6d259014f4db6a5b6bd37522da7376d46f55", func := "loop.example/g01265/laws.FnExactNearestDigits", spec := "fnExactNearestDigits", apart := false }
def FnExactNearestDigitsSaid : Prop := fnExactNearestDigitsRow.holds Try.pinned (OpenSpec.ofChange fnExactNearestDigitsSpec)

/-- ITS FALSE NEIGHBOUR: 'it returns false'. Refute it at one input. -/
def fnExactNearestDigitsWrong : ChangeSpec := { name := "fnExactNearestDigits", fn := fun _ => fun
  | [d] => { results := [.lit (.bool false)], args := [d] }
  | _ => none }
def FnExactNearestDigitsWrongFalsely : Prop := fnExactNearestDigitsRow.holds Try.pinned (OpenSpec.ofChange fnExactNearestDigitsWrong)

/-- 'laws.FnExactFirstOver': WHATEVER THE INPUT: true; the input reads as it did. -/
def fnExactFirstOverSpec : ChangeSpec := { name := "fnExactFirstOver", fn := fun _ => fun
  | [d1, d2, d3] => { results := [.lit (.bool true)], args := [d1, d2, d3] }
  | _ => none }
def fnExactFirstOverRow : OpenClaim := { program := "ytpijpelmebaalaa", sum := "3d4510cc29c8d324efb69c3dfdaa6d259014f4db6a5b6bd37522da7376d46f55", func := "loop.example/g01265/laws.FnExactFirstOver", spec := "fnExactFirstOver", apart := false }
def FnExactFirstOverSaid : Prop := fnExactFirstOverRow.holds Try.pinned (OpenSpec.ofChange fnExactFirstOverSpec)

/-- ITS FALSE NEIGHBOUR: 'it returns false'. Refute it at one input. -/
def fnExactFirstOverWrong : ChangeSpec := { name := "fnExactFirstOver", fn := fun _ => fun
  | [d1, d2, d3] => { results := [.lit (.bool false)], args := [d1, d2, d3] }
  | _ => none }
def FnExactFirstOverWrongFalsely : Prop := fnExactFirstOverRow.holds Try.pinned (OpenSpec.ofChange fnExactFirstOverWrong)

/-- 'laws.FnCounters': WHATEVER THE INPUT: true; the input reads as it did. -/
def fnCountersSpec : ChangeSpec := { name := "fnCounters", fn := fun _ => fun
  | [d] => { results := [.lit (.bool true)], args := [d] }
  | _ => none }
def fnCountersRow : OpenClaim := { program := "ytpijpelmebaalaa", sum := "3d4510cc29c8d324efb69c3dfdaa6d259014f4db6a5b6bd37522da7376d46f55", func := "loop.example/g01265/laws.FnCounters", spec := "fnCounters", unfollowed := true, recurses := true, apart := false }
def FnCountersSaid : Prop := fnCountersRow.holds Try.pinned (OpenSpec.ofChange fnCountersSpec)

/-- ITS FALSE NEIGHBOUR: 'it returns false'. Refute it at one input. -/
def fnCountersWrong : ChangeSpec := { name := "fnCounters", fn := fun _ => fun
  | [d] => { results := [.lit (.bool false)], args := [d] }
  | _ => none }
def FnCountersWrongFalsely : Prop := fnCountersRow.holds Try.pinned (OpenSpec.ofChange fnCountersWrong)

/-- 'laws.FnExactBarShares': WHATEVER THE INPUT: true; the input reads as it did. -/
def fnExactBarSharesSpec : ChangeSpec := { name := "fnExactBarShares", fn := fun _ => fun
  | [] => { results := [.lit (.bool true)], args := [] }
  | _ => none }
def fnExactBarSharesRow : OpenClaim := { program := "ytpijpelmebaalaa", sum := "3d4510cc29c8d324efb69c3dfdaa6d259014f4db6a5b6bd37522da7376d46f55", func := "loop.example/g01265/laws.FnExactBarShares", spec := "fnExactBarShares", apart := false }
def FnExactBarSharesSaid : Prop := fnExactBarSharesRow.holds Try.pinned (OpenSpec.ofChange fnExactBarSharesSpec)

/-- ITS FALSE NEIGHBOUR: 'it returns false'. Refute it at one input. -/
def fnExactBarSharesWrong : ChangeSpec := { name := "fnExactBarShares", fn := fun _ => fun
  | [] => { results := [.lit (.bool false)], args := [] }
  | _ => none }
def FnExactBarSharesWrongFalsely : Prop := fnExactBarSharesRow.holds Try.pinned (OpenSpec.ofChange fnExactBarSharesWrong)

/- THE SECOND FORM. 'bulk': how many values and letters a reading holds, each counted each time it is reached (what is shared counts as often as it is met; a slice's spare places count too). A statement '..UptoSaid' is the law's where the arguments, and the package variables that the reading takes, are together of bulk at most 1048576: NARROWER than '..Said'. Prove '..Said' where nothing that the law and all that it calls make is longer than what came in: it says more and counts as full. Else prove '..UptoSaid'. A law counts once. -/
mutual
def uptoBulk {H : Type} : DataW H → Nat
  | .lit (.string bytes) => bytes.length + 1
  | .lit _ => 1
  | .nil => 1
  | .ptr d => uptoBulk d + 1
  | .slice elems spare => uptoBulkAll elems + uptoBulkAll spare + 1
  | .agg parts => uptoBulkAll parts + 1
  | .iface _ d => uptoBulk d + 1
  | .map entries => uptoBulkEntries entries + 1
  | .held _ => 1
def uptoBulkAll {H : Type} : List (DataW H) → Nat
  | [] => 0
  | d :: r => uptoBulk d + uptoBulkAll r
def uptoBulkEntries {H : Type} : List (Lit × DataW H) → Nat
  | [] => 0
  | x :: r => uptoBulkEntry x + uptoBulkEntries r
def uptoBulkEntry {H : Type} : Lit × DataW H → Nat
  | (.string bytes, d) => bytes.length + uptoBulk d + 1
  | (_, d) => uptoBulk d + 1
 end
def uptoSmall : (H : Type) → List (DataW H) → Bool := fun _ ds => decide (uptoBulkAll ds ≤ 1048576)
def OpenSpec.upto (s : _root_.Go.ChangeSpec) : _root_.Go.OpenSpec := { _root_.Go.OpenSpec.ofChange s with cond := some uptoSmall }

/-- 'laws.FnExactCounterRow', WHERE WHAT IT READS IS OF BULK AT MOST 1048576: true; the input reads as it did. -/
def fnExactCounterRowUptoRow : OpenClaim := { program := "ytpijpelmebaalaa", sum := "3d4510cc29c8d324efb69c3dfdaa6d259014f4db6a5b6bd37522da7376d46f55", func := "loop.example/g01265/laws.FnExactCounterRow", spec := "fnExactCounterRow", apart := false, narrowed := true }
def FnExactCounterRowUptoSaid : Prop := fnExactCounterRowUptoRow.holds Try.pinned (OpenSpec.upto fnExactCounterRowSpec)

/-- 'laws.FnExactStepChanges', WHERE WHAT IT READS IS OF BULK AT MOST 1048576: true; the input reads as it did. -/
def fnExactStepChangesUptoRow : OpenClaim := { program := "ytpijpelmebaalaa", sum := "3d4510cc29c8d324efb69c3dfdaa6d259014f4db6a5b6bd37522da7376d46f55", func := "loop.example/g01265/laws.FnExactStepChanges", spec := "fnExactStepChanges", apart := false, narrowed := true }
def FnExactStepChangesUptoSaid : Prop := fnExactStepChangesUptoRow.holds Try.pinned (OpenSpec.upto fnExactStepChangesSpec)

/-- 'laws.FnExactRunChanges', WHERE WHAT IT READS IS OF BULK AT MOST 1048576: true; the input reads as it did. -/
def fnExactRunChangesUptoRow : OpenClaim := { program := "ytpijpelmebaalaa", sum := "3d4510cc29c8d324efb69c3dfdaa6d259014f4db6a5b6bd37522da7376d46f55", func := "loop.example/g01265/laws.FnExactRunChanges", spec := "fnExactRunChanges", apart := false, narrowed := true }
def FnExactRunChangesUptoSaid : Prop := fnExactRunChangesUptoRow.holds Try.pinned (OpenSpec.upto fnExactRunChangesSpec)

/-- 'laws.FnExactWearOf', WHERE WHAT IT READS IS OF BULK AT MOST 1048576: true; the input reads as it did. -/
def fnExactWearOfUptoRow : OpenClaim := { program := "ytpijpelmebaalaa", sum := "3d4510cc29c8d324efb69c3dfdaa6d259014f4db6a5b6bd37522da7376d46f55", func := "loop.example/g01265/laws.FnExactWearOf", spec := "fnExactWearOf", apart := false, narrowed := true }
def FnExactWearOfUptoSaid : Prop := fnExactWearOfUptoRow.holds Try.pinned (OpenSpec.upto fnExactWearOfSpec)

/-- 'laws.FnExactLightOf', WHERE WHAT IT READS IS OF BULK AT MOST 1048576: true; the input reads as it did. -/
def fnExactLightOfUptoRow : OpenClaim := { program := "ytpijpelmebaalaa", sum := "3d4510cc29c8d324efb69c3dfdaa6d259014f4db6a5b6bd37522da7376d46f55", func := "loop.example/g01265/laws.FnExactLightOf", spec := "fnExactLightOf", unfollowed := true, recurses := true, apart := false, narrowed := true }
def FnExactLightOfUptoSaid : Prop := fnExactLightOfUptoRow.holds Try.pinned (OpenSpec.upto fnExactLightOfSpec)

/-- 'laws.FnExactMostChanges', WHERE WHAT IT READS IS OF BULK AT MOST 1048576: true; the input reads as it did. -/
def fnExactMostChangesUptoRow : OpenClaim := { program := "ytpijpelmebaalaa", sum := "3d4510cc29c8d324efb69c3dfdaa6d259014f4db6a5b6bd37522da7376d46f55", func := "loop.example/g01265/laws.FnExactMostChanges", spec := "fnExactMostChanges", apart := false, narrowed := true }
def FnExactMostChangesUptoSaid : Prop := fnExactMostChangesUptoRow.holds Try.pinned (OpenSpec.upto fnExactMostChangesSpec)

/-- 'laws.FnExactChangeTable', WHERE WHAT IT READS IS OF BULK AT MOST 1048576: true; the input reads as it did. -/
def fnExactChangeTableUptoRow : OpenClaim := { program := "ytpijpelmebaalaa", sum := "3d4510cc29c8d324efb69c3dfdaa6d259014f4db6a5b6bd37522da7376d46f55", func := "loop.example/g01265/laws.FnExactChangeTable", spec := "fnExactChangeTable", apart := false, narrowed := true }
def FnExactChangeTableUptoSaid : Prop := fnExactChangeTableUptoRow.holds Try.pinned (OpenSpec.upto fnExactChangeTableSpec)

/-- 'laws.FnExactOrderCost', WHERE WHAT IT READS IS OF BULK AT MOST 1048576: true; the input reads as it did. -/
def fnExactOrderCostUptoRow : OpenClaim := { program := "ytpijpelmebaalaa", sum := "3d4510cc29c8d324efb69c3dfdaa6d259014f4db6a5b6bd37522da7376d46f55", func := "loop.example/g01265/laws.FnExactOrderCost", spec := "fnExactOrderCost", apart := false, narrowed := true }
def FnExactOrderCostUptoSaid : Prop := fnExactOrderCostUptoRow.holds Try.pinned (OpenSpec.upto fnExactOrderCostSpec)

/-- 'laws.FnExactNearestDigits', WHERE WHAT IT READS IS OF BULK AT MOST 1048576: true; the input reads as it did. -/
def fnExactNearestDigitsUptoRow : OpenClaim := { program := "ytpijpelmebaalaa", sum := "3d4510cc29c8d324efb69c3dfdaa6d259014f4db6a5b6bd37522da7376d46f55", func := "loop.example/g01265/laws.FnExactNearestDigits", spec := "fnExactNearestDigits", apart := false, narrowed := true }
def FnExactNearestDigitsUptoSaid : Prop := fnExactNearestDigitsUptoRow.holds Try.pinned (OpenSpec.upto fnExactNearestDigitsSpec)

/-- 'laws.FnExactFirstOver', WHERE WHAT IT READS IS OF BULK AT MOST 1048576: true; the input reads as it did. -/
def fnExactFirstOverUptoRow : OpenClaim := { program := "ytpijpelmebaalaa", sum := "3d4510cc29c8d324efb69c3dfdaa6d259014f4db6a5b6bd37522da7376d46f55", func := "loop.example/g01265/laws.FnExactFirstOver", spec := "fnExactFirstOver", apart := false, narrowed := true }
def FnExactFirstOverUptoSaid : Prop := fnExactFirstOverUptoRow.holds Try.pinned (OpenSpec.upto fnExactFirstOverSpec)

/-- 'laws.FnCounters', WHERE WHAT IT READS IS OF BULK AT MOST 1048576: true; the input reads as it did. -/
def fnCountersUptoRow : OpenClaim := { program := "ytpijpelmebaalaa", sum := "3d4510cc29c8d324efb69c3dfdaa6d259014f4db6a5b6bd37522da7376d46f55", func := "loop.example/g01265/laws.FnCounters", spec := "fnCounters", unfollowed := true, recurses := true, apart := false, narrowed := true }
def FnCountersUptoSaid : Prop := fnCountersUptoRow.holds Try.pinned (OpenSpec.upto fnCountersSpec)

/-- 'laws.FnExactBarShares', WHERE WHAT IT READS IS OF BULK AT MOST 1048576: true; the input reads as it did. -/
def fnExactBarSharesUptoRow : OpenClaim := { program := "ytpijpelmebaalaa", sum := "3d4510cc29c8d324efb69c3dfdaa6d259014f4db6a5b6bd37522da7376d46f55", func := "loop.example/g01265/laws.FnExactBarShares", spec := "fnExactBarShares", apart := false, narrowed := true }
def FnExactBarSharesUptoSaid : Prop := fnExactBarSharesUptoRow.holds Try.pinned (OpenSpec.upto fnExactBarSharesSpec)

end Rows
end Go.Proofs.Ytpijpelmebaalaa
