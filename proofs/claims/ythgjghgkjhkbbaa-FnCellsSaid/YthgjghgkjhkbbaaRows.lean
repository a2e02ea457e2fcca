/-
  No cell of these rows narrows 'for every input' (looked for: loops, veiled, ifaces, maps, wideKeys, modest, calm, conditions, laid).
  DERIVED. THE GIVEN ROWS OF THIS SEAT. 7 by the template 'for every input the law returns true; each argument reads behind the call as it read before'; 0 by the template 'total and deterministic' (their statements: YthgjghgkjhkbbaaTotals.lean).
  GIVEN WITH THE SEED: the statements are not yours to turn. If you find one false, say at which input.
  Laid BY PROGRAM, IN A SANDBOX (cutbox-rows.mjs): the forced cells as the released guide's own fill.sh prints them over the translation 82bf6735003b5ddb… (all of the seat's roots in one cut). By AI agents, Wed Nov 11 2026. No macro, syntax, notation, axiom, sorry.
-/
import Derived.Test.YthgjghgkjhkbbaaChecked
import GoSem.Claim
import GoSem.ClaimJoined
import GoSem.ClaimMapViews
import Derived.JoinedTies
import Derived.KernelRfl
namespace Go.Proofs.Ythgjghgkjhkbbaa
/- THE CELL 'sum', in the pinned program and in every row, IS THE sha256 OF THE DUMP (.gsa) THAT YthgjghgkjhkbbaaProg.lean LOADS. Nothing in Lean hashes anything: it is a label: what it is worth is what the hold of that sum in a sandbox is worth. -/
noncomputable def Try.pinned : Pinned := { name := "ythgjghgkjhkbbaa", sum := "82bf6735003b5ddb4927a7a654d221ac895766a242d9d1eb687d765f01b190b2", checked := Try.checked }
namespace Rows
def none {H : Type} : Left H := { results := [], args := [] }

/-- 'laws.FnExactIsRow': WHATEVER THE INPUT: true; the input reads as it did. -/
def fnExactIsRowSpec : ChangeSpec := { name := "fnExactIsRow", fn := fun _ => fun
  | [d] => { results := [.lit (.bool true)], args := [d] }
  | _ => none }
def fnExactIsRowRow : OpenClaim := { program := "ythgjghgkjhkbbaa", sum := "82bf6735003b5ddb4927a7a654d221ac895766a242d9d1eb687d765f01b190b2", func := "loop.example/g01265/laws.FnExactIsRow", spec := "fnExactIsRow", unfollowed := true, recurses := true, apart := false }
def FnExactIsRowSaid : Prop := fnExactIsRowRow.holds Try.pinned (OpenSpec.ofChange fnExactIsRowSpec)

/-- ITS FALSE NEIGHBOUR: 'it returns false'. Refute it at one input. -/
def fnExactIsRowWrong : ChangeSpec := { name := "fnExactIsRow", fn := fun _ => fun
  | [d] => { results := [.lit (.bool false)], args := [d] }
  | _ => none }
def FnExactIsRowWrongFalsely : Prop := fnExactIsRowRow.holds Try.pinned (OpenSpec.ofChange fnExactIsRowWrong)

/-- 'laws.FnExactNumberOf': WHATEVER THE INPUT: true; the input reads as it did. -/
def fnExactNumberOfSpec : ChangeSpec := { name := "fnExactNumberOf", fn := fun _ => fun
  | [d] => { results := [.lit (.bool true)], args := [d] }
  | _ => none }
def fnExactNumberOfRow : OpenClaim := { program := "ythgjghgkjhkbbaa", sum := "82bf6735003b5ddb4927a7a654d221ac895766a242d9d1eb687d765f01b190b2", func := "loop.example/g01265/laws.FnExactNumberOf", spec := "fnExactNumberOf", unfollowed := true, recurses := true, apart := false }
def FnExactNumberOfSaid : Prop := fnExactNumberOfRow.holds Try.pinned (OpenSpec.ofChange fnExactNumberOfSpec)

/-- ITS FALSE NEIGHBOUR: 'it returns false'. Refute it at one input. -/
def fnExactNumberOfWrong : ChangeSpec := { name := "fnExactNumberOf", fn := fun _ => fun
  | [d] => { results := [.lit (.bool false)], args := [d] }
  | _ => none }
def FnExactNumberOfWrongFalsely : Prop := fnExactNumberOfRow.holds Try.pinned (OpenSpec.ofChange fnExactNumberOfWrong)

/-- 'laws.FnExactTurnRow': WHATEVER THE INPUT: true; the input reads as it did. -/
def fnExactTurnRowSpec : ChangeSpec := { name := "fnExactTurnRow", fn := fun _ => fun
  | [d] => { results := [.lit (.bool true)], args := [d] }
  | _ => none }
def fnExactTurnRowRow : OpenClaim := { program := "ythgjghgkjhkbbaa", sum := "82bf6735003b5ddb4927a7a654d221ac895766a242d9d1eb687d765f01b190b2", func := "loop.example/g01265/laws.FnExactTurnRow", spec := "fnExactTurnRow", unfollowed := true, recurses := true, apart := false }
def FnExactTurnRowSaid : Prop := fnExactTurnRowRow.holds Try.pinned (OpenSpec.ofChange fnExactTurnRowSpec)

/-- ITS FALSE NEIGHBOUR: 'it returns false'. Refute it at one input. -/
def fnExactTurnRowWrong : ChangeSpec := { name := "fnExactTurnRow", fn := fun _ => fun
  | [d] => { results := [.lit (.bool false)], args := [d] }
  | _ => none }
def FnExactTurnRowWrongFalsely : Prop := fnExactTurnRowRow.holds Try.pinned (OpenSpec.ofChange fnExactTurnRowWrong)

/-- 'laws.FnExactMirrorRow': WHATEVER THE INPUT: true; the input reads as it did. -/
def fnExactMirrorRowSpec : ChangeSpec := { name := "fnExactMirrorRow", fn := fun _ => fun
  | [d] => { results := [.lit (.bool true)], args := [d] }
  | _ => none }
def fnExactMirrorRowRow : OpenClaim := { program := "ythgjghgkjhkbbaa", sum := "82bf6735003b5ddb4927a7a654d221ac895766a242d9d1eb687d765f01b190b2", func := "loop.example/g01265/laws.FnExactMirrorRow", spec := "fnExactMirrorRow", unfollowed := true, recurses := true, apart := false }
def FnExactMirrorRowSaid : Prop := fnExactMirrorRowRow.holds Try.pinned (OpenSpec.ofChange fnExactMirrorRowSpec)

/-- ITS FALSE NEIGHBOUR: 'it returns false'. Refute it at one input. -/
def fnExactMirrorRowWrong : ChangeSpec := { name := "fnExactMirrorRow", fn := fun _ => fun
  | [d] => { results := [.lit (.bool false)], args := [d] }
  | _ => none }
def FnExactMirrorRowWrongFalsely : Prop := fnExactMirrorRowRow.holds Try.pinned (OpenSpec.ofChange fnExactMirrorRowWrong)

/-- 'laws.FnExactLitOf': WHATEVER THE INPUT: true; the input reads as it did. -/
def fnExactLitOfSpec : ChangeSpec := { name := "fnExactLitOf", fn := fun _ => fun
  | [d] => { results := [.lit (.bool true)], args := [d] }
  | _ => none }
def fnExactLitOfRow : OpenClaim := { program := "ythgjghgkjhkbbaa", sum := "82bf6735003b5ddb4927a7a654d221ac895766a242d9d1eb687d765f01b190b2", func := "loop.example/g01265/laws.FnExactLitOf", spec := "fnExactLitOf", unfollowed := true, recurses := true, apart := false }
def FnExactLitOfSaid : Prop := fnExactLitOfRow.holds Try.pinned (OpenSpec.ofChange fnExactLitOfSpec)

/-- ITS FALSE NEIGHBOUR: 'it returns false'. Refute it at one input. -/
def fnExactLitOfWrong : ChangeSpec := { name := "fnExactLitOf", fn := fun _ => fun
  | [d] => { results := [.lit (.bool false)], args := [d] }
  | _ => none }
def FnExactLitOfWrongFalsely : Prop := fnExactLitOfRow.holds Try.pinned (OpenSpec.ofChange fnExactLitOfWrong)

/-- 'laws.FnExactRowText': WHATEVER THE INPUT: true; the input reads as it did. -/
def fnExactRowTextSpec : ChangeSpec := { name := "fnExactRowText", fn := fun _ => fun
  | [d] => { results := [.lit (.bool true)], args := [d] }
  | _ => none }
def fnExactRowTextRow : OpenClaim := { program := "ythgjghgkjhkbbaa", sum := "82bf6735003b5ddb4927a7a654d221ac895766a242d9d1eb687d765f01b190b2", func := "loop.example/g01265/laws.FnExactRowText", spec := "fnExactRowText", inPlace := ["internal/abi.NoEscape", "internal/bytealg.MakeNoZero"], unfollowed := true, recurses := true, apart := false }
def FnExactRowTextSaid : Prop := fnExactRowTextRow.holds Try.pinned (OpenSpec.ofChange fnExactRowTextSpec)

/-- ITS FALSE NEIGHBOUR: 'it returns false'. Refute it at one input. -/
def fnExactRowTextWrong : ChangeSpec := { name := "fnExactRowText", fn := fun _ => fun
  | [d] => { results := [.lit (.bool false)], args := [d] }
  | _ => none }
def FnExactRowTextWrongFalsely : Prop := fnExactRowTextRow.holds Try.pinned (OpenSpec.ofChange fnExactRowTextWrong)

/-- 'laws.FnCells': WHATEVER THE INPUT: true; the input reads as it did. -/
def fnCellsSpec : ChangeSpec := { name := "fnCells", fn := fun _ => fun
  | [d] => { results := [.lit (.bool true)], args := [d] }
  | _ => none }
def fnCellsRow : OpenClaim := { program := "ythgjghgkjhkbbaa", sum := "82bf6735003b5ddb4927a7a654d221ac895766a242d9d1eb687d765f01b190b2", func := "loop.example/g01265/laws.FnCells", spec := "fnCells", inPlace := ["internal/bytealg.IndexByteString", "internal/bytealg.IndexString"], named := ["internal/bytealg.MaxLen"], apart := false }
def FnCellsSaid : Prop := fnCellsRow.holds Try.pinned (OpenSpec.ofChange fnCellsSpec)

/-- ITS FALSE NEIGHBOUR: 'it returns false'. Refute it at one input. -/
def fnCellsWrong : ChangeSpec := { name := "fnCells", fn := fun _ => fun
  | [d] => { results := [.lit (.bool false)], args := [d] }
  | _ => none }
def FnCellsWrongFalsely : Prop := fnCellsRow.holds Try.pinned (OpenSpec.ofChange fnCellsWrong)

/- THE SECOND FORM. 'bulk': how many values and letters a reading holds, each counted each time it is reached (what is shared counts as often as it is met; a slice's spare places count too). A statement '..UptoSaid' is the law's where the arguments, and the package variables that the reading takes, are together of bulk at most 1048576: NARROWER than '..Said'. Prove '..Said' where nothing that the law and all that it calls make is longer than what came in: it says more and counts as full. Else prove '..UptoSaid'. A law counts once. -/
mutual
def uptoBulk {H : Type} : DataW H → Nat
  | .lit (.string bytes) => bytes.length + 1
  | .lit _ => 1
  | .nil => 1
  | .ptr d => uptoBulk d + 1
  | .slice elems spare => uptoBulkAll elems + uptoBulkAll spare + 1
  | .agg parts => uptoBulkAll parts + 1
  | .iface _ d => uptoBulk d + 1
  | .map entries => uptoBulkEntries entries + 1
  | .held _ => 1
def uptoBulkAll {H : Type} : List (DataW H) → Nat
  | [] => 0
  | d :: r => uptoBulk d + uptoBulkAll r
def uptoBulkEntries {H : Type} : List (Lit × DataW H) → Nat
  | [] => 0
  | x :: r => uptoBulkEntry x + uptoBulkEntries r
def uptoBulkEntry {H : Type} : Lit × DataW H → Nat
  | (.string bytes, d) => bytes.length + uptoBulk d + 1
  | (_, d) => uptoBulk d + 1
 end
def uptoSmall : (H : Type) → List (DataW H) → Bool := fun _ ds => decide (uptoBulkAll ds ≤ 1048576)
def OpenSpec.upto (s : _root_.Go.ChangeSpec) : _root_.Go.OpenSpec := { _root_.Go.OpenSpec.ofChange s with cond := some uptoSmall }

/-- 'laws.FnExactIsRow', WHERE WHAT IT READS IS OF BULK AT MOST 1048576: true; the input reads as it did. -/
def fnExactIsRowUptoRow : OpenClaim := { program := "ythgjghgkjhkbbaa", sum := "82bf6735003b5ddb4927a7a654d221ac895766a242d9d1eb687d765f01b190b2", func := "loop.example/g01265/laws.FnExactIsRow", spec := "fnExactIsRow", unfollowed := true, recurses := true, apart := false, narrowed := true }
def FnExactIsRowUptoSaid : Prop := fnExactIsRowUptoRow.holds Try.pinned (OpenSpec.upto fnExactIsRowSpec)

/-- 'laws.FnExactNumberOf', WHERE WHAT IT READS IS OF BULK AT MOST 1048576: true; the input reads as it did. -/
def fnExactNumberOfUptoRow : OpenClaim := { program := "ythgjghgkjhkbbaa", sum := "82bf6735003b5ddb4927a7a654d221ac895766a242d9d1eb687d765f01b190b2", func := "loop.example/g01265/laws.FnExactNumberOf", spec := "fnExactNumberOf", unfollowed := true, recurses := true, apart := false, narrowed := true }
def FnExactNumberOfUptoSaid : Prop := fnExactNumberOfUptoRow.holds Try.pinned (OpenSpec.upto fnExactNumberOfSpec)

/-- 'laws.FnExactTurnRow', WHERE WHAT IT READS IS OF BULK AT MOST 1048576: true; the input reads as it did. -/
def fnExactTurnRowUptoRow : OpenClaim := { program := "ythgjghgkjhkbbaa", sum := "82bf6735003b5ddb4927a7a654d221ac895766a242d9d1eb687d765f01b190b2", func := "loop.example/g01265/laws.FnExactTurnRow", spec := "fnExactTurnRow", unfollowed := true, recurses := true, apart := false, narrowed := true }
def FnExactTurnRowUptoSaid : Prop := fnExactTurnRowUptoRow.holds Try.pinned (OpenSpec.upto fnExactTurnRowSpec)

/-- 'laws.FnExactMirrorRow', WHERE WHAT IT READS IS OF BULK AT MOST 1048576: true; the input reads as it did. -/
def fnExactMirrorRowUptoRow : OpenClaim := { program := "ythgjghgkjhkbbaa", sum := "82bf6735003b5ddb4927a7a654d221ac895766a242d9d1eb687d765f01b190b2", func := "loop.example/g01265/laws.FnExactMirrorRow", spec := "fnExactMirrorRow", unfollowed := true, recurses := true, apart := false, narrowed := true }
def FnExactMirrorRowUptoSaid : Prop := fnExactMirrorRowUptoRow.holds Try.pinned (OpenSpec.upto fnExactMirrorRowSpec)

/-- 'laws.FnExactLitOf', WHERE WHAT IT READS IS OF BULK AT MOST 1048576: true; the input reads as it did. -/
def fnExactLitOfUptoRow : OpenClaim := { program := "ythgjghgkjhkbbaa", sum := "82bf6735003b5ddb4927a7a654d221ac895766a242d9d1eb687d765f01b190b2", func := "loop.example/g01265/laws.FnExactLitOf", spec := "fnExactLitOf", unfollowed := true, recurses := true, apart := false, narrowed := true }
def FnExactLitOfUptoSaid : Prop := fnExactLitOfUptoRow.holds Try.pinned (OpenSpec.upto fnExactLitOfSpec)

/-- 'laws.FnExactRowText', WHERE WHAT IT READS IS OF BULK AT MOST 1048576: true; the input reads as it did. -/
def fnExactRowTextUptoRow : OpenClaim := { program := "ythgjghgkjhkbbaa", sum := "82bf6735003b5ddb4927a7a654d221ac895766a242d9d1eb687d765f01b190b2", func := "loop.example/g01265/laws.FnExactRowText", spec := "fnExactRowText", inPlace := ["internal/abi.NoEscape", "internal/bytealg.MakeNoZero"], unfollowed := true, recurses := true, apart := false, narrowed := true }
def FnExactRowTextUptoSaid : Prop := fnExactRowTextUptoRow.holds Try.pinned (OpenSpec.upto fnExactRowTextSpec)

/-- 'laws.FnCells', WHERE WHAT IT READS IS OF BULK AT MOST 1048576: true; the input reads as it did. -/
def fnCellsUptoRow : OpenClaim := { program := "ythgjghgkjhkbbaa", sum := "82bf6735003b5ddb4927a7a654d221ac895766a242d9d1eb687d765f01b190b2", func := "loop.example/g01265/laws.FnCells", spec := "fnCells", inPlace := ["internal/bytealg.IndexByteString", "internal/bytealg.IndexString"], named := ["internal/bytealg.MaxLen"], apart := false, narrowed := true }
def FnCellsUptoSaid : Prop := fnCellsUptoRow.holds Try.pinned (OpenSpec.upto fnCellsSpec)

end Rows
end Go.Proofs.Ythgjghgkjhkbbaa
