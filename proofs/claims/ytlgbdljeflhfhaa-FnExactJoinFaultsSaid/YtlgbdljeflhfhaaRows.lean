/-
  No cell of these rows narrows 'for every input' (looked for: loops, veiled, ifaces, maps, wideKeys, modest, calm, conditions, laid).
  DERIVED. THE GIVEN ROWS OF THIS SEAT. 12 by the template 'for every input the law returns true; each argument reads behind the call as it read before'; 0 by the template 'total and deterministic' (their statements: YtlgbdljeflhfhaaTotals.lean).
  GIVEN WITH THE SEED: the statements are not yours to turn. If you find one false, say at which input.
  Laid BY PROGRAM, IN A SANDBOX (cutbox-rows.mjs): the forced cells as the released guide's own fill.sh prints them over the translation c732f50c4d855271… (all of the seat's roots in one cut). By AI agents, Wed Nov 11 2026. No macro, syntax, notation, axiom, sorry.
-/
import Derived.Test.YtlgbdljeflhfhaaChecked
import GoSem.Claim
import GoSem.ClaimJoined
import GoSem.ClaimMapViews
import Derived.JoinedTies
import Derived.KernelRfl
namespace Go.Proofs.Ytlgbdljeflhfhaa
/- THE CELL 'sum', in the pinned program and in every row, IS THE sha256 OF THE DUMP (.gsa) THAT YtlgbdljeflhfhaaProg.lean LOADS. Nothing in Lean hashes anything: it is a label: what it is worth is what the hold of that sum in a sandbox is worth. -/
noncomputable def Try.pinned : Pinned := { name := "ytlgbdljeflhfhaa", sum := "c732f50c4d8552719669420664e0234080a3f7d178780d1f6084b92733053170", checked := Try.checked }
namespace Rows
def none {H : Type} : Left H := { results := [], args := [] }

/-- 'laws.FnExactIsCell': WHATEVER THE INPUT: true; the input reads as it did. -/
def fnExactIsCellSpec : ChangeSpec := { name := "fnExactIsCell", fn := fun _ => fun
  | [d] => { results := [.lit (.bool true)], args := [d] }
  | _ => none }
def fnExactIsCellRow : OpenClaim := { program := "ytlgbdljeflhfhaa", sum := "c732f50c4d8552719669420664e0234080a3f7d178780d1f6084b92733053170", func := "loop.example/g01265/laws.FnExactIsCell", spec := "fnExactIsCell", apart := false }
def FnExactIsCellSaid : Prop := fnExactIsCellRow.holds Try.pinned (OpenSpec.ofChange fnExactIsCellSpec)

/-- ITS FALSE NEIGHBOUR: 'it returns false'. Refute it at one input. -/
def fnExactIsCellWrong : ChangeSpec := { name := "fnExactIsCell", fn := fun _ => fun
  | [d] => { results := [.lit (.bool false)], args := [d] }
  | _ => none }
def FnExactIsCellWrongFalsely : Prop := fnExactIsCellRow.holds Try.pinned (OpenSpec.ofChange fnExactIsCellWrong)

/-- 'laws.FnExactCellOf': WHATEVER THE INPUT: true; the input reads as it did. -/
def fnExactCellOfSpec : ChangeSpec := { name := "fnExactCellOf", fn := fun _ => fun
  | [d] => { results := [.lit (.bool true)], args := [d] }
  | _ => none }
def fnExactCellOfRow : OpenClaim := { program := "ytlgbdljeflhfhaa", sum := "c732f50c4d8552719669420664e0234080a3f7d178780d1f6084b92733053170", func := "loop.example/g01265/laws.FnExactCellOf", spec := "fnExactCellOf", apart := false }
def FnExactCellOfSaid : Prop := fnExactCellOfRow.holds Try.pinned (OpenSpec.ofChange fnExactCellOfSpec)

/-- ITS FALSE NEIGHBOUR: 'it returns false'. Refute it at one input. -/
def fnExactCellOfWrong : ChangeSpec := { name := "fnExactCellOf", fn := fun _ => fun
  | [d] => { results := [.lit (.bool false)], args := [d] }
  | _ => none }
def FnExactCellOfWrongFalsely : Prop := fnExactCellOfRow.holds Try.pinned (OpenSpec.ofChange fnExactCellOfWrong)

/-- 'laws.FnExactDigitOf': WHATEVER THE INPUT: true; the input reads as it did. -/
def fnExactDigitOfSpec : ChangeSpec := { name := "fnExactDigitOf", fn := fun _ => fun
  | [d] => { results := [.lit (.bool true)], args := [d] }
  | _ => none }
def fnExactDigitOfRow : OpenClaim := { program := "ytlgbdljeflhfhaa", sum := "c732f50c4d8552719669420664e0234080a3f7d178780d1f6084b92733053170", func := "loop.example/g01265/laws.FnExactDigitOf", spec := "fnExactDigitOf", apart := false }
def FnExactDigitOfSaid : Prop := fnExactDigitOfRow.holds Try.pinned (OpenSpec.ofChange fnExactDigitOfSpec)

/-- ITS FALSE NEIGHBOUR: 'it returns false'. Refute it at one input. -/
def fnExactDigitOfWrong : ChangeSpec := { name := "fnExactDigitOf", fn := fun _ => fun
  | [d] => { results := [.lit (.bool false)], args := [d] }
  | _ => none }
def FnExactDigitOfWrongFalsely : Prop := fnExactDigitOfRow.holds Try.pinned (OpenSpec.ofChange fnExactDigitOfWrong)

/-- 'laws.FnExactCountBars': WHATEVER THE INPUT: true; the input reads as it did. -/
def fnExactCountBarsSpec : ChangeSpec := { name := "fnExactCountBars", fn := fun _ => fun
  | [d] => { results := [.lit (.bool true)], args := [d] }
  | _ => none }
def fnExactCountBarsRow : OpenClaim := { program := "ytlgbdljeflhfhaa", sum := "c732f50c4d8552719669420664e0234080a3f7d178780d1f6084b92733053170", func := "loop.example/g01265/laws.FnExactCountBars", spec := "fnExactCountBars", apart := false }
def FnExactCountBarsSaid : Prop := fnExactCountBarsRow.holds Try.pinned (OpenSpec.ofChange fnExactCountBarsSpec)

/-- ITS FALSE NEIGHBOUR: 'it returns false'. Refute it at one input. -/
def fnExactCountBarsWrong : ChangeSpec := { name := "fnExactCountBars", fn := fun _ => fun
  | [d] => { results := [.lit (.bool false)], args := [d] }
  | _ => none }
def FnExactCountBarsWrongFalsely : Prop := fnExactCountBarsRow.holds Try.pinned (OpenSpec.ofChange fnExactCountBarsWrong)

/-- 'laws.FnExactBarsOf': WHATEVER THE INPUT: true; the input reads as it did. -/
def fnExactBarsOfSpec : ChangeSpec := { name := "fnExactBarsOf", fn := fun _ => fun
  | [d] => { results := [.lit (.bool true)], args := [d] }
  | _ => none }
def fnExactBarsOfRow : OpenClaim := { program := "ytlgbdljeflhfhaa", sum := "c732f50c4d8552719669420664e0234080a3f7d178780d1f6084b92733053170", func := "loop.example/g01265/laws.FnExactBarsOf", spec := "fnExactBarsOf", apart := false }
def FnExactBarsOfSaid : Prop := fnExactBarsOfRow.holds Try.pinned (OpenSpec.ofChange fnExactBarsOfSpec)

/-- ITS FALSE NEIGHBOUR: 'it returns false'. Refute it at one input. -/
def fnExactBarsOfWrong : ChangeSpec := { name := "fnExactBarsOf", fn := fun _ => fun
  | [d] => { results := [.lit (.bool false)], args := [d] }
  | _ => none }
def FnExactBarsOfWrongFalsely : Prop := fnExactBarsOfRow.holds Try.pinned (OpenSpec.ofChange fnExactBarsOfWrong)

/-- 'laws.FnExactParseBars': WHATEVER THE INPUT: true; the input reads as it did. -/
def fnExactParseBarsSpec : ChangeSpec := { name := "fnExactParseBars", fn := fun _ => fun
  | [d] => { results := [.lit (.bool true)], args := [d] }
  | _ => none }
def fnExactParseBarsRow : OpenClaim := { program := "ytlgbdljeflhfhaa", sum := "c732f50c4d8552719669420664e0234080a3f7d178780d1f6084b92733053170", func := "loop.example/g01265/laws.FnExactParseBars", spec := "fnExactParseBars", inPlace := ["internal/bytealg.IndexByteString", "internal/bytealg.IndexString"], named := ["internal/bytealg.MaxLen"], apart := false }
def FnExactParseBarsSaid : Prop := fnExactParseBarsRow.holds Try.pinned (OpenSpec.ofChange fnExactParseBarsSpec)

/-- ITS FALSE NEIGHBOUR: 'it returns false'. Refute it at one input. -/
def fnExactParseBarsWrong : ChangeSpec := { name := "fnExactParseBars", fn := fun _ => fun
  | [d] => { results := [.lit (.bool false)], args := [d] }
  | _ => none }
def FnExactParseBarsWrongFalsely : Prop := fnExactParseBarsRow.holds Try.pinned (OpenSpec.ofChange fnExactParseBarsWrong)

/-- 'laws.FnExactFarCells': WHATEVER THE INPUT: true; the input reads as it did. -/
def fnExactFarCellsSpec : ChangeSpec := { name := "fnExactFarCells", fn := fun _ => fun
  | [d1, d2] => { results := [.lit (.bool true)], args := [d1, d2] }
  | _ => none }
def fnExactFarCellsRow : OpenClaim := { program := "ytlgbdljeflhfhaa", sum := "c732f50c4d8552719669420664e0234080a3f7d178780d1f6084b92733053170", func := "loop.example/g01265/laws.FnExactFarCells", spec := "fnExactFarCells", apart := false }
def FnExactFarCellsSaid : Prop := fnExactFarCellsRow.holds Try.pinned (OpenSpec.ofChange fnExactFarCellsSpec)

/-- ITS FALSE NEIGHBOUR: 'it returns false'. Refute it at one input. -/
def fnExactFarCellsWrong : ChangeSpec := { name := "fnExactFarCells", fn := fun _ => fun
  | [d1, d2] => { results := [.lit (.bool false)], args := [d1, d2] }
  | _ => none }
def FnExactFarCellsWrongFalsely : Prop := fnExactFarCellsRow.holds Try.pinned (OpenSpec.ofChange fnExactFarCellsWrong)

/-- 'laws.FnExactTurnCell': WHATEVER THE INPUT: true; the input reads as it did. -/
def fnExactTurnCellSpec : ChangeSpec := { name := "fnExactTurnCell", fn := fun _ => fun
  | [d] => { results := [.lit (.bool true)], args := [d] }
  | _ => none }
def fnExactTurnCellRow : OpenClaim := { program := "ytlgbdljeflhfhaa", sum := "c732f50c4d8552719669420664e0234080a3f7d178780d1f6084b92733053170", func := "loop.example/g01265/laws.FnExactTurnCell", spec := "fnExactTurnCell", apart := false }
def FnExactTurnCellSaid : Prop := fnExactTurnCellRow.holds Try.pinned (OpenSpec.ofChange fnExactTurnCellSpec)

/-- ITS FALSE NEIGHBOUR: 'it returns false'. Refute it at one input. -/
def fnExactTurnCellWrong : ChangeSpec := { name := "fnExactTurnCell", fn := fun _ => fun
  | [d] => { results := [.lit (.bool false)], args := [d] }
  | _ => none }
def FnExactTurnCellWrongFalsely : Prop := fnExactTurnCellRow.holds Try.pinned (OpenSpec.ofChange fnExactTurnCellWrong)

/-- 'laws.FnExactMirrorCell': WHATEVER THE INPUT: true; the input reads as it did. -/
def fnExactMirrorCellSpec : ChangeSpec := { name := "fnExactMirrorCell", fn := fun _ => fun
  | [d] => { results := [.lit (.bool true)], args := [d] }
  | _ => none }
def fnExactMirrorCellRow : OpenClaim := { program := "ytlgbdljeflhfhaa", sum := "c732f50c4d8552719669420664e0234080a3f7d178780d1f6084b92733053170", func := "loop.example/g01265/laws.FnExactMirrorCell", spec := "fnExactMirrorCell", apart := false }
def FnExactMirrorCellSaid : Prop := fnExactMirrorCellRow.holds Try.pinned (OpenSpec.ofChange fnExactMirrorCellSpec)

/-- ITS FALSE NEIGHBOUR: 'it returns false'. Refute it at one input. -/
def fnExactMirrorCellWrong : ChangeSpec := { name := "fnExactMirrorCell", fn := fun _ => fun
  | [d] => { results := [.lit (.bool false)], args := [d] }
  | _ => none }
def FnExactMirrorCellWrongFalsely : Prop := fnExactMirrorCellRow.holds Try.pinned (OpenSpec.ofChange fnExactMirrorCellWrong)

/-- 'laws.FnExactIsFault': WHATEVER THE INPUT: true; the input reads as it did. -/
def fnExactIsFaultSpec : ChangeSpec := { name := "fnExactIsFault", fn := fun _ => fun
  | [d] => { results := [.lit (.bool true)], args := [d] }
  | _ => none }
def fnExactIsFaultRow : OpenClaim := { program := "ytlgbdljeflhfhaa", sum := "c732f50c4d8552719669420664e0234080a3f7d178780d1f6084b92733053170", func := "loop.example/g01265/laws.FnExactIsFault", spec := "fnExactIsFault", apart := false }
def FnExactIsFaultSaid : Prop := fnExactIsFaultRow.holds Try.pinned (OpenSpec.ofChange fnExactIsFaultSpec)

/-- ITS FALSE NEIGHBOUR: 'it returns false'. Refute it at one input. -/
def fnExactIsFaultWrong : ChangeSpec := { name := "fnExactIsFault", fn := fun _ => fun
  | [d] => { results := [.lit (.bool false)], args := [d] }
  | _ => none }
def FnExactIsFaultWrongFalsely : Prop := fnExactIsFaultRow.holds Try.pinned (OpenSpec.ofChange fnExactIsFaultWrong)

/-- 'laws.FnExactJoinFaults': WHATEVER THE INPUT: true; the input reads as it did. -/
def fnExactJoinFaultsSpec : ChangeSpec := { name := "fnExactJoinFaults", fn := fun _ => fun
  | [d1, d2] => { results := [.lit (.bool true)], args := [d1, d2] }
  | _ => none }
def fnExactJoinFaultsRow : OpenClaim := { program := "ytlgbdljeflhfhaa", sum := "c732f50c4d8552719669420664e0234080a3f7d178780d1f6084b92733053170", func := "loop.example/g01265/laws.FnExactJoinFaults", spec := "fnExactJoinFaults", apart := false }
def FnExactJoinFaultsSaid : Prop := fnExactJoinFaultsRow.holds Try.pinned (OpenSpec.ofChange fnExactJoinFaultsSpec)

/-- ITS FALSE NEIGHBOUR: 'it returns false'. Refute it at one input. -/
def fnExactJoinFaultsWrong : ChangeSpec := { name := "fnExactJoinFaults", fn := fun _ => fun
  | [d1, d2] => { results := [.lit (.bool false)], args := [d1, d2] }
  | _ => none }
def FnExactJoinFaultsWrongFalsely : Prop := fnExactJoinFaultsRow.holds Try.pinned (OpenSpec.ofChange fnExactJoinFaultsWrong)

/-- 'laws.FnExactTurnFault': WHATEVER THE INPUT: true; the input reads as it did. -/
def fnExactTurnFaultSpec : ChangeSpec := { name := "fnExactTurnFault", fn := fun _ => fun
  | [d] => { results := [.lit (.bool true)], args := [d] }
  | _ => none }
def fnExactTurnFaultRow : OpenClaim := { program := "ytlgbdljeflhfhaa", sum := "c732f50c4d8552719669420664e0234080a3f7d178780d1f6084b92733053170", func := "loop.example/g01265/laws.FnExactTurnFault", spec := "fnExactTurnFault", apart := false }
def FnExactTurnFaultSaid : Prop := fnExactTurnFaultRow.holds Try.pinned (OpenSpec.ofChange fnExactTurnFaultSpec)

/-- ITS FALSE NEIGHBOUR: 'it returns false'. Refute it at one input. -/
def fnExactTurnFaultWrong : ChangeSpec := { name := "fnExactTurnFault", fn := fun _ => fun
  | [d] => { results := [.lit (.bool false)], args := [d] }
  | _ => none }
def FnExactTurnFaultWrongFalsely : Prop := fnExactTurnFaultRow.holds Try.pinned (OpenSpec.ofChange fnExactTurnFaultWrong)

/- THE SECOND FORM. 'bulk': how many values and letters a reading holds, each counted each time it is reached (what is shared counts as often as it is met; a slice's spare places count too). A statement '..UptoSaid' is the law's where the arguments, and the package variables that the reading takes, are together of bulk at most 1048576: NARROWER than '..Said'. Prove '..Said' where nothing that the law and all that it calls make is longer than what came in: it says more and counts as full. Else prove '..UptoSaid'. A law counts once. -/
mutual
def uptoBulk {H : Type} : DataW H → Nat
  | .lit (.string bytes) => bytes.length + 1
  | .lit _ => 1
  | .nil => 1
  | .ptr d => uptoBulk d + 1
  | .slice elems spare => uptoBulkAll elems + uptoBulkAll spare + 1
  | .agg parts => uptoBulkAll parts + 1
  | .iface _ d => uptoBulk d + 1
  | .map entries => uptoBulkEntries entries + 1
  | .held _ => 1
def uptoBulkAll {H : Type} : List (DataW H) → Nat
  | [] => 0
  | d :: r => uptoBulk d + uptoBulkAll r
def uptoBulkEntries {H : Type} : List (Lit × DataW H) → Nat
  | [] => 0
  | x :: r => uptoBulkEntry x + uptoBulkEntries r
def uptoBulkEntry {H : Type} : Lit × DataW H → Nat
  | (.string bytes, d) => bytes.length + uptoBulk d + 1
  | (_, d) => uptoBulk d + 1
 end
def uptoSmall : (H : Type) → List (DataW H) → Bool := fun _ ds => decide (uptoBulkAll ds ≤ 1048576)
def OpenSpec.upto (s : _root_.Go.ChangeSpec) : _root_.Go.OpenSpec := { _root_.Go.OpenSpec.ofChange s with cond := some uptoSmall }

/-- 'laws.FnExactIsCell', WHERE WHAT IT READS IS OF BULK AT MOST 1048576: true; the input reads as it did. -/
def fnExactIsCellUptoRow : OpenClaim := { program := "ytlgbdljeflhfhaa", sum := "c732f50c4d8552719669420664e0234080a3f7d178780d1f6084b92733053170", func := "loop.example/g01265/laws.FnExactIsCell", spec := "fnExactIsCell", apart := false, narrowed := true }
def FnExactIsCellUptoSaid : Prop := fnExactIsCellUptoRow.holds Try.pinned (OpenSpec.upto fnExactIsCellSpec)

/-- 'laws.FnExactCellOf', WHERE WHAT IT READS IS OF BULK AT MOST 1048576: true; the input reads as it did. -/
def fnExactCellOfUptoRow : OpenClaim := { program := "ytlgbdljeflhfhaa", sum := "c732f50c4d8552719669420664e0234080a3f7d178780d1f6084b92733053170", func := "loop.example/g01265/laws.FnExactCellOf", spec := "fnExactCellOf", apart := false, narrowed := true }
def FnExactCellOfUptoSaid : Prop := fnExactCellOfUptoRow.holds Try.pinned (OpenSpec.upto fnExactCellOfSpec)

/-- 'laws.FnExactDigitOf', WHERE WHAT IT READS IS OF BULK AT MOST 1048576: true; the input reads as it did. -/
def fnExactDigitOfUptoRow : OpenClaim := { program := "ytlgbdljeflhfhaa", sum := "c732f50c4d8552719669420664e0234080a3f7d178780d1f6084b92733053170", func := "loop.example/g01265/laws.FnExactDigitOf", spec := "fnExactDigitOf", apart := false, narrowed := true }
def FnExactDigitOfUptoSaid : Prop := fnExactDigitOfUptoRow.holds Try.pinned (OpenSpec.upto fnExactDigitOfSpec)

/-- 'laws.FnExactCountBars', WHERE WHAT IT READS IS OF BULK AT MOST 1048576: true; the input reads as it did. -/
def fnExactCountBarsUptoRow : OpenClaim := { program := "ytlgbdljeflhfhaa", sum := "c732f50c4d8552719669420664e0234080a3f7d178780d1f6084b92733053170", func := "loop.example/g01265/laws.FnExactCountBars", spec := "fnExactCountBars", apart := false, narrowed := true }
def FnExactCountBarsUptoSaid : Prop := fnExactCountBarsUptoRow.holds Try.pinned (OpenSpec.upto fnExactCountBarsSpec)

/-- 'laws.FnExactBarsOf', WHERE WHAT IT READS IS OF BULK AT MOST 1048576: true; the input reads as it did. -/
def fnExactBarsOfUptoRow : OpenClaim := { program := "ytlgbdljeflhfhaa", sum := "c732f50c4d8552719669420664e0234080a3f7d178780d1f6084b92733053170", func := "loop.example/g01265/laws.FnExactBarsOf", spec := "fnExactBarsOf", apart := false, narrowed := true }
def FnExactBarsOfUptoSaid : Prop := fnExactBarsOfUptoRow.holds Try.pinned (OpenSpec.upto fnExactBarsOfSpec)

/-- 'laws.FnExactParseBars', WHERE WHAT IT READS IS OF BULK AT MOST 1048576: true; the input reads as it did. -/
def fnExactParseBarsUptoRow : OpenClaim := { program := "ytlgbdljeflhfhaa", sum := "c732f50c4d8552719669420664e0234080a3f7d178780d1f6084b92733053170", func := "loop.example/g01265/laws.FnExactParseBars", spec := "fnExactParseBars", inPlace := ["internal/bytealg.IndexByteString", "internal/bytealg.IndexString"], named := ["internal/bytealg.MaxLen"], apart := false, narrowed := true }
def FnExactParseBarsUptoSaid : Prop := fnExactParseBarsUptoRow.holds Try.pinned (OpenSpec.upto fnExactParseBarsSpec)

/-- 'laws.FnExactFarCells', WHERE WHAT IT READS IS OF BULK AT MOST 1048576: true; the input reads as it did. -/
def fnExactFarCellsUptoRow : OpenClaim := { program := "ytlgbdljeflhfhaa", sum := "c732f50c4d8552719669420664e0234080a3f7d178780d1f6084b92733053170", func := "loop.example/g01265/laws.FnExactFarCells", spec := "fnExactFarCells", apart := false, narrowed := true }
def FnExactFarCellsUptoSaid : Prop := fnExactFarCellsUptoRow.holds Try.pinned (OpenSpec.upto fnExactFarCellsSpec)

/-- 'laws.FnExactTurnCell', WHERE WHAT IT READS IS OF BULK AT MOST 1048576: true; the input reads as it did. -/
def fnExactTurnCellUptoRow : OpenClaim := { program := "ytlgbdljeflhfhaa", sum := "c732f50c4d8552719669420664e0234080a3f7d178780d1f6084b92733053170", func := "loop.example/g01265/laws.FnExactTurnCell", spec := "fnExactTurnCell", apart := false, narrowed := true }
def FnExactTurnCellUptoSaid : Prop := fnExactTurnCellUptoRow.holds Try.pinned (OpenSpec.upto fnExactTurnCellSpec)

/-- 'laws.FnExactMirrorCell', WHERE WHAT IT READS IS OF BULK AT MOST 1048576: true; the input reads as it did. -/
def fnExactMirrorCellUptoRow : OpenClaim := { program := "ytlgbdljeflhfhaa", sum := "c732f50c4d8552719669420664e0234080a3f7d178780d1f6084b92733053170", func := "loop.example/g01265/laws.FnExactMirrorCell", spec := "fnExactMirrorCell", apart := false, narrowed := true }
def FnExactMirrorCellUptoSaid : Prop := fnExactMirrorCellUptoRow.holds Try.pinned (OpenSpec.upto fnExactMirrorCellSpec)

/-- 'laws.FnExactIsFault', WHERE WHAT IT READS IS OF BULK AT MOST 1048576: true; the input reads as it did. -/
def fnExactIsFaultUptoRow : OpenClaim := { program := "ytlgbdljeflhfhaa", sum := "c732f50c4d8552719669420664e0234080a3f7d178780d1f6084b92733053170", func := "loop.example/g01265/laws.FnExactIsFault", spec := "fnExactIsFault", apart := false, narrowed := true }
def FnExactIsFaultUptoSaid : Prop := fnExactIsFaultUptoRow.holds Try.pinned (OpenSpec.upto fnExactIsFaultSpec)

/-- 'laws.FnExactJoinFaults', WHERE WHAT IT READS IS OF BULK AT MOST 1048576: true; the input reads as it did. -/
def fnExactJoinFaultsUptoRow : OpenClaim := { program := "ytlgbdljeflhfhaa", sum := "c732f50c4d8552719669420664e0234080a3f7d178780d1f6084b92733053170", func := "loop.example/g01265/laws.FnExactJoinFaults", spec := "fnExactJoinFaults", apart := false, narrowed := true }
def FnExactJoinFaultsUptoSaid : Prop := fnExactJoinFaultsUptoRow.holds Try.pinned (OpenSpec.upto fnExactJoinFaultsSpec)

/-- 'laws.FnExactTurnFault', WHERE WHAT IT READS IS OF BULK AT MOST 1048576: true; the input reads as it did. -/
def fnExactTurnFaultUptoRow : OpenClaim := { program := "ytlgbdljeflhfhaa", sum := "c732f50c4d8552719669420664e0234080a3f7d178780d1f6084b92733053170", func := "loop.example/g01265/laws.FnExactTurnFault", spec := "fnExactTurnFault", apart := false, narrowed := true }
def FnExactTurnFaultUptoSaid : Prop := fnExactTurnFaultUptoRow.holds Try.pinned (OpenSpec.upto fnExactTurnFaultSpec)

end Rows
end Go.Proofs.Ytlgbdljeflhfhaa
