/-
  DERIVED. GIVEN WITH THE SEED: THE CARDS: each row of YthgjghgkjhkbbaaDoorRows.lean that lists a variable, with what it lists TIED to the program's text (the seventh form; the later family's looks); each row that meets fmt, with fmt's text TOLD by the authors' own Lean function (tested against real Go, not proved from fmt's source: count such statements apart). THE CARD IS WHAT COUNTS. Prove the row's statement (the work); the ties are given (YthgjghgkjhkbbaaDoorTie.lean); close each card by the builder's one call (the guide's Derived/Test/ToyasCard.lean, 'card_holds'). Laid BY PROGRAM, IN A SANDBOX (cutbox-door.mjs). By AI agents, Wed Nov 11 2026. No macro, syntax, notation, axiom, sorry.
-/
import Derived.Test.YthgjghgkjhkbbaaDoorRows
import GoSem.ClaimSeven
namespace Go.Proofs.YthgjghgkjhkbbaaDoor
namespace Rows

/-- THE TIED CARD OF 'laws.FnExactRowOf'. -/
def fnExactRowOfCard : Claim7 := { stood := { row := fnExactRowOfRow, standIns := [], harness := (true, "49492130518ac1045bdb2456044a18ee87bd956614469a8dc2a9b38001b0d408"), looks := false }, kinds := [], alts := [], laidByText := true, laidKinds := [.data, .data, .data], laidTests := true, laidLooks := .later }
def FnExactRowOfCardSaid : Prop := Claim7.holds Tryd.pinned (.plain (OpenSpec.ofChange fnExactRowOfSpec)) fnExactRowOfCard

/-- THE TIED CARD OF 'laws.FnExactParseRow'. -/
def fnExactParseRowCard : Claim7 := { stood := { row := fnExactParseRowRow, standIns := [], harness := (true, "49492130518ac1045bdb2456044a18ee87bd956614469a8dc2a9b38001b0d408"), looks := false }, kinds := [], alts := [], laidByText := true, laidKinds := [.data, .pinned], laidTests := true, laidLooks := .later }
def FnExactParseRowCardSaid : Prop := Claim7.holds Tryd.pinned (.plain (OpenSpec.ofChange fnExactParseRowSpec)) fnExactParseRowCard

/-- THE TIED CARD OF 'laws.FnExactTurnedNumber'. -/
def fnExactTurnedNumberCard : Claim7 := { stood := { row := fnExactTurnedNumberRow, standIns := [], harness := (true, "49492130518ac1045bdb2456044a18ee87bd956614469a8dc2a9b38001b0d408"), looks := false }, kinds := [], alts := [], laidByText := true, laidKinds := [.data, .data, .data], laidTests := true, laidLooks := .later }
def FnExactTurnedNumberCardSaid : Prop := Claim7.holds Tryd.pinned (.plain (OpenSpec.ofChange fnExactTurnedNumberSpec)) fnExactTurnedNumberCard

/-- THE TIED CARD OF 'laws.FnExactCountAlike'. -/
def fnExactCountAlikeCard : Claim7 := { stood := { row := fnExactCountAlikeRow, standIns := [], harness := (true, "49492130518ac1045bdb2456044a18ee87bd956614469a8dc2a9b38001b0d408"), looks := false }, kinds := [], alts := [], laidByText := true, laidKinds := [.data, .data, .data], laidTests := true, laidLooks := .later }
def FnExactCountAlikeCardSaid : Prop := Claim7.holds Tryd.pinned (.plain (OpenSpec.ofChange fnExactCountAlikeSpec)) fnExactCountAlikeCard

/-- THE SECOND FORM's CARD OF 'laws.FnExactRowOf'. -/
def fnExactRowOfUptoCard : Claim7 := { stood := { row := fnExactRowOfUptoRow, standIns := [], harness := (true, "49492130518ac1045bdb2456044a18ee87bd956614469a8dc2a9b38001b0d408"), looks := false }, kinds := [], alts := [], laidByText := true, laidKinds := [.data, .data, .data], laidTests := true, laidLooks := .later }
def FnExactRowOfUptoCardSaid : Prop := Claim7.holds Tryd.pinned (.plain (OpenSpec.upto fnExactRowOfSpec)) fnExactRowOfUptoCard

/-- THE SECOND FORM's CARD OF 'laws.FnExactParseRow'. -/
def fnExactParseRowUptoCard : Claim7 := { stood := { row := fnExactParseRowUptoRow, standIns := [], harness := (true, "49492130518ac1045bdb2456044a18ee87bd956614469a8dc2a9b38001b0d408"), looks := false }, kinds := [], alts := [], laidByText := true, laidKinds := [.data, .pinned], laidTests := true, laidLooks := .later }
def FnExactParseRowUptoCardSaid : Prop := Claim7.holds Tryd.pinned (.plain (OpenSpec.upto fnExactParseRowSpec)) fnExactParseRowUptoCard

/-- THE SECOND FORM's CARD OF 'laws.FnExactTurnedNumber'. -/
def fnExactTurnedNumberUptoCard : Claim7 := { stood := { row := fnExactTurnedNumberUptoRow, standIns := [], harness := (true, "49492130518ac1045bdb2456044a18ee87bd956614469a8dc2a9b38001b0d408"), looks := false }, kinds := [], alts := [], laidByText := true, laidKinds := [.data, .data, .data], laidTests := true, laidLooks := .later }
def FnExactTurnedNumberUptoCardSaid : Prop := Claim7.holds Tryd.pinned (.plain (OpenSpec.upto fnExactTurnedNumberSpec)) fnExactTurnedNumberUptoCard

/-- THE SECOND FORM's CARD OF 'laws.FnExactCountAlike'. -/
def fnExactCountAlikeUptoCard : Claim7 := { stood := { row := fnExactCountAlikeUptoRow, standIns := [], harness := (true, "49492130518ac1045bdb2456044a18ee87bd956614469a8dc2a9b38001b0d408"), looks := false }, kinds := [], alts := [], laidByText := true, laidKinds := [.data, .data, .data], laidTests := true, laidLooks := .later }
def FnExactCountAlikeUptoCardSaid : Prop := Claim7.holds Tryd.pinned (.plain (OpenSpec.upto fnExactCountAlikeSpec)) fnExactCountAlikeUptoCard
end Rows
end Go.Proofs.YthgjghgkjhkbbaaDoor
