/-
  DERIVED. GIVEN WITH THE SEED: THE CARDS: each row of YtepmcblnhibfeaaDoorRows.lean that lists a variable, with what it lists TIED to the program's text (the seventh form; the later family's looks); each row that meets fmt, with fmt's text TOLD by the authors' own Lean function (tested against real Go, not proved from fmt's source: count such statements apart). THE CARD IS WHAT COUNTS. Prove the row's statement (the work); the ties are given (YtepmcblnhibfeaaDoorTie.lean); close each card by the builder's one call (the guide's Derived/Test/ToyasCard.lean, 'card_holds'). Laid BY PROGRAM, IN A SANDBOX (cutbox-door.mjs). By AI agents, Wed Nov 11 2026. No macro, syntax, notation, axiom, sorry.
-/
import Derived.Test.YtepmcblnhibfeaaDoorRows
import GoSem.ClaimSeven
namespace Go.Proofs.YtepmcblnhibfeaaDoor
namespace Rows

/-- THE TIED CARD OF 'gnomonlaw01.WideNames'. -/
def wideNamesCard : Claim7 := { stood := { row := wideNamesRow, standIns := [], harness := (true, "08a6de3bbae607dd8c82867e20878b16abdb97e342a8cd0dbecf9217f53dac6d"), looks := false }, kinds := [], alts := [], laidByText := true, laidKinds := [.data, .data, .data], laidTests := true, laidLooks := .later }
def WideNamesCardSaid : Prop := Claim7.holds Tryd.pinned (.plain (OpenSpec.ofChange wideNamesSpec)) wideNamesCard

/-- THE TIED CARD OF 'gnomonlaw01.WideSums'. -/
def wideSumsCard : Claim7 := { stood := { row := wideSumsRow, standIns := [], harness := (true, "08a6de3bbae607dd8c82867e20878b16abdb97e342a8cd0dbecf9217f53dac6d"), looks := false }, kinds := [], alts := [], laidByText := true, laidKinds := [.data, .data, .data], laidTests := true, laidLooks := .later }
def WideSumsCardSaid : Prop := Claim7.holds Tryd.pinned (.plain (OpenSpec.ofChange wideSumsSpec)) wideSumsCard

/-- THE TIED CARD OF 'gnomonlaw01.WideTexts'. -/
def wideTextsCard : Claim7 := { stood := { row := wideTextsRow, standIns := [], harness := (true, "08a6de3bbae607dd8c82867e20878b16abdb97e342a8cd0dbecf9217f53dac6d"), looks := false }, kinds := [], alts := [], laidByText := true, laidKinds := [.data, .data, .data], laidTests := true, laidLooks := .later }
def WideTextsCardSaid : Prop := Claim7.holds Tryd.pinned (.plain (OpenSpec.ofChange wideTextsSpec)) wideTextsCard

/-- THE TIED CARD OF 'gnomonlaw01.WideReads'. -/
def wideReadsCard : Claim7 := { stood := { row := wideReadsRow, standIns := [], harness := (true, "08a6de3bbae607dd8c82867e20878b16abdb97e342a8cd0dbecf9217f53dac6d"), looks := false }, kinds := [], alts := [], laidByText := true, laidKinds := [.data, .data, .data], laidTests := true, laidLooks := .later }
def WideReadsCardSaid : Prop := Claim7.holds Tryd.pinned (.plain (OpenSpec.ofChange wideReadsSpec)) wideReadsCard

/-- THE TIED CARD OF 'gnomonlaw01.WideParts'. -/
def widePartsCard : Claim7 := { stood := { row := widePartsRow, standIns := [], harness := (true, "08a6de3bbae607dd8c82867e20878b16abdb97e342a8cd0dbecf9217f53dac6d"), looks := false }, kinds := [], alts := [], laidByText := true, laidKinds := [.data, .data, .data], laidTests := true, laidLooks := .later }
def WidePartsCardSaid : Prop := Claim7.holds Tryd.pinned (.plain (OpenSpec.ofChange widePartsSpec)) widePartsCard

/-- THE TIED CARD OF 'gnomonlaw01.WideFloats'. -/
def wideFloatsCard : Claim7 := { stood := { row := wideFloatsRow, standIns := [], harness := (true, "08a6de3bbae607dd8c82867e20878b16abdb97e342a8cd0dbecf9217f53dac6d"), looks := false }, kinds := [], alts := [], laidByText := true, laidKinds := [.data, .data, .data], laidTests := true, laidLooks := .later }
def WideFloatsCardSaid : Prop := Claim7.holds Tryd.pinned (.plain (OpenSpec.ofChange wideFloatsSpec)) wideFloatsCard

/-- THE TIED CARD OF 'gnomonlaw01.WideFollows'. -/
def wideFollowsCard : Claim7 := { stood := { row := wideFollowsRow, standIns := [], harness := (true, "08a6de3bbae607dd8c82867e20878b16abdb97e342a8cd0dbecf9217f53dac6d"), looks := false }, kinds := [], alts := [], laidByText := true, laidKinds := [.data, .data, .data], laidTests := true, laidLooks := .later }
def WideFollowsCardSaid : Prop := Claim7.holds Tryd.pinned (.plain (OpenSpec.ofChange wideFollowsSpec)) wideFollowsCard

/-- THE SECOND FORM's CARD OF 'gnomonlaw01.WideNames'. -/
def wideNamesUptoCard : Claim7 := { stood := { row := wideNamesUptoRow, standIns := [], harness := (true, "08a6de3bbae607dd8c82867e20878b16abdb97e342a8cd0dbecf9217f53dac6d"), looks := false }, kinds := [], alts := [], laidByText := true, laidKinds := [.data, .data, .data], laidTests := true, laidLooks := .later }
def WideNamesUptoCardSaid : Prop := Claim7.holds Tryd.pinned (.plain (OpenSpec.upto wideNamesSpec)) wideNamesUptoCard

/-- THE SECOND FORM's CARD OF 'gnomonlaw01.WideSums'. -/
def wideSumsUptoCard : Claim7 := { stood := { row := wideSumsUptoRow, standIns := [], harness := (true, "08a6de3bbae607dd8c82867e20878b16abdb97e342a8cd0dbecf9217f53dac6d"), looks := false }, kinds := [], alts := [], laidByText := true, laidKinds := [.data, .data, .data], laidTests := true, laidLooks := .later }
def WideSumsUptoCardSaid : Prop := Claim7.holds Tryd.pinned (.plain (OpenSpec.upto wideSumsSpec)) wideSumsUptoCard

/-- THE SECOND FORM's CARD OF 'gnomonlaw01.WideTexts'. -/
def wideTextsUptoCard : Claim7 := { stood := { row := wideTextsUptoRow, standIns := [], harness := (true, "08a6de3bbae607dd8c82867e20878b16abdb97e342a8cd0dbecf9217f53dac6d"), looks := false }, kinds := [], alts := [], laidByText := true, laidKinds := [.data, .data, .data], laidTests := true, laidLooks := .later }
def WideTextsUptoCardSaid : Prop := Claim7.holds Tryd.pinned (.plain (OpenSpec.upto wideTextsSpec)) wideTextsUptoCard

/-- THE SECOND FORM's CARD OF 'gnomonlaw01.WideReads'. -/
def wideReadsUptoCard : Claim7 := { stood := { row := wideReadsUptoRow, standIns := [], harness := (true, "08a6de3bbae607dd8c82867e20878b16abdb97e342a8cd0dbecf9217f53dac6d"), looks := false }, kinds := [], alts := [], laidByText := true, laidKinds := [.data, .data, .data], laidTests := true, laidLooks := .later }
def WideReadsUptoCardSaid : Prop := Claim7.holds Tryd.pinned (.plain (OpenSpec.upto wideReadsSpec)) wideReadsUptoCard

/-- THE SECOND FORM's CARD OF 'gnomonlaw01.WideParts'. -/
def widePartsUptoCard : Claim7 := { stood := { row := widePartsUptoRow, standIns := [], harness := (true, "08a6de3bbae607dd8c82867e20878b16abdb97e342a8cd0dbecf9217f53dac6d"), looks := false }, kinds := [], alts := [], laidByText := true, laidKinds := [.data, .data, .data], laidTests := true, laidLooks := .later }
def WidePartsUptoCardSaid : Prop := Claim7.holds Tryd.pinned (.plain (OpenSpec.upto widePartsSpec)) widePartsUptoCard

/-- THE SECOND FORM's CARD OF 'gnomonlaw01.WideFloats'. -/
def wideFloatsUptoCard : Claim7 := { stood := { row := wideFloatsUptoRow, standIns := [], harness := (true, "08a6de3bbae607dd8c82867e20878b16abdb97e342a8cd0dbecf9217f53dac6d"), looks := false }, kinds := [], alts := [], laidByText := true, laidKinds := [.data, .data, .data], laidTests := true, laidLooks := .later }
def WideFloatsUptoCardSaid : Prop := Claim7.holds Tryd.pinned (.plain (OpenSpec.upto wideFloatsSpec)) wideFloatsUptoCard

/-- THE SECOND FORM's CARD OF 'gnomonlaw01.WideFollows'. -/
def wideFollowsUptoCard : Claim7 := { stood := { row := wideFollowsUptoRow, standIns := [], harness := (true, "08a6de3bbae607dd8c82867e20878b16abdb97e342a8cd0dbecf9217f53dac6d"), looks := false }, kinds := [], alts := [], laidByText := true, laidKinds := [.data, .data, .data], laidTests := true, laidLooks := .later }
def WideFollowsUptoCardSaid : Prop := Claim7.holds Tryd.pinned (.plain (OpenSpec.upto wideFollowsSpec)) wideFollowsUptoCard
end Rows
end Go.Proofs.YtepmcblnhibfeaaDoor
