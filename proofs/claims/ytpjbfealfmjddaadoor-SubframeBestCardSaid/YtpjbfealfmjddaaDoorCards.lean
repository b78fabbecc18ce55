/-
  DERIVED. GIVEN WITH THE SEED: THE CARDS: each row of YtpjbfealfmjddaaDoorRows.lean that lists a variable, with what it lists TIED to the program's text (the seventh form; the later family's looks); each row that meets fmt, with fmt's text TOLD by the authors' own Lean function (tested against real Go, not proved from fmt's source: count such statements apart). THE CARD IS WHAT COUNTS. Prove the row's statement (the work); the ties are given (YtpjbfealfmjddaaDoorTie.lean); close each card by the builder's one call (the guide's Derived/Test/ToyasCard.lean, 'card_holds'). Laid BY PROGRAM, IN A SANDBOX (cutbox-door.mjs). By AI agents, Wed Nov 11 2026. No macro, syntax, notation, axiom, sorry.
-/
import Derived.Test.YtpjbfealfmjddaaDoorRows
import GoSem.ClaimSeven
namespace Go.Proofs.YtpjbfealfmjddaaDoor
namespace Rows

/-- THE TIED CARD OF 'jetsamlaw07.SubframeBest'. -/
def subframeBestCard : Claim7 := { stood := { row := subframeBestRow, standIns := [], harness := (true, "f2e4d99820dbfef805baa46d98cee7b766b512f8b96f4401f8789547232514ff"), looks := false }, kinds := [], alts := [], laidByText := true, laidKinds := [.data], laidTests := true, laidLooks := .later }
def SubframeBestCardSaid : Prop := Claim7.holds Tryd.pinned (.plain (OpenSpec.ofChange subframeBestSpec)) subframeBestCard

/-- THE TIED CARD OF 'jetsamlaw07.SubframeShort'. -/
def subframeShortCard : Claim7 := { stood := { row := subframeShortRow, standIns := [], harness := (true, "f2e4d99820dbfef805baa46d98cee7b766b512f8b96f4401f8789547232514ff"), looks := false }, kinds := [], alts := [], laidByText := true, laidKinds := [.data], laidTests := true, laidLooks := .later }
def SubframeShortCardSaid : Prop := Claim7.holds Tryd.pinned (.plain (OpenSpec.ofChange subframeShortSpec)) subframeShortCard

/-- THE TIED CARD OF 'jetsamlaw07.SubframeBack'. -/
def subframeBackCard : Claim7 := { stood := { row := subframeBackRow, standIns := [], harness := (true, "f2e4d99820dbfef805baa46d98cee7b766b512f8b96f4401f8789547232514ff"), looks := false }, kinds := [], alts := [], laidByText := true, laidKinds := [.data], laidTests := true, laidLooks := .later }
def SubframeBackCardSaid : Prop := Claim7.holds Tryd.pinned (.plain (OpenSpec.ofChange subframeBackSpec)) subframeBackCard

/-- THE SECOND FORM's CARD OF 'jetsamlaw07.SubframeBest'. -/
def subframeBestUptoCard : Claim7 := { stood := { row := subframeBestUptoRow, standIns := [], harness := (true, "f2e4d99820dbfef805baa46d98cee7b766b512f8b96f4401f8789547232514ff"), looks := false }, kinds := [], alts := [], laidByText := true, laidKinds := [.data], laidTests := true, laidLooks := .later }
def SubframeBestUptoCardSaid : Prop := Claim7.holds Tryd.pinned (.plain (OpenSpec.upto subframeBestSpec)) subframeBestUptoCard

/-- THE SECOND FORM's CARD OF 'jetsamlaw07.SubframeShort'. -/
def subframeShortUptoCard : Claim7 := { stood := { row := subframeShortUptoRow, standIns := [], harness := (true, "f2e4d99820dbfef805baa46d98cee7b766b512f8b96f4401f8789547232514ff"), looks := false }, kinds := [], alts := [], laidByText := true, laidKinds := [.data], laidTests := true, laidLooks := .later }
def SubframeShortUptoCardSaid : Prop := Claim7.holds Tryd.pinned (.plain (OpenSpec.upto subframeShortSpec)) subframeShortUptoCard

/-- THE SECOND FORM's CARD OF 'jetsamlaw07.SubframeBack'. -/
def subframeBackUptoCard : Claim7 := { stood := { row := subframeBackUptoRow, standIns := [], harness := (true, "f2e4d99820dbfef805baa46d98cee7b766b512f8b96f4401f8789547232514ff"), looks := false }, kinds := [], alts := [], laidByText := true, laidKinds := [.data], laidTests := true, laidLooks := .later }
def SubframeBackUptoCardSaid : Prop := Claim7.holds Tryd.pinned (.plain (OpenSpec.upto subframeBackSpec)) subframeBackUptoCard
end Rows
end Go.Proofs.YtpjbfealfmjddaaDoor
