/-
  DERIVED. GIVEN WITH THE SEED: THE CARDS: each row of YtpjbfealfmjddaaGreatDoorRows.lean that lists a variable, with what it lists TIED to the program's text (the seventh form; the later family's looks); each row that meets fmt, with fmt's text TOLD by the authors' own Lean function (tested against real Go, not proved from fmt's source: count such statements apart). THE CARD IS WHAT COUNTS. Prove the row's statement (the work); the ties are given (YtpjbfealfmjddaaGreatDoorTie.lean); close each card by the builder's one call (the guide's Derived/Test/ToyasCard.lean, 'card_holds'). Laid BY PROGRAM, IN A SANDBOX (cutbox-door.mjs). By AI agents, Wed Nov 11 2026. No macro, syntax, notation, axiom, sorry.
-/
import Derived.Test.YtpjbfealfmjddaaGreatDoorRows
import GoSem.ClaimSeven
namespace Go.Proofs.YtpjbfealfmjddaaGreatDoor
namespace Rows

/-- THE TIED CARD OF 'jetsamlaw07.SubframeReads'. -/
def subframeReadsCard : Claim7 := { stood := { row := subframeReadsRow, standIns := [], harness := (true, "47117724fee98006e7916a12b7242b1d0084474a2e71103eff18dddda2ea93bf"), looks := false }, kinds := [], alts := [], laidByText := true, laidKinds := [.data], laidTests := true, laidLooks := .later }
def SubframeReadsCardSaid : Prop := Claim7.holds Tryz.pinned (.plain (OpenSpec.ofChange subframeReadsSpec)) subframeReadsCard

/-- THE SECOND FORM's CARD OF 'jetsamlaw07.SubframeReads'. -/
def subframeReadsUptoCard : Claim7 := { stood := { row := subframeReadsUptoRow, standIns := [], harness := (true, "47117724fee98006e7916a12b7242b1d0084474a2e71103eff18dddda2ea93bf"), looks := false }, kinds := [], alts := [], laidByText := true, laidKinds := [.data], laidTests := true, laidLooks := .later }
def SubframeReadsUptoCardSaid : Prop := Claim7.holds Tryz.pinned (.plain (OpenSpec.upto subframeReadsSpec)) subframeReadsUptoCard
end Rows
end Go.Proofs.YtpjbfealfmjddaaGreatDoor
