/-
  DERIVED. GIVEN WITH THE SEED: THE CARDS: each row of YtaclkachohkenaaDoorRows.lean that lists a variable, with what it lists TIED to the program's text (the seventh form; the later family's looks); each row that meets fmt, with fmt's text TOLD by the authors' own Lean function (tested against real Go, not proved from fmt's source: count such statements apart). THE CARD IS WHAT COUNTS. Prove the row's statement (the work); the ties are given (YtaclkachohkenaaDoorTie.lean); close each card by the builder's one call (the guide's Derived/Test/ToyasCard.lean, 'card_holds'). Laid BY PROGRAM, IN A SANDBOX (cutbox-door.mjs). By AI agents, Wed Nov 11 2026. No macro, syntax, notation, axiom, sorry.
-/
import Derived.Test.YtaclkachohkenaaDoorRows
import GoSem.ClaimSeven
namespace Go.Proofs.YtaclkachohkenaaDoor
namespace Rows

/-- THE TIED CARD OF 'sprocketlaw24.RetireActs'. -/
def retireActsCard : Claim7 := { stood := { row := retireActsRow, standIns := [], harness := (true, "1764d56c1d2d6fa1c52017bcacbdba4f440803df24e931abaf47f2403c3bce61"), looks := false }, kinds := [], alts := [], laidByText := true, laidKinds := [.data], laidTests := true, laidLooks := .later }
def RetireActsCardSaid : Prop := Claim7.holds Tryd.pinned (.plain (OpenSpec.ofChange retireActsSpec)) retireActsCard

/-- THE SECOND FORM's CARD OF 'sprocketlaw24.RetireActs'. -/
def retireActsUptoCard : Claim7 := { stood := { row := retireActsUptoRow, standIns := [], harness := (true, "1764d56c1d2d6fa1c52017bcacbdba4f440803df24e931abaf47f2403c3bce61"), looks := false }, kinds := [], alts := [], laidByText := true, laidKinds := [.data], laidTests := true, laidLooks := .later }
def RetireActsUptoCardSaid : Prop := Claim7.holds Tryd.pinned (.plain (OpenSpec.upto retireActsSpec)) retireActsUptoCard
end Rows
end Go.Proofs.YtaclkachohkenaaDoor
