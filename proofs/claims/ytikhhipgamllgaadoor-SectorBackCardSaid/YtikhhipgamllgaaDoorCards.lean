/-
  DERIVED. GIVEN WITH THE SEED: THE CARDS: each row of YtikhhipgamllgaaDoorRows.lean that lists a variable, with what it lists TIED to the program's text (the seventh form; the later family's looks); each row that meets fmt, with fmt's text TOLD by the authors' own Lean function (tested against real Go, not proved from fmt's source: count such statements apart). THE CARD IS WHAT COUNTS. Prove the row's statement (the work); the ties are given (YtikhhipgamllgaaDoorTie.lean); close each card by the builder's one call (the guide's Derived/Test/ToyasCard.lean, 'card_holds'). Laid BY PROGRAM, IN A SANDBOX (cutbox-door.mjs). By AI agents, Wed Nov 11 2026. No macro, syntax, notation, axiom, sorry.
-/
import Derived.Test.YtikhhipgamllgaaDoorRows
import GoSem.ClaimSeven
namespace Go.Proofs.YtikhhipgamllgaaDoor
namespace Rows

/-- THE TIED CARD OF 'flotsamlaw04.SectorLists'. -/
def sectorListsCard : Claim7 := { stood := { row := sectorListsRow, standIns := [], harness := (true, "5833013a3fda832ea5fa875d4450f9bd0912f418e25b86d436e4e49e83aa4e36"), looks := false }, kinds := [], alts := [], laidByText := true, laidKinds := [.sentinel], laidTests := true, laidLooks := .later }
def SectorListsCardSaid : Prop := Claim7.holds Tryd.pinned (.plain (OpenSpec.ofChange sectorListsSpec)) sectorListsCard

/-- THE TIED CARD OF 'flotsamlaw04.SectorBack'. -/
def sectorBackCard : Claim7 := { stood := { row := sectorBackRow, standIns := [], harness := (true, "5833013a3fda832ea5fa875d4450f9bd0912f418e25b86d436e4e49e83aa4e36"), looks := false }, kinds := [], alts := [], laidByText := true, laidKinds := [.sentinel], laidTests := true, laidLooks := .later }
def SectorBackCardSaid : Prop := Claim7.holds Tryd.pinned (.plain (OpenSpec.ofChange sectorBackSpec)) sectorBackCard

/-- THE SECOND FORM's CARD OF 'flotsamlaw04.SectorLists'. -/
def sectorListsUptoCard : Claim7 := { stood := { row := sectorListsUptoRow, standIns := [], harness := (true, "5833013a3fda832ea5fa875d4450f9bd0912f418e25b86d436e4e49e83aa4e36"), looks := false }, kinds := [], alts := [], laidByText := true, laidKinds := [.sentinel], laidTests := true, laidLooks := .later }
def SectorListsUptoCardSaid : Prop := Claim7.holds Tryd.pinned (.plain (OpenSpec.upto sectorListsSpec)) sectorListsUptoCard

/-- THE SECOND FORM's CARD OF 'flotsamlaw04.SectorBack'. -/
def sectorBackUptoCard : Claim7 := { stood := { row := sectorBackUptoRow, standIns := [], harness := (true, "5833013a3fda832ea5fa875d4450f9bd0912f418e25b86d436e4e49e83aa4e36"), looks := false }, kinds := [], alts := [], laidByText := true, laidKinds := [.sentinel], laidTests := true, laidLooks := .later }
def SectorBackUptoCardSaid : Prop := Claim7.holds Tryd.pinned (.plain (OpenSpec.upto sectorBackSpec)) sectorBackUptoCard
end Rows
end Go.Proofs.YtikhhipgamllgaaDoor
