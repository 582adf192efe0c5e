/-
  DERIVED. GIVEN WITH THE SEED: THE CARDS: each row of YtlaldhmpoggkjaaGreatDoorRows.lean that lists a variable, with what it lists TIED to the program's text (the seventh form; the later family's looks); each row that meets fmt, with fmt's text TOLD by the authors' own Lean function (tested against real Go, not proved from fmt's source: count such statements apart). THE CARD IS WHAT COUNTS. Prove the row's statement (the work); the ties are given (YtlaldhmpoggkjaaGreatDoorTie.lean); close each card by the builder's one call (the guide's Derived/Test/ToyasCard.lean, 'card_holds'). Laid BY PROGRAM, IN A SANDBOX (cutbox-door.mjs). By AI agents, Wed Nov 11 2026. No macro, syntax, notation, axiom, sorry.
-/
import Derived.Test.YtlaldhmpoggkjaaGreatDoorRows
import GoSem.ClaimSeven
namespace Go.Proofs.YtlaldhmpoggkjaaGreatDoor
namespace Rows

/-- THE TIED CARD OF 'provisionlaw36.CloudNil'. -/
def cloudNilCard : Claim7 := { stood := { row := cloudNilRow, standIns := [], harness := (true, "c10977eb5e89e19bddf8237e5e19dc50ad65a5ccc7abeb3ed04ab55c42dd0225"), looks := false }, kinds := [], alts := [], laidByText := true, laidKinds := [.data, .data, .data, .data, .pinned], laidTests := true, laidLooks := .later }
def CloudNilCardSaid : Prop := Claim7.holds Tryz.pinned (.plain (OpenSpec.ofChange cloudNilSpec)) cloudNilCard

/-- THE TIED CARD OF 'provisionlaw38.ProviderNobody'. -/
def providerNobodyCard : Claim7 := { stood := { row := providerNobodyRow, standIns := [], harness := (true, "c10977eb5e89e19bddf8237e5e19dc50ad65a5ccc7abeb3ed04ab55c42dd0225"), looks := false }, kinds := [], alts := [], laidByText := true, laidKinds := [.data, .data, .data, .data, .pinned], laidTests := true, laidLooks := .later }
def ProviderNobodyCardSaid : Prop := Claim7.holds Tryz.pinned (.plain (OpenSpec.ofChange providerNobodySpec)) providerNobodyCard

/-- THE SECOND FORM's CARD OF 'provisionlaw36.CloudNil'. -/
def cloudNilUptoCard : Claim7 := { stood := { row := cloudNilUptoRow, standIns := [], harness := (true, "c10977eb5e89e19bddf8237e5e19dc50ad65a5ccc7abeb3ed04ab55c42dd0225"), looks := false }, kinds := [], alts := [], laidByText := true, laidKinds := [.data, .data, .data, .data, .pinned], laidTests := true, laidLooks := .later }
def CloudNilUptoCardSaid : Prop := Claim7.holds Tryz.pinned (.plain (OpenSpec.upto cloudNilSpec)) cloudNilUptoCard

/-- THE SECOND FORM's CARD OF 'provisionlaw38.ProviderNobody'. -/
def providerNobodyUptoCard : Claim7 := { stood := { row := providerNobodyUptoRow, standIns := [], harness := (true, "c10977eb5e89e19bddf8237e5e19dc50ad65a5ccc7abeb3ed04ab55c42dd0225"), looks := false }, kinds := [], alts := [], laidByText := true, laidKinds := [.data, .data, .data, .data, .pinned], laidTests := true, laidLooks := .later }
def ProviderNobodyUptoCardSaid : Prop := Claim7.holds Tryz.pinned (.plain (OpenSpec.upto providerNobodySpec)) providerNobodyUptoCard
end Rows
end Go.Proofs.YtlaldhmpoggkjaaGreatDoor
