/-
  DERIVED. GIVEN WITH THE SEED: THE CARDS: each row of YtmohidgdmmkikaaGreatDoorRows.lean that lists a variable, with what it lists TIED to the program's text (the seventh form; the later family's looks); each row that meets fmt, with fmt's text TOLD by the authors' own Lean function (tested against real Go, not proved from fmt's source: count such statements apart). THE CARD IS WHAT COUNTS. Prove the row's statement (the work); the ties are given (YtmohidgdmmkikaaGreatDoorTie.lean); close each card by the builder's one call (the guide's Derived/Test/ToyasCard.lean, 'card_holds'). Laid BY PROGRAM, IN A SANDBOX (cutbox-door.mjs). By AI agents, Wed Nov 11 2026. No macro, syntax, notation, axiom, sorry.
-/
import Derived.Test.YtmohidgdmmkikaaGreatDoorRows
import GoSem.ClaimSeven
namespace Go.Proofs.YtmohidgdmmkikaaGreatDoor
namespace Rows

/-- THE TIED CARD OF 'strongroomtop.TopOutside'. -/
def topOutsideCard : Claim7 := { stood := { row := topOutsideRow, standIns := [], harness := (true, "329d0610a1b0ebfcacb3f1b2feccb3f3d731e332119b14de8978fce19046121f"), looks := false }, kinds := [], alts := [], laidByText := true, laidKinds := [.data, .data, .data, .data, .pinned], laidTests := true, laidLooks := .later }
def TopOutsideCardSaid : Prop := Claim7.holds Tryz.pinned (.plain (OpenSpec.ofChange topOutsideSpec)) topOutsideCard

/-- THE TIED CARD OF 'strongroomlaw26.ShellNumbers'. -/
def shellNumbersCard : Claim7 := { stood := { row := shellNumbersRow, standIns := [], harness := (true, "329d0610a1b0ebfcacb3f1b2feccb3f3d731e332119b14de8978fce19046121f"), looks := false }, kinds := [], alts := [], laidByText := true, laidKinds := [.data, .data, .data, .data, .pinned], laidTests := true, laidLooks := .later }
def ShellNumbersCardSaid : Prop := Claim7.holds Tryz.pinned (.plain (OpenSpec.ofChange shellNumbersSpec)) shellNumbersCard

/-- THE SECOND FORM's CARD OF 'strongroomtop.TopOutside'. -/
def topOutsideUptoCard : Claim7 := { stood := { row := topOutsideUptoRow, standIns := [], harness := (true, "329d0610a1b0ebfcacb3f1b2feccb3f3d731e332119b14de8978fce19046121f"), looks := false }, kinds := [], alts := [], laidByText := true, laidKinds := [.data, .data, .data, .data, .pinned], laidTests := true, laidLooks := .later }
def TopOutsideUptoCardSaid : Prop := Claim7.holds Tryz.pinned (.plain (OpenSpec.upto topOutsideSpec)) topOutsideUptoCard

/-- THE SECOND FORM's CARD OF 'strongroomlaw26.ShellNumbers'. -/
def shellNumbersUptoCard : Claim7 := { stood := { row := shellNumbersUptoRow, standIns := [], harness := (true, "329d0610a1b0ebfcacb3f1b2feccb3f3d731e332119b14de8978fce19046121f"), looks := false }, kinds := [], alts := [], laidByText := true, laidKinds := [.data, .data, .data, .data, .pinned], laidTests := true, laidLooks := .later }
def ShellNumbersUptoCardSaid : Prop := Claim7.holds Tryz.pinned (.plain (OpenSpec.upto shellNumbersSpec)) shellNumbersUptoCard
end Rows
end Go.Proofs.YtmohidgdmmkikaaGreatDoor
