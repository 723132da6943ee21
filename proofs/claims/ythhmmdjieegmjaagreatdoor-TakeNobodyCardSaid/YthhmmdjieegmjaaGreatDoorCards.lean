/-
  DERIVED. GIVEN WITH THE SEED: THE CARDS: each row of YthhmmdjieegmjaaGreatDoorRows.lean that lists a variable, with what it lists TIED to the program's text (the seventh form; the later family's looks); each row that meets fmt, with fmt's text TOLD by the authors' own Lean function (tested against real Go, not proved from fmt's source: count such statements apart). THE CARD IS WHAT COUNTS. Prove the row's statement (the work); the ties are given (YthhmmdjieegmjaaGreatDoorTie.lean); close each card by the builder's one call (the guide's Derived/Test/ToyasCard.lean, 'card_holds'). Laid BY PROGRAM, IN A SANDBOX (cutbox-door.mjs). By AI agents, Wed Nov 11 2026. No macro, syntax, notation, axiom, sorry.
-/
import Derived.Test.YthhmmdjieegmjaaGreatDoorRows
import GoSem.ClaimSeven
namespace Go.Proofs.YthhmmdjieegmjaaGreatDoor
namespace Rows

/-- THE TIED CARD OF 'tenderlaw29.StoreNobody'. -/
def storeNobodyCard : Claim7 := { stood := { row := storeNobodyRow, standIns := [], harness := (true, "f6476c4c7d77eba80c9eaaeb1feba3f77287c39862545496170ad347bc2d1540"), looks := true }, kinds := [], alts := [], laidByText := true, laidKinds := [.data, .data, .data, .handle], laidTests := true, laidLooks := .later }
def StoreNobodyCardSaid : Prop := Claim7.holds Tryz.pinned (.plain (OpenSpec.ofChange storeNobodySpec)) storeNobodyCard

/-- THE TIED CARD OF 'tenderlaw30.GiveNobody'. -/
def giveNobodyCard : Claim7 := { stood := { row := giveNobodyRow, standIns := [], harness := (true, "f6476c4c7d77eba80c9eaaeb1feba3f77287c39862545496170ad347bc2d1540"), looks := true }, kinds := [], alts := [], laidByText := true, laidKinds := [.data, .data], laidTests := true, laidLooks := .later }
def GiveNobodyCardSaid : Prop := Claim7.holds Tryz.pinned (.plain (OpenSpec.ofChange giveNobodySpec)) giveNobodyCard

/-- THE TIED CARD OF 'tenderlaw31.TakeNobody'. -/
def takeNobodyCard : Claim7 := { stood := { row := takeNobodyRow, standIns := [], harness := (true, "f6476c4c7d77eba80c9eaaeb1feba3f77287c39862545496170ad347bc2d1540"), looks := true }, kinds := [], alts := [], laidByText := true, laidKinds := [.data, .data, .data, .handle], laidTests := true, laidLooks := .later }
def TakeNobodyCardSaid : Prop := Claim7.holds Tryz.pinned (.plain (OpenSpec.ofChange takeNobodySpec)) takeNobodyCard

/-- THE SECOND FORM's CARD OF 'tenderlaw29.StoreNobody'. -/
def storeNobodyUptoCard : Claim7 := { stood := { row := storeNobodyUptoRow, standIns := [], harness := (true, "f6476c4c7d77eba80c9eaaeb1feba3f77287c39862545496170ad347bc2d1540"), looks := true }, kinds := [], alts := [], laidByText := true, laidKinds := [.data, .data, .data, .handle], laidTests := true, laidLooks := .later }
def StoreNobodyUptoCardSaid : Prop := Claim7.holds Tryz.pinned (.plain (OpenSpec.upto storeNobodySpec)) storeNobodyUptoCard

/-- THE SECOND FORM's CARD OF 'tenderlaw30.GiveNobody'. -/
def giveNobodyUptoCard : Claim7 := { stood := { row := giveNobodyUptoRow, standIns := [], harness := (true, "f6476c4c7d77eba80c9eaaeb1feba3f77287c39862545496170ad347bc2d1540"), looks := true }, kinds := [], alts := [], laidByText := true, laidKinds := [.data, .data], laidTests := true, laidLooks := .later }
def GiveNobodyUptoCardSaid : Prop := Claim7.holds Tryz.pinned (.plain (OpenSpec.upto giveNobodySpec)) giveNobodyUptoCard

/-- THE SECOND FORM's CARD OF 'tenderlaw31.TakeNobody'. -/
def takeNobodyUptoCard : Claim7 := { stood := { row := takeNobodyUptoRow, standIns := [], harness := (true, "f6476c4c7d77eba80c9eaaeb1feba3f77287c39862545496170ad347bc2d1540"), looks := true }, kinds := [], alts := [], laidByText := true, laidKinds := [.data, .data, .data, .handle], laidTests := true, laidLooks := .later }
def TakeNobodyUptoCardSaid : Prop := Claim7.holds Tryz.pinned (.plain (OpenSpec.upto takeNobodySpec)) takeNobodyUptoCard
end Rows
end Go.Proofs.YthhmmdjieegmjaaGreatDoor
