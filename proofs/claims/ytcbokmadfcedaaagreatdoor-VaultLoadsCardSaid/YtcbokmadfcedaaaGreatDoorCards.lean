/-
  DERIVED. GIVEN WITH THE SEED: THE CARDS: each row of YtcbokmadfcedaaaGreatDoorRows.lean that lists a variable, with what it lists TIED to the program's text (the seventh form; the later family's looks); each row that meets fmt, with fmt's text TOLD by the authors' own Lean function (tested against real Go, not proved from fmt's source: count such statements apart). THE CARD IS WHAT COUNTS. Prove the row's statement (the work); the ties are given (YtcbokmadfcedaaaGreatDoorTie.lean); close each card by the builder's one call (the guide's Derived/Test/ToyasCard.lean, 'card_holds'). Laid BY PROGRAM, IN A SANDBOX (cutbox-door.mjs). By AI agents, Wed Nov 11 2026. No macro, syntax, notation, axiom, sorry.
-/
import Derived.Test.YtcbokmadfcedaaaGreatDoorRows
import GoSem.ClaimSeven
namespace Go.Proofs.YtcbokmadfcedaaaGreatDoor
namespace Rows

/-- THE TIED CARD OF 'tenderlaw23.VaultLoads'. -/
def vaultLoadsCard : Claim7 := { stood := { row := vaultLoadsRow, standIns := [], harness := (true, "934a2d15f10a466cf5ce67e4f3160f6eb15e3b7df4793c94cd7ba38b54f0b12f"), looks := true }, kinds := [], alts := [], laidByText := true, laidKinds := [.handle, .data], laidTests := true, laidLooks := .later }
def VaultLoadsCardSaid : Prop := Claim7.holds Tryz.pinned (.plain (OpenSpec.ofChange vaultLoadsSpec)) vaultLoadsCard

/-- THE SECOND FORM's CARD OF 'tenderlaw23.VaultLoads'. -/
def vaultLoadsUptoCard : Claim7 := { stood := { row := vaultLoadsUptoRow, standIns := [], harness := (true, "934a2d15f10a466cf5ce67e4f3160f6eb15e3b7df4793c94cd7ba38b54f0b12f"), looks := true }, kinds := [], alts := [], laidByText := true, laidKinds := [.handle, .data], laidTests := true, laidLooks := .later }
def VaultLoadsUptoCardSaid : Prop := Claim7.holds Tryz.pinned (.plain (OpenSpec.upto vaultLoadsSpec)) vaultLoadsUptoCard
end Rows
end Go.Proofs.YtcbokmadfcedaaaGreatDoor
