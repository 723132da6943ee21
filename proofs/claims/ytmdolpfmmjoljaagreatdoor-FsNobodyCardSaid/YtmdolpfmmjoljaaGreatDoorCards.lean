/-
  DERIVED. GIVEN WITH THE SEED: THE CARDS: each row of YtmdolpfmmjoljaaGreatDoorRows.lean that lists a variable, with what it lists TIED to the program's text (the seventh form; the later family's looks); each row that meets fmt, with fmt's text TOLD by the authors' own Lean function (tested against real Go, not proved from fmt's source: count such statements apart). THE CARD IS WHAT COUNTS. Prove the row's statement (the work); the ties are given (YtmdolpfmmjoljaaGreatDoorTie.lean); close each card by the builder's one call (the guide's Derived/Test/ToyasCard.lean, 'card_holds'). Laid BY PROGRAM, IN A SANDBOX (cutbox-door.mjs). By AI agents, Wed Nov 11 2026. No macro, syntax, notation, axiom, sorry.
-/
import Derived.Test.YtmdolpfmmjoljaaGreatDoorRows
import GoSem.ClaimSeven
namespace Go.Proofs.YtmdolpfmmjoljaaGreatDoor
namespace Rows

/-- THE TIED CARD OF 'tenderlaw12.FsNobody'. -/
def fsNobodyCard : Claim7 := { stood := { row := fsNobodyRow, standIns := [], harness := (true, "6fb47ce8638482abafe0719026cf267ac9a6bc3446464a4775b7fbb1dc0b21db"), looks := true }, kinds := [], alts := [], laidByText := true, laidKinds := [.handle], laidTests := true, laidLooks := .later }
def FsNobodyCardSaid : Prop := Claim7.holds Tryz.pinned (.plain (OpenSpec.ofChange fsNobodySpec)) fsNobodyCard

/-- THE TIED CARD OF 'tenderlaw35.LearnNobody'. -/
def learnNobodyCard : Claim7 := { stood := { row := learnNobodyRow, standIns := [], harness := (true, "6fb47ce8638482abafe0719026cf267ac9a6bc3446464a4775b7fbb1dc0b21db"), looks := true }, kinds := [], alts := [], laidByText := true, laidKinds := [.handle, .data], laidTests := true, laidLooks := .later }
def LearnNobodyCardSaid : Prop := Claim7.holds Tryz.pinned (.plain (OpenSpec.ofChange learnNobodySpec)) learnNobodyCard

/-- THE TIED CARD OF 'tenderlaw23.VaultNobody'. -/
def vaultNobodyCard : Claim7 := { stood := { row := vaultNobodyRow, standIns := [], harness := (true, "6fb47ce8638482abafe0719026cf267ac9a6bc3446464a4775b7fbb1dc0b21db"), looks := true }, kinds := [], alts := [], laidByText := true, laidKinds := [.handle, .data], laidTests := true, laidLooks := .later }
def VaultNobodyCardSaid : Prop := Claim7.holds Tryz.pinned (.plain (OpenSpec.ofChange vaultNobodySpec)) vaultNobodyCard

/-- THE SECOND FORM's CARD OF 'tenderlaw12.FsNobody'. -/
def fsNobodyUptoCard : Claim7 := { stood := { row := fsNobodyUptoRow, standIns := [], harness := (true, "6fb47ce8638482abafe0719026cf267ac9a6bc3446464a4775b7fbb1dc0b21db"), looks := true }, kinds := [], alts := [], laidByText := true, laidKinds := [.handle], laidTests := true, laidLooks := .later }
def FsNobodyUptoCardSaid : Prop := Claim7.holds Tryz.pinned (.plain (OpenSpec.upto fsNobodySpec)) fsNobodyUptoCard

/-- THE SECOND FORM's CARD OF 'tenderlaw35.LearnNobody'. -/
def learnNobodyUptoCard : Claim7 := { stood := { row := learnNobodyUptoRow, standIns := [], harness := (true, "6fb47ce8638482abafe0719026cf267ac9a6bc3446464a4775b7fbb1dc0b21db"), looks := true }, kinds := [], alts := [], laidByText := true, laidKinds := [.handle, .data], laidTests := true, laidLooks := .later }
def LearnNobodyUptoCardSaid : Prop := Claim7.holds Tryz.pinned (.plain (OpenSpec.upto learnNobodySpec)) learnNobodyUptoCard

/-- THE SECOND FORM's CARD OF 'tenderlaw23.VaultNobody'. -/
def vaultNobodyUptoCard : Claim7 := { stood := { row := vaultNobodyUptoRow, standIns := [], harness := (true, "6fb47ce8638482abafe0719026cf267ac9a6bc3446464a4775b7fbb1dc0b21db"), looks := true }, kinds := [], alts := [], laidByText := true, laidKinds := [.handle, .data], laidTests := true, laidLooks := .later }
def VaultNobodyUptoCardSaid : Prop := Claim7.holds Tryz.pinned (.plain (OpenSpec.upto vaultNobodySpec)) vaultNobodyUptoCard
end Rows
end Go.Proofs.YtmdolpfmmjoljaaGreatDoor
