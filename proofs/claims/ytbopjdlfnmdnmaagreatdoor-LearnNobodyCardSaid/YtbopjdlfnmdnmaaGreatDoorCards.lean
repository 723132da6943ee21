/-
  DERIVED. GIVEN WITH THE SEED: THE CARDS: each row of YtbopjdlfnmdnmaaGreatDoorRows.lean that lists a variable, with what it lists TIED to the program's text (the seventh form; the later family's looks); each row that meets fmt, with fmt's text TOLD by the authors' own Lean function (tested against real Go, not proved from fmt's source: count such statements apart). THE CARD IS WHAT COUNTS. Prove the row's statement (the work); the ties are given (YtbopjdlfnmdnmaaGreatDoorTie.lean); close each card by the builder's one call (the guide's Derived/Test/ToyasCard.lean, 'card_holds'). Laid BY PROGRAM, IN A SANDBOX (cutbox-door.mjs). By AI agents, Wed Nov 11 2026. No macro, syntax, notation, axiom, sorry.
-/
import Derived.Test.YtbopjdlfnmdnmaaGreatDoorRows
import GoSem.ClaimSeven
namespace Go.Proofs.YtbopjdlfnmdnmaaGreatDoor
namespace Rows

/-- THE TIED CARD OF 'tenderlaw29.StoreNobody'. -/
def storeNobodyCard : Claim7 := { stood := { row := storeNobodyRow, standIns := [], harness := (true, "02b0443a5654f6cab39d6831fa5fb1cfbcd9c72bf0bffe6c2e2dea51113b6405"), looks := true }, kinds := [], alts := [], laidByText := true, laidKinds := [.data, .data, .data, .handle], laidTests := true, laidLooks := .later }
def StoreNobodyCardSaid : Prop := Claim7.holds Tryz.pinned (.plain (OpenSpec.ofChange storeNobodySpec)) storeNobodyCard

/-- THE TIED CARD OF 'tenderlaw23.VaultNobody'. -/
def vaultNobodyCard : Claim7 := { stood := { row := vaultNobodyRow, standIns := [], harness := (true, "02b0443a5654f6cab39d6831fa5fb1cfbcd9c72bf0bffe6c2e2dea51113b6405"), looks := true }, kinds := [], alts := [], laidByText := true, laidKinds := [.handle, .data], laidTests := true, laidLooks := .later }
def VaultNobodyCardSaid : Prop := Claim7.holds Tryz.pinned (.plain (OpenSpec.ofChange vaultNobodySpec)) vaultNobodyCard

/-- THE TIED CARD OF 'tenderlaw35.LearnNobody'. -/
def learnNobodyCard : Claim7 := { stood := { row := learnNobodyRow, standIns := [], harness := (true, "02b0443a5654f6cab39d6831fa5fb1cfbcd9c72bf0bffe6c2e2dea51113b6405"), looks := true }, kinds := [], alts := [], laidByText := true, laidKinds := [.handle, .data], laidTests := true, laidLooks := .later }
def LearnNobodyCardSaid : Prop := Claim7.holds Tryz.pinned (.plain (OpenSpec.ofChange learnNobodySpec)) learnNobodyCard

/-- THE SECOND FORM's CARD OF 'tenderlaw29.StoreNobody'. -/
def storeNobodyUptoCard : Claim7 := { stood := { row := storeNobodyUptoRow, standIns := [], harness := (true, "02b0443a5654f6cab39d6831fa5fb1cfbcd9c72bf0bffe6c2e2dea51113b6405"), looks := true }, kinds := [], alts := [], laidByText := true, laidKinds := [.data, .data, .data, .handle], laidTests := true, laidLooks := .later }
def StoreNobodyUptoCardSaid : Prop := Claim7.holds Tryz.pinned (.plain (OpenSpec.upto storeNobodySpec)) storeNobodyUptoCard

/-- THE SECOND FORM's CARD OF 'tenderlaw23.VaultNobody'. -/
def vaultNobodyUptoCard : Claim7 := { stood := { row := vaultNobodyUptoRow, standIns := [], harness := (true, "02b0443a5654f6cab39d6831fa5fb1cfbcd9c72bf0bffe6c2e2dea51113b6405"), looks := true }, kinds := [], alts := [], laidByText := true, laidKinds := [.handle, .data], laidTests := true, laidLooks := .later }
def VaultNobodyUptoCardSaid : Prop := Claim7.holds Tryz.pinned (.plain (OpenSpec.upto vaultNobodySpec)) vaultNobodyUptoCard

/-- THE SECOND FORM's CARD OF 'tenderlaw35.LearnNobody'. -/
def learnNobodyUptoCard : Claim7 := { stood := { row := learnNobodyUptoRow, standIns := [], harness := (true, "02b0443a5654f6cab39d6831fa5fb1cfbcd9c72bf0bffe6c2e2dea51113b6405"), looks := true }, kinds := [], alts := [], laidByText := true, laidKinds := [.handle, .data], laidTests := true, laidLooks := .later }
def LearnNobodyUptoCardSaid : Prop := Claim7.holds Tryz.pinned (.plain (OpenSpec.upto learnNobodySpec)) learnNobodyUptoCard
end Rows
end Go.Proofs.YtbopjdlfnmdnmaaGreatDoor
