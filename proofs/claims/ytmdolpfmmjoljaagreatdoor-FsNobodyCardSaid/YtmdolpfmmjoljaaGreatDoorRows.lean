/-
  NARROWER THAN 'FOR EVERY INPUT', by the rows' own cells (each row's printed sentence says how): FsNobody: laid · LearnNobody: laid · VaultNobody: laid.
  DERIVED. THE GIVEN ROWS OF THIS SEAT. 3 by the template 'for every input the law returns true; each argument reads behind the call as it read before'; 0 by the template 'total and deterministic' (their statements: YtmdolpfmmjoljaaGreatDoorTotals.lean).
  GIVEN WITH THE SEED: the statements are not yours to turn. If you find one false, say at which input.
  Laid BY PROGRAM, IN A SANDBOX (cutbox-rows.mjs): the forced cells as the released guide's own fill.sh prints them over the translation 81c4c348278fb19b… (all of the seat's roots in one cut). By AI agents, Wed Nov 11 2026. No macro, syntax, notation, axiom, sorry.
-/
import Derived.Test.YtmdolpfmmjoljaaGreatDoorChecked
import GoSem.Claim
import GoSem.ClaimJoined
import GoSem.ClaimMapViews
import Derived.JoinedTies
import Derived.KernelRfl
namespace Go.Proofs.YtmdolpfmmjoljaaGreatDoor
/- THE CELL 'sum', in the pinned program and in every row, IS THE sha256 OF THE DUMP (.gsa) THAT YtmdolpfmmjoljaaGreatDoorProg.lean LOADS. Nothing in Lean hashes anything: it is a label: what it is worth is what the hold of that sum in a sandbox is worth. -/
noncomputable def Tryz.pinned : Pinned := { name := "ytmdolpfmmjoljaagreatdoor", sum := "81c4c348278fb19bcd5c357febb6d9a91f2e837825acea1194e37d5d10d8a7b9", checked := Tryz.checked }
namespace Rows
def none {H : Type} : Left H := { results := [], args := [] }

/- WHAT THE LISTED PACKAGE-LEVEL VARIABLES READ AS WHEN THE CALL BEGINS. Each datum BY PROGRAM (the guide's laid-datum.mjs) off the statement by which the dump's own 'gosem.cut.vars' lays the variable. In a bare row this is a premise. The card (YtmdolpfmmjoljaaGreatDoorCards.lean) ties it to the program's text. -/
def laid_errors_errorType {H : Type} : DataW H := .iface "internal/reflectlite.rtype" (.agg [.ptr (.lit (.string [101, 114, 114, 111, 114]))])
def laid_tender_check_nibble {H : Type} : DataW H := .agg [.lit (.int .u32 0), .lit (.int .u32 274646895), .lit (.int .u32 549293790), .lit (.int .u32 820201905), .lit (.int .u32 1098587580), .lit (.int .u32 1361435347), .lit (.int .u32 1640403810), .lit (.int .u32 1905808397), .lit (.int .u32 2197175160), .lit (.int .u32 2460548119), .lit (.int .u32 2722870694), .lit (.int .u32 2987750089), .lit (.int .u32 3280807620), .lit (.int .u32 3553878443), .lit (.int .u32 3811616794), .lit (.int .u32 4084100981)]

/-- 'tenderlaw12.FsNobody': WHATEVER THE INPUT: true; the input reads as it did. -/
def fsNobodySpec : ChangeSpec := { name := "fsNobody", fn := fun _ => fun
  | [d] => { results := [.lit (.bool true)], args := [d] }
  | _ => none }
def fsNobodyRow : OpenClaim := { program := "ytmdolpfmmjoljaagreatdoor", sum := "81c4c348278fb19bcd5c357febb6d9a91f2e837825acea1194e37d5d10d8a7b9", func := "tender/tenderlaw12.FsNobody", spec := "fsNobody", inPlace := ["internal/bytealg.IndexByteString", "internal/bytealg.IndexString", "maps.clone", "internal/reflectlite.ValueOf", "(internal/reflectlite.Value).Type", "(internal/reflectlite.Value).IsNil", "internal/reflectlite.TypeOf", "(internal/reflectlite.Value).Elem", "(internal/reflectlite.Value).Set"], unfollowed := true, recurses := true, named := ["internal/bytealg.MaxLen", "errors.errorType"], apart := false, laid := [("errors.errorType", laid_errors_errorType)] }
def FsNobodySaid : Prop := fsNobodyRow.holds Tryz.pinned (OpenSpec.ofChange fsNobodySpec)

/-- ITS FALSE NEIGHBOUR: 'it returns false'. Refute it at one input. -/
def fsNobodyWrong : ChangeSpec := { name := "fsNobody", fn := fun _ => fun
  | [d] => { results := [.lit (.bool false)], args := [d] }
  | _ => none }
def FsNobodyWrongFalsely : Prop := fsNobodyRow.holds Tryz.pinned (OpenSpec.ofChange fsNobodyWrong)

/-- 'tenderlaw35.LearnNobody': WHATEVER THE INPUT: true; the input reads as it did. -/
def learnNobodySpec : ChangeSpec := { name := "learnNobody", fn := fun _ => fun
  | [d] => { results := [.lit (.bool true)], args := [d] }
  | _ => none }
def learnNobodyRow : OpenClaim := { program := "ytmdolpfmmjoljaagreatdoor", sum := "81c4c348278fb19bcd5c357febb6d9a91f2e837825acea1194e37d5d10d8a7b9", func := "tender/tenderlaw35.LearnNobody", spec := "learnNobody", inPlace := ["internal/bytealg.IndexByteString", "internal/bytealg.IndexString", "maps.clone", "internal/reflectlite.TypeOf", "internal/reflectlite.ValueOf", "(internal/reflectlite.Value).Type", "(internal/reflectlite.Value).IsNil", "(internal/reflectlite.Value).Elem", "(internal/reflectlite.Value).Set"], unfollowed := true, recurses := true, named := ["internal/bytealg.MaxLen", "tender/check.nibble", "errors.errorType"], apart := false, laid := [("errors.errorType", laid_errors_errorType), ("tender/check.nibble", laid_tender_check_nibble)] }
def LearnNobodySaid : Prop := learnNobodyRow.holds Tryz.pinned (OpenSpec.ofChange learnNobodySpec)

/-- ITS FALSE NEIGHBOUR: 'it returns false'. Refute it at one input. -/
def learnNobodyWrong : ChangeSpec := { name := "learnNobody", fn := fun _ => fun
  | [d] => { results := [.lit (.bool false)], args := [d] }
  | _ => none }
def LearnNobodyWrongFalsely : Prop := learnNobodyRow.holds Tryz.pinned (OpenSpec.ofChange learnNobodyWrong)

/-- 'tenderlaw23.VaultNobody': WHATEVER THE INPUT: true; the input reads as it did. -/
def vaultNobodySpec : ChangeSpec := { name := "vaultNobody", fn := fun _ => fun
  | [d] => { results := [.lit (.bool true)], args := [d] }
  | _ => none }
def vaultNobodyRow : OpenClaim := { program := "ytmdolpfmmjoljaagreatdoor", sum := "81c4c348278fb19bcd5c357febb6d9a91f2e837825acea1194e37d5d10d8a7b9", func := "tender/tenderlaw23.VaultNobody", spec := "vaultNobody", inPlace := ["internal/bytealg.IndexByteString", "internal/bytealg.IndexString", "internal/reflectlite.TypeOf", "internal/reflectlite.ValueOf", "(internal/reflectlite.Value).Type", "(internal/reflectlite.Value).IsNil", "(internal/reflectlite.Value).Elem", "(internal/reflectlite.Value).Set", "maps.clone"], unfollowed := true, recurses := true, named := ["internal/bytealg.MaxLen", "errors.errorType", "tender/check.nibble"], apart := false, laid := [("errors.errorType", laid_errors_errorType), ("tender/check.nibble", laid_tender_check_nibble)] }
def VaultNobodySaid : Prop := vaultNobodyRow.holds Tryz.pinned (OpenSpec.ofChange vaultNobodySpec)

/-- ITS FALSE NEIGHBOUR: 'it returns false'. Refute it at one input. -/
def vaultNobodyWrong : ChangeSpec := { name := "vaultNobody", fn := fun _ => fun
  | [d] => { results := [.lit (.bool false)], args := [d] }
  | _ => none }
def VaultNobodyWrongFalsely : Prop := vaultNobodyRow.holds Tryz.pinned (OpenSpec.ofChange vaultNobodyWrong)

/- THE SECOND FORM. 'bulk': how many values and letters a reading holds, each counted each time it is reached (what is shared counts as often as it is met; a slice's spare places count too). A statement '..UptoSaid' is the law's where the arguments, and the package variables that the reading takes, are together of bulk at most 1048576: NARROWER than '..Said'. Prove '..Said' where nothing that the law and all that it calls make is longer than what came in: it says more and counts as full. Else prove '..UptoSaid'. A law counts once. -/
mutual
def uptoBulk {H : Type} : DataW H → Nat
  | .lit (.string bytes) => bytes.length + 1
  | .lit _ => 1
  | .nil => 1
  | .ptr d => uptoBulk d + 1
  | .slice elems spare => uptoBulkAll elems + uptoBulkAll spare + 1
  | .agg parts => uptoBulkAll parts + 1
  | .iface _ d => uptoBulk d + 1
  | .map entries => uptoBulkEntries entries + 1
  | .held _ => 1
def uptoBulkAll {H : Type} : List (DataW H) → Nat
  | [] => 0
  | d :: r => uptoBulk d + uptoBulkAll r
def uptoBulkEntries {H : Type} : List (Lit × DataW H) → Nat
  | [] => 0
  | x :: r => uptoBulkEntry x + uptoBulkEntries r
def uptoBulkEntry {H : Type} : Lit × DataW H → Nat
  | (.string bytes, d) => bytes.length + uptoBulk d + 1
  | (_, d) => uptoBulk d + 1
 end
def uptoSmall : (H : Type) → List (DataW H) → Bool := fun _ ds => decide (uptoBulkAll ds ≤ 1048576)
def OpenSpec.upto (s : _root_.Go.ChangeSpec) : _root_.Go.OpenSpec := { _root_.Go.OpenSpec.ofChange s with cond := some uptoSmall }

/-- 'tenderlaw12.FsNobody', WHERE WHAT IT READS IS OF BULK AT MOST 1048576: true; the input reads as it did. -/
def fsNobodyUptoRow : OpenClaim := { program := "ytmdolpfmmjoljaagreatdoor", sum := "81c4c348278fb19bcd5c357febb6d9a91f2e837825acea1194e37d5d10d8a7b9", func := "tender/tenderlaw12.FsNobody", spec := "fsNobody", inPlace := ["internal/bytealg.IndexByteString", "internal/bytealg.IndexString", "maps.clone", "internal/reflectlite.ValueOf", "(internal/reflectlite.Value).Type", "(internal/reflectlite.Value).IsNil", "internal/reflectlite.TypeOf", "(internal/reflectlite.Value).Elem", "(internal/reflectlite.Value).Set"], unfollowed := true, recurses := true, named := ["internal/bytealg.MaxLen", "errors.errorType"], apart := false, laid := [("errors.errorType", laid_errors_errorType)], narrowed := true }
def FsNobodyUptoSaid : Prop := fsNobodyUptoRow.holds Tryz.pinned (OpenSpec.upto fsNobodySpec)

/-- 'tenderlaw35.LearnNobody', WHERE WHAT IT READS IS OF BULK AT MOST 1048576: true; the input reads as it did. -/
def learnNobodyUptoRow : OpenClaim := { program := "ytmdolpfmmjoljaagreatdoor", sum := "81c4c348278fb19bcd5c357febb6d9a91f2e837825acea1194e37d5d10d8a7b9", func := "tender/tenderlaw35.LearnNobody", spec := "learnNobody", inPlace := ["internal/bytealg.IndexByteString", "internal/bytealg.IndexString", "maps.clone", "internal/reflectlite.TypeOf", "internal/reflectlite.ValueOf", "(internal/reflectlite.Value).Type", "(internal/reflectlite.Value).IsNil", "(internal/reflectlite.Value).Elem", "(internal/reflectlite.Value).Set"], unfollowed := true, recurses := true, named := ["internal/bytealg.MaxLen", "tender/check.nibble", "errors.errorType"], apart := false, laid := [("errors.errorType", laid_errors_errorType), ("tender/check.nibble", laid_tender_check_nibble)], narrowed := true }
def LearnNobodyUptoSaid : Prop := learnNobodyUptoRow.holds Tryz.pinned (OpenSpec.upto learnNobodySpec)

/-- 'tenderlaw23.VaultNobody', WHERE WHAT IT READS IS OF BULK AT MOST 1048576: true; the input reads as it did. -/
def vaultNobodyUptoRow : OpenClaim := { program := "ytmdolpfmmjoljaagreatdoor", sum := "81c4c348278fb19bcd5c357febb6d9a91f2e837825acea1194e37d5d10d8a7b9", func := "tender/tenderlaw23.VaultNobody", spec := "vaultNobody", inPlace := ["internal/bytealg.IndexByteString", "internal/bytealg.IndexString", "internal/reflectlite.TypeOf", "internal/reflectlite.ValueOf", "(internal/reflectlite.Value).Type", "(internal/reflectlite.Value).IsNil", "(internal/reflectlite.Value).Elem", "(internal/reflectlite.Value).Set", "maps.clone"], unfollowed := true, recurses := true, named := ["internal/bytealg.MaxLen", "errors.errorType", "tender/check.nibble"], apart := false, laid := [("errors.errorType", laid_errors_errorType), ("tender/check.nibble", laid_tender_check_nibble)], narrowed := true }
def VaultNobodyUptoSaid : Prop := vaultNobodyUptoRow.holds Tryz.pinned (OpenSpec.upto vaultNobodySpec)

end Rows
end Go.Proofs.YtmdolpfmmjoljaaGreatDoor
