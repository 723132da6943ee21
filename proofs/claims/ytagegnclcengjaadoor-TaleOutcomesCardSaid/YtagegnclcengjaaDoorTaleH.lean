/- tale's reference: a hex digit. By an AI agent. -/
import Derived.Test.YtagegnclcengjaaDoorTaleA
namespace Go.Proofs.YtagegnclcengjaaDoor
open Go Go.Rx Go.RowKit
set_option linter.unusedVariables false
set_option linter.unusedSimpArgs false
set_option maxRecDepth 100000
namespace words
theorem hx (n : Int) (s : ByteArray) : endsV E0 18 100 (entE E0 18 [.v (.int .i64 n)]) [(1000, .b true)] (.string s) = [
  Value.string
   ({
   data :=
   {
   toList :=
   [(48 : UInt8), (49 : UInt8), (50 : UInt8), (51 : UInt8), (52 : UInt8), (53 : UInt8), (54 : UInt8),
   (55 : UInt8), (56 : UInt8), (57 : UInt8), (97 : UInt8), (98 : UInt8), (99 : UInt8), (100 : UInt8),
   (101 : UInt8), (102 : UInt8)] :
   Array UInt8 } :
   ByteArray }.extract
   n.toNat (IntKind.i64.wrap (n + (1 : Int))).toNat) =
   Value.string s,
  decide ((0 : Int) ≤ n ∧ n ≤ (↑(IntKind.i64.wrap (n + (1 : Int))).toNat : Int)) = true,
  decide ((0 : Int) ≤ IntKind.i64.wrap (n + (1 : Int)) ∧ IntKind.i64.wrap (n + (1 : Int)) ≤ (↑(16 : Nat) : Int)) = true] := by kernel_rfl
def hexPS : PS := fun args => match args with | [.int .i64 n] => some (.string (hexes.extract n.toNat (n.toNat + 1)), 0 ≤ n ∧ n < 16) | _ => none
theorem hex_ok : PureOK Tryd.prog (fun _ => True) (18, hexPS) := by
  refine ⟨⟨_, Tryd.func18, by kernel_rfl, by kernel_rfl⟩, fun args v p h hp w hX => ?_⟩
  dsimp only [hexPS] at h
  split at h
  · rename_i n
    cases h
    refine (calls_bare (E := E0) rfl rfl (Q := fun v => v = .string (hexes.extract n.toNat (n.toNat + 1))) (args := [.v (.int .i64 n)]) (a := [.int .i64 n]) w (S0 := entE E0 18 [.v (.int .i64 n)]) (by kernel_rfl) (VRL.cons (VR.v_iff.2 rfl) VRL.nil) fun cs0 => ?_).mono fun e w' ⟨h1, u, h2, h3⟩ => ⟨h1, by rw [h2, h3]⟩
    refine Goes.endsV K0 (n := 100) (o := [(1000, .b true)]) (v := .string (hexes.extract n.toNat (n.toNat + 1))) ?_ ?_
    · rw [hx]
      obtain ⟨h0, h1⟩ := hp
      have hw : IntKind.i64.wrap (n + 1) = n + 1 := IntWalk.i64_in _ (by omega)
      have ht : (n + 1).toNat = n.toNat + 1 := by omega
      simp [Owed, hw, ht, hexes]
      omega
    · intro ν' M1 w1 s' w' _ hB hr
      exact ⟨below_of not_laid hB hr, _, rfl, rfl⟩
  · cases h
end words
end Go.Proofs.YtagegnclcengjaaDoor
