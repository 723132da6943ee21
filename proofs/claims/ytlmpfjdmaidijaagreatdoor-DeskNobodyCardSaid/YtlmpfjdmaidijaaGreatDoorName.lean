/- The contract of msg.Name: a kind's name. By an AI agent. -/
import Derived.Test.YtlmpfjdmaidijaaGreatDoorEnv
namespace Go.Proofs.YtlmpfjdmaidijaaGreatDoor
open Go Go.Rx Go.RowKit
set_option linter.unusedVariables false
set_option linter.unusedSimpArgs false
set_option maxRecDepth 100000
namespace nameOf
noncomputable def E0 : Env := EP [] []
theorem K0 {M : Own} {w0 : World} : Facts E0 M w0 := factsP0 fun r h => by cases h
def noSM : SM := { top := { fn := 0, tm := tmOf 0 0 [], todo := [], defers := [], ret := false, kind := .normal, ro := none }, callers := [], mem := memOf 0 0 0 [] }
noncomputable def ent (k : Int) : SM := (enterS E0 27 [.v (.int .i64 k)] (memOf 6 0 0 [])).getD noSM
def tbl : List ByteArray := [⟨#[104, 101, 108, 108, 111]⟩, ⟨#[119, 101, 108, 99, 111, 109, 101]⟩, ⟨#[108, 105, 115, 116]⟩, ⟨#[114, 111, 119, 115]⟩, ⟨#[102, 101, 116, 99, 104]⟩, ⟨#[99, 104, 117, 110, 107]⟩, ⟨#[97, 100, 111, 112, 116]⟩, ⟨#[115, 117, 114, 118, 101, 121]⟩, ⟨#[103, 101, 116]⟩, ⟨#[111, 102, 102, 101, 114]⟩, ⟨#[100, 97, 116, 97]⟩, ⟨#[100, 111, 110, 101]⟩, ⟨#[115, 101, 116, 116, 108, 101]⟩, ⟨#[98, 121, 101]⟩, ⟨#[111, 107]⟩, ⟨#[102, 97, 105, 108]⟩]
def nameB (k : Int) : ByteArray := if k < 1 ∨ 16 < k then ⟨#[]⟩ else tbl.getD (k.toNat - 1) ⟨#[]⟩
theorem lo (k : Int) : endsV E0 27 300 (ent k) [(0, .b true), (1, .b true), (2, .b true), (3, .b true)] (.string ⟨#[]⟩) = [
  Value.string { data := { toList := [] } } = Value.string { data := { toList := [] } },
  true = true,
  decide (k < (1 : Int)) = true,
  decide (k < (1 : Int)) = true,
  decide (k < (1 : Int)) = true] := by kernel_rfl
theorem hi (k : Int) : endsV E0 27 300 (ent k) [(0, .b false), (1, .b false), (2, .b false), (3, .b true)] (.string ⟨#[]⟩) = [
  Value.string { data := { toList := [] } } = Value.string { data := { toList := [] } },
  decide (k > (16 : Int)) = true,
  decide (k < (1 : Int)) = false,
  decide (k < (1 : Int)) = false,
  decide (k < (1 : Int)) = false] := by kernel_rfl
theorem n1  : endsV E0 27 300 (ent 1) [] (.string ⟨#[104, 101, 108, 108, 111]⟩) = [
  Value.string { data := { toList := [(104 : UInt8), (101 : UInt8), (108 : UInt8), (108 : UInt8), (111 : UInt8)] } } =
   Value.string { data := { toList := [(104 : UInt8), (101 : UInt8), (108 : UInt8), (108 : UInt8), (111 : UInt8)] } }] := by kernel_rfl
theorem n2  : endsV E0 27 300 (ent 2) [] (.string ⟨#[119, 101, 108, 99, 111, 109, 101]⟩) = [
  Value.string
   {
   data :=
   {
   toList :=
   [(119 : UInt8), (101 : UInt8), (108 : UInt8), (99 : UInt8), (111 : UInt8), (109 : UInt8),
   (101 : UInt8)] } } =
   Value.string
   {
   data :=
   {
   toList :=
   [(119 : UInt8), (101 : UInt8), (108 : UInt8), (99 : UInt8), (111 : UInt8), (109 : UInt8), (101 : UInt8)] } }] := by kernel_rfl
theorem n3  : endsV E0 27 300 (ent 3) [] (.string ⟨#[108, 105, 115, 116]⟩) = [
  Value.string { data := { toList := [(108 : UInt8), (105 : UInt8), (115 : UInt8), (116 : UInt8)] } } =
   Value.string { data := { toList := [(108 : UInt8), (105 : UInt8), (115 : UInt8), (116 : UInt8)] } }] := by kernel_rfl
theorem n4  : endsV E0 27 300 (ent 4) [] (.string ⟨#[114, 111, 119, 115]⟩) = [
  Value.string { data := { toList := [(114 : UInt8), (111 : UInt8), (119 : UInt8), (115 : UInt8)] } } =
   Value.string { data := { toList := [(114 : UInt8), (111 : UInt8), (119 : UInt8), (115 : UInt8)] } }] := by kernel_rfl
theorem n5  : endsV E0 27 300 (ent 5) [] (.string ⟨#[102, 101, 116, 99, 104]⟩) = [
  Value.string { data := { toList := [(102 : UInt8), (101 : UInt8), (116 : UInt8), (99 : UInt8), (104 : UInt8)] } } =
   Value.string { data := { toList := [(102 : UInt8), (101 : UInt8), (116 : UInt8), (99 : UInt8), (104 : UInt8)] } }] := by kernel_rfl
theorem n6  : endsV E0 27 300 (ent 6) [] (.string ⟨#[99, 104, 117, 110, 107]⟩) = [
  Value.string { data := { toList := [(99 : UInt8), (104 : UInt8), (117 : UInt8), (110 : UInt8), (107 : UInt8)] } } =
   Value.string { data := { toList := [(99 : UInt8), (104 : UInt8), (117 : UInt8), (110 : UInt8), (107 : UInt8)] } }] := by kernel_rfl
theorem n7  : endsV E0 27 300 (ent 7) [] (.string ⟨#[97, 100, 111, 112, 116]⟩) = [
  Value.string { data := { toList := [(97 : UInt8), (100 : UInt8), (111 : UInt8), (112 : UInt8), (116 : UInt8)] } } =
   Value.string { data := { toList := [(97 : UInt8), (100 : UInt8), (111 : UInt8), (112 : UInt8), (116 : UInt8)] } }] := by kernel_rfl
theorem n8  : endsV E0 27 300 (ent 8) [] (.string ⟨#[115, 117, 114, 118, 101, 121]⟩) = [
  Value.string
   {
   data :=
   { toList := [(115 : UInt8), (117 : UInt8), (114 : UInt8), (118 : UInt8), (101 : UInt8), (121 : UInt8)] } } =
   Value.string
   { data := { toList := [(115 : UInt8), (117 : UInt8), (114 : UInt8), (118 : UInt8), (101 : UInt8), (121 : UInt8)] } }] := by kernel_rfl
theorem n9  : endsV E0 27 300 (ent 9) [] (.string ⟨#[103, 101, 116]⟩) = [
  Value.string { data := { toList := [(103 : UInt8), (101 : UInt8), (116 : UInt8)] } } =
   Value.string { data := { toList := [(103 : UInt8), (101 : UInt8), (116 : UInt8)] } }] := by kernel_rfl
theorem n10  : endsV E0 27 300 (ent 10) [] (.string ⟨#[111, 102, 102, 101, 114]⟩) = [
  Value.string { data := { toList := [(111 : UInt8), (102 : UInt8), (102 : UInt8), (101 : UInt8), (114 : UInt8)] } } =
   Value.string { data := { toList := [(111 : UInt8), (102 : UInt8), (102 : UInt8), (101 : UInt8), (114 : UInt8)] } }] := by kernel_rfl
theorem n11  : endsV E0 27 300 (ent 11) [] (.string ⟨#[100, 97, 116, 97]⟩) = [
  Value.string { data := { toList := [(100 : UInt8), (97 : UInt8), (116 : UInt8), (97 : UInt8)] } } =
   Value.string { data := { toList := [(100 : UInt8), (97 : UInt8), (116 : UInt8), (97 : UInt8)] } }] := by kernel_rfl
theorem n12  : endsV E0 27 300 (ent 12) [] (.string ⟨#[100, 111, 110, 101]⟩) = [
  Value.string { data := { toList := [(100 : UInt8), (111 : UInt8), (110 : UInt8), (101 : UInt8)] } } =
   Value.string { data := { toList := [(100 : UInt8), (111 : UInt8), (110 : UInt8), (101 : UInt8)] } }] := by kernel_rfl
theorem n13  : endsV E0 27 300 (ent 13) [] (.string ⟨#[115, 101, 116, 116, 108, 101]⟩) = [
  Value.string
   {
   data :=
   { toList := [(115 : UInt8), (101 : UInt8), (116 : UInt8), (116 : UInt8), (108 : UInt8), (101 : UInt8)] } } =
   Value.string
   { data := { toList := [(115 : UInt8), (101 : UInt8), (116 : UInt8), (116 : UInt8), (108 : UInt8), (101 : UInt8)] } }] := by kernel_rfl
theorem n14  : endsV E0 27 300 (ent 14) [] (.string ⟨#[98, 121, 101]⟩) = [
  Value.string { data := { toList := [(98 : UInt8), (121 : UInt8), (101 : UInt8)] } } =
   Value.string { data := { toList := [(98 : UInt8), (121 : UInt8), (101 : UInt8)] } }] := by kernel_rfl
theorem n15  : endsV E0 27 300 (ent 15) [] (.string ⟨#[111, 107]⟩) = [
  Value.string { data := { toList := [(111 : UInt8), (107 : UInt8)] } } =
   Value.string { data := { toList := [(111 : UInt8), (107 : UInt8)] } }] := by kernel_rfl
theorem n16  : endsV E0 27 300 (ent 16) [] (.string ⟨#[102, 97, 105, 108]⟩) = [
  Value.string { data := { toList := [(102 : UInt8), (97 : UInt8), (105 : UInt8), (108 : UInt8)] } } =
   Value.string { data := { toList := [(102 : UInt8), (97 : UInt8), (105 : UInt8), (108 : UInt8)] } }] := by kernel_rfl
structure Due (l : List Prop) : Prop where
  out : Owed l
theorem one {k : Int} {s : ByteArray} {o : List (Nat × Ans)} (h : Due (endsV E0 27 300 (ent k) o (.string s))) (w : World) : Calls Tryz.prog 27 #[.int .i64 k] w fun e w' => Below w.heap.size w w' ∧ ∃ v, e = .returned v ∧ v = .string s := by
  refine calls_of_read (E := E0) (args := [.v (.int .i64 k)]) (a := [.int .i64 k]) (Q := fun v => v = .string s) rfl (d := 6) (l := []) (os := []) rfl (by simp) (by simp) (fun i o b c h => by simp at h) rfl (S0 := ent k) (by kernel_rfl) (VRL.cons (VR.v_iff.2 rfl) VRL.nil) fun cs0 => ?_
  refine Goes.endsV K0 (n := 300) (o := o) (v := .string s) ?_ ?_
  · with_reducible exact h.out
  · intro ν' M1 w1 s' w' _ hB hr
    exact ⟨below_of (fun b => layOwn_none (os := [])) hB hr, _, rfl, rfl⟩
theorem name_any (k : Int) (w : World) : Calls Tryz.prog 27 #[.int .i64 k] w fun e w' => Below w.heap.size w w' ∧ ∃ v, e = .returned v ∧ v = .string (nameB k) := by
  by_cases h : k < 1
  · have e : nameB k = ⟨#[]⟩ := if_pos (.inl h)
    rw [e]
    exact one ⟨by rw [lo]; simp [Owed, h]⟩ w
  by_cases h' : 16 < k
  · have e : nameB k = ⟨#[]⟩ := if_pos (.inr h')
    rw [e]
    exact one ⟨by rw [hi]; simp [Owed, h, h']⟩ w
  have hk : k = 1 ∨ k = 2 ∨ k = 3 ∨ k = 4 ∨ k = 5 ∨ k = 6 ∨ k = 7 ∨ k = 8 ∨ k = 9 ∨ k = 10 ∨ k = 11 ∨ k = 12 ∨ k = 13 ∨ k = 14 ∨ k = 15 ∨ k = 16 := by omega
  rcases hk with rfl | rfl | rfl | rfl | rfl | rfl | rfl | rfl | rfl | rfl | rfl | rfl | rfl | rfl | rfl | rfl
  · exact one (o := []) ⟨by rw [show nameB 1 = ⟨#[104, 101, 108, 108, 111]⟩ from rfl, n1]; simp [Owed]⟩ w
  · exact one (o := []) ⟨by rw [show nameB 2 = ⟨#[119, 101, 108, 99, 111, 109, 101]⟩ from rfl, n2]; simp [Owed]⟩ w
  · exact one (o := []) ⟨by rw [show nameB 3 = ⟨#[108, 105, 115, 116]⟩ from rfl, n3]; simp [Owed]⟩ w
  · exact one (o := []) ⟨by rw [show nameB 4 = ⟨#[114, 111, 119, 115]⟩ from rfl, n4]; simp [Owed]⟩ w
  · exact one (o := []) ⟨by rw [show nameB 5 = ⟨#[102, 101, 116, 99, 104]⟩ from rfl, n5]; simp [Owed]⟩ w
  · exact one (o := []) ⟨by rw [show nameB 6 = ⟨#[99, 104, 117, 110, 107]⟩ from rfl, n6]; simp [Owed]⟩ w
  · exact one (o := []) ⟨by rw [show nameB 7 = ⟨#[97, 100, 111, 112, 116]⟩ from rfl, n7]; simp [Owed]⟩ w
  · exact one (o := []) ⟨by rw [show nameB 8 = ⟨#[115, 117, 114, 118, 101, 121]⟩ from rfl, n8]; simp [Owed]⟩ w
  · exact one (o := []) ⟨by rw [show nameB 9 = ⟨#[103, 101, 116]⟩ from rfl, n9]; simp [Owed]⟩ w
  · exact one (o := []) ⟨by rw [show nameB 10 = ⟨#[111, 102, 102, 101, 114]⟩ from rfl, n10]; simp [Owed]⟩ w
  · exact one (o := []) ⟨by rw [show nameB 11 = ⟨#[100, 97, 116, 97]⟩ from rfl, n11]; simp [Owed]⟩ w
  · exact one (o := []) ⟨by rw [show nameB 12 = ⟨#[100, 111, 110, 101]⟩ from rfl, n12]; simp [Owed]⟩ w
  · exact one (o := []) ⟨by rw [show nameB 13 = ⟨#[115, 101, 116, 116, 108, 101]⟩ from rfl, n13]; simp [Owed]⟩ w
  · exact one (o := []) ⟨by rw [show nameB 14 = ⟨#[98, 121, 101]⟩ from rfl, n14]; simp [Owed]⟩ w
  · exact one (o := []) ⟨by rw [show nameB 15 = ⟨#[111, 107]⟩ from rfl, n15]; simp [Owed]⟩ w
  · exact one (o := []) ⟨by rw [show nameB 16 = ⟨#[102, 97, 105, 108]⟩ from rfl, n16]; simp [Owed]⟩ w
theorem name_ok : PureOK Tryz.prog (fun _ => True) (27, fun args => match args with | [.int .i64 k] => some (.string (nameB k), True) | _ => none) := by
  refine ⟨⟨_, Tryz.func27, by kernel_rfl, by kernel_rfl⟩, fun args v p h hp w hX => ?_⟩
  dsimp only at h
  split at h
  · cases h
    exact (name_any _ w).mono fun e w' ⟨h1, u, h2, h3⟩ => ⟨h1, by rw [h2, h3]⟩
  · cases h
end nameOf
end Go.Proofs.YtlmpfjdmaidijaaGreatDoor
