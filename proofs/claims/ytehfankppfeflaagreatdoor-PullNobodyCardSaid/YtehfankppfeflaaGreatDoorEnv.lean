/- The symbolic executor over this seat's program: the functions without a body, the facts. By an AI agent. -/
import Derived.Test.YtehfankppfeflaaGreatDoorChecked
import Derived.Test.YtehfankppfeflaaGreatDoorRyM
namespace Go.Proofs.YtehfankppfeflaaGreatDoor
open Go Go.Rx Go.RowKit
set_option maxRecDepth 100000
/-- The functions without a body that the runs come to. -/
noncomputable def extL : List (FuncId × ExtK) := [(35, .typeOf), (81, .valueOf), (82, .valType), (83, .valIsNil), (123, .valElem), (124, .valSet), (141, .mapsClone), (229, .pure Extern.BytealgIndexByte.indexByte), (283, .pure (Extern.ReflectliteType.abiMethod fun t => do pure (.int .u8 (← Extern.Rtype.kind t)))), (290, .pure (Extern.ReflectliteType.relation "AssignableTo" Extern.ReflectliteType.assignableTo)), (291, .pure (Extern.ReflectliteType.method fun t => do Extern.Rtype.noPackHeld "Comparable" t; pure (.bool (← typeInfo t).comparable))), (292, .pure (Extern.ReflectliteType.method Extern.ReflectliteType.elem)), (293, .pure (Extern.ReflectliteType.relation "Implements" Extern.ReflectliteType.implements_))]
theorem extRows : ∀ r ∈ extL, ExtRow Tryz.prog r := by
  intro r hr
  simp only [extL, List.mem_cons, List.not_mem_nil, or_false] at hr
  rcases hr with rfl | rfl | rfl | rfl | rfl | rfl | rfl | rfl | rfl | rfl | rfl | rfl | rfl
  · exact ⟨Tryz.f35, _, Tryz.func35, by kernel_rfl, by kernel_rfl, by kernel_rfl, rfl, by kernel_rfl⟩
  · exact ⟨Tryz.f81, _, Tryz.func81, by kernel_rfl, by kernel_rfl, by kernel_rfl, rfl, by kernel_rfl⟩
  · exact ⟨Tryz.f82, _, Tryz.func82, by kernel_rfl, by kernel_rfl, by kernel_rfl, rfl, by kernel_rfl⟩
  · exact ⟨Tryz.f83, _, Tryz.func83, by kernel_rfl, by kernel_rfl, by kernel_rfl, rfl, by kernel_rfl⟩
  · exact ⟨Tryz.f123, _, Tryz.func123, by kernel_rfl, by kernel_rfl, by kernel_rfl, rfl, by kernel_rfl⟩
  · exact ⟨Tryz.f124, _, Tryz.func124, by kernel_rfl, by kernel_rfl, by kernel_rfl, rfl, by kernel_rfl⟩
  · exact ⟨Tryz.f141, _, Tryz.func141, by kernel_rfl, by kernel_rfl, by kernel_rfl, rfl, by kernel_rfl⟩
  · exact ⟨Tryz.f229, _, Tryz.func229, by kernel_rfl, by kernel_rfl, by kernel_rfl, rfl, by kernel_rfl⟩
  · exact ⟨Tryz.f283, _, Tryz.func283, by kernel_rfl, by kernel_rfl, by kernel_rfl, rfl, by kernel_rfl⟩
  · exact ⟨Tryz.f290, _, Tryz.func290, by kernel_rfl, by kernel_rfl, by kernel_rfl, rfl, by kernel_rfl⟩
  · exact ⟨Tryz.f291, _, Tryz.func291, by kernel_rfl, by kernel_rfl, by kernel_rfl, rfl, by kernel_rfl⟩
  · exact ⟨Tryz.f292, _, Tryz.func292, by kernel_rfl, by kernel_rfl, by kernel_rfl, rfl, by kernel_rfl⟩
  · exact ⟨Tryz.f293, _, Tryz.func293, by kernel_rfl, by kernel_rfl, by kernel_rfl, rfl, by kernel_rfl⟩
/-- An oracle: the choices in their order. -/
def orcL (l : List (Nat × Bool)) : Nat → Option Bool := fun n => l.lookup n
noncomputable def E (l : List (Nat × Bool)) (G : List (Nat × Nat)) : Env := { P := Tryz.prog, ext := fun f => extL.lookup f, G, orc := orcL l, sums := fun _ => none, qs := fun _ => none }
theorem facts {M : Own} {w0 : World} (l : List (Nat × Bool)) (G : List (Nat × Nat)) : Facts (E l G) M w0 :=
  Facts.of (Checked.mixed Tryz.checked) (by kernel_rfl) (ExtOK.of extL rfl extRows) rfl (fun f g h => by cases h)
noncomputable def EQ (LF : FuncId) (l : List (Nat × Bool)) (G : List (Nat × Nat)) : Env := { P := Tryz.prog, ext := fun f => extL.lookup f, G, orc := orcL l, sums := fun _ => none, qs := qTrue LF }
theorem factsQ {M : Own} {w0 : World} (LF : FuncId) (l : List (Nat × Bool)) (G : List (Nat × Nat)) (h : QOK (EQ LF l G) M w0) : Facts (EQ LF l G) M w0 :=
  Facts.of (Checked.mixed Tryz.checked) (by kernel_rfl) (ExtOK.of extL rfl extRows) rfl h
/-- With contracts of functions that only reckon. -/
noncomputable def EP (sl : List (FuncId × PS)) (G : List (Nat × Nat)) : Env := { P := Tryz.prog, ext := fun f => extL.lookup f, G, orc := fun _ => none, sums := sumsOf sl, qs := fun _ => none }
theorem factsP {M : Own} {w0 : World} {sl : List (FuncId × PS)} {G : List (Nat × Nat)} {X : World → Prop} (h : ∀ r ∈ sl, PureOK Tryz.prog X r) (hX : ∀ ν s w, HR ν M w0 s w → GR ν (EP sl G) → X w) : Facts (EP sl G) M w0 :=
  Facts.of' (Checked.mixed Tryz.checked) (by kernel_rfl) (ExtOK.of extL rfl extRows) (SumsOK.of rfl h hX) (fun f g h => by cases h)
theorem factsP0 {M : Own} {w0 : World} {sl : List (FuncId × PS)} (h : ∀ r ∈ sl, PureOK Tryz.prog (fun _ => True) r) : Facts (EP sl []) M w0 := factsP h fun _ _ _ _ _ => trivial
theorem own : ownKnob Tryz.prog.godebug = none := by kernel_rfl
theorem laidOut : laidOutB Tryz.prog = true := by kernel_rfl
/-- A package variable's numbers. -/
def tab_math_bits_deBruijn32tab : List Int := [0, 1, 28, 2, 29, 14, 24, 3, 30, 22, 20, 15, 25, 17, 4, 8, 31, 27, 13, 23, 21, 19, 16, 7, 26, 12, 18, 6, 11, 5, 10, 9]
/-- A package variable's numbers. -/
def tab_math_bits_deBruijn64tab : List Int := [0, 1, 56, 2, 57, 49, 28, 3, 61, 58, 42, 50, 38, 29, 17, 4, 62, 47, 59, 36, 45, 43, 51, 22, 53, 39, 33, 30, 24, 18, 12, 5, 63, 55, 48, 27, 60, 41, 37, 16, 46, 35, 44, 21, 52, 32, 23, 11, 54, 26, 40, 15, 34, 20, 31, 10, 25, 14, 19, 9, 13, 8, 7, 6]
/-- A package variable's numbers. -/
def tab_internal_strconv_uint64pow10 : List Int := [1, 10, 100, 1000, 10000, 100000, 1000000, 10000000, 100000000, 1000000000, 10000000000, 100000000000, 1000000000000, 10000000000000, 100000000000000, 1000000000000000, 10000000000000000, 100000000000000000, 1000000000000000000, 10000000000000000000]
/-- A package variable's numbers. -/
def tab_tender_check_nibble : List Int := [0, 274646895, 549293790, 820201905, 1098587580, 1361435347, 1640403810, 1905808397, 2197175160, 2460548119, 2722870694, 2987750089, 3280807620, 3553878443, 3811616794, 4084100981]
end Go.Proofs.YtehfankppfeflaaGreatDoor
