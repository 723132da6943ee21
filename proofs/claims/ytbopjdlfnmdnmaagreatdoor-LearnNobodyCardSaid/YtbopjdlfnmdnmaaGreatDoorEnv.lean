/- The symbolic executor over this seat's program: the functions without a body, the facts. By an AI agent. -/
import Derived.Test.YtbopjdlfnmdnmaaGreatDoorChecked
import Derived.Test.YtbopjdlfnmdnmaaGreatDoorRyL
namespace Go.Proofs.YtbopjdlfnmdnmaaGreatDoor
open Go Go.Rx Go.RowKit
set_option maxRecDepth 100000
/-- The functions without a body that the runs come to. -/
noncomputable def extL : List (FuncId × ExtK) := [(115, .typeOf), (143, .valueOf), (144, .valType), (145, .valIsNil), (196, .valElem), (197, .valSet), (214, .mapsClone), (250, .pure Extern.BytealgIndexByte.indexByte), (291, .pure (Extern.ReflectliteType.abiMethod fun t => do pure (.int .u8 (← Extern.Rtype.kind t)))), (301, .pure (Extern.ReflectliteType.relation "AssignableTo" Extern.ReflectliteType.assignableTo)), (302, .pure (Extern.ReflectliteType.method fun t => do Extern.Rtype.noPackHeld "Comparable" t; pure (.bool (← typeInfo t).comparable))), (303, .pure (Extern.ReflectliteType.method Extern.ReflectliteType.elem)), (304, .pure (Extern.ReflectliteType.relation "Implements" Extern.ReflectliteType.implements_))]
theorem extRows : ∀ r ∈ extL, ExtRow Tryz.prog r := by
  intro r hr
  simp only [extL, List.mem_cons, List.not_mem_nil, or_false] at hr
  rcases hr with rfl | rfl | rfl | rfl | rfl | rfl | rfl | rfl | rfl | rfl | rfl | rfl | rfl
  · exact ⟨Tryz.f115, _, Tryz.func115, by kernel_rfl, by kernel_rfl, by kernel_rfl, rfl, by kernel_rfl⟩
  · exact ⟨Tryz.f143, _, Tryz.func143, by kernel_rfl, by kernel_rfl, by kernel_rfl, rfl, by kernel_rfl⟩
  · exact ⟨Tryz.f144, _, Tryz.func144, by kernel_rfl, by kernel_rfl, by kernel_rfl, rfl, by kernel_rfl⟩
  · exact ⟨Tryz.f145, _, Tryz.func145, by kernel_rfl, by kernel_rfl, by kernel_rfl, rfl, by kernel_rfl⟩
  · exact ⟨Tryz.f196, _, Tryz.func196, by kernel_rfl, by kernel_rfl, by kernel_rfl, rfl, by kernel_rfl⟩
  · exact ⟨Tryz.f197, _, Tryz.func197, by kernel_rfl, by kernel_rfl, by kernel_rfl, rfl, by kernel_rfl⟩
  · exact ⟨Tryz.f214, _, Tryz.func214, by kernel_rfl, by kernel_rfl, by kernel_rfl, rfl, by kernel_rfl⟩
  · exact ⟨Tryz.f250, _, Tryz.func250, by kernel_rfl, by kernel_rfl, by kernel_rfl, rfl, by kernel_rfl⟩
  · exact ⟨Tryz.f291, _, Tryz.func291, by kernel_rfl, by kernel_rfl, by kernel_rfl, rfl, by kernel_rfl⟩
  · exact ⟨Tryz.f301, _, Tryz.func301, by kernel_rfl, by kernel_rfl, by kernel_rfl, rfl, by kernel_rfl⟩
  · exact ⟨Tryz.f302, _, Tryz.func302, by kernel_rfl, by kernel_rfl, by kernel_rfl, rfl, by kernel_rfl⟩
  · exact ⟨Tryz.f303, _, Tryz.func303, by kernel_rfl, by kernel_rfl, by kernel_rfl, rfl, by kernel_rfl⟩
  · exact ⟨Tryz.f304, _, Tryz.func304, by kernel_rfl, by kernel_rfl, by kernel_rfl, rfl, by kernel_rfl⟩
/-- An oracle: the choices in their order. -/
def orcL (l : List (Nat × Bool)) : Nat → Option Bool := fun n => l.lookup n
noncomputable def E (l : List (Nat × Bool)) (G : List (Nat × Nat)) : Env := { P := Tryz.prog, ext := fun f => extL.lookup f, G, orc := orcL l, sums := fun _ => none, qs := fun _ => none }
theorem facts {M : Own} {w0 : World} (l : List (Nat × Bool)) (G : List (Nat × Nat)) : Facts (E l G) M w0 :=
  Facts.of (Checked.mixed Tryz.checked) (by kernel_rfl) (ExtOK.of extL rfl extRows) rfl (fun f g h => by cases h)
noncomputable def EQ (LF : FuncId) (l : List (Nat × Bool)) (G : List (Nat × Nat)) : Env := { P := Tryz.prog, ext := fun f => extL.lookup f, G, orc := orcL l, sums := fun _ => none, qs := qTrue LF }
theorem factsQ {M : Own} {w0 : World} (LF : FuncId) (l : List (Nat × Bool)) (G : List (Nat × Nat)) (h : QOK (EQ LF l G) M w0) : Facts (EQ LF l G) M w0 :=
  Facts.of (Checked.mixed Tryz.checked) (by kernel_rfl) (ExtOK.of extL rfl extRows) rfl h
/-- With contracts of functions that only reckon. -/
noncomputable def EP (sl : List (FuncId × PS)) (G : List (Nat × Nat)) : Env := { P := Tryz.prog, ext := fun f => extL.lookup f, G, orc := fun _ => none, sums := sumsOf sl, qs := fun _ => none }
theorem factsP {M : Own} {w0 : World} {sl : List (FuncId × PS)} {G : List (Nat × Nat)} {X : World → Prop} (h : ∀ r ∈ sl, PureOK Tryz.prog X r) (hX : ∀ ν s w, HR ν M w0 s w → GR ν (EP sl G) → X w) : Facts (EP sl G) M w0 :=
  Facts.of' (Checked.mixed Tryz.checked) (by kernel_rfl) (ExtOK.of extL rfl extRows) (SumsOK.of rfl h hX) (fun f g h => by cases h)
theorem factsP0 {M : Own} {w0 : World} {sl : List (FuncId × PS)} (h : ∀ r ∈ sl, PureOK Tryz.prog (fun _ => True) r) : Facts (EP sl []) M w0 := factsP h fun _ _ _ _ _ => trivial
theorem own : ownKnob Tryz.prog.godebug = none := by kernel_rfl
theorem laidOut : laidOutB Tryz.prog = true := by kernel_rfl
end Go.Proofs.YtbopjdlfnmdnmaaGreatDoor
