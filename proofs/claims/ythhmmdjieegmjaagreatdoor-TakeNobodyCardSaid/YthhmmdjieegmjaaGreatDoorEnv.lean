/- The symbolic executor over this seat's program: the functions without a body, the facts. By an AI agent. -/
import Derived.Test.YthhmmdjieegmjaaGreatDoorChecked
import Derived.Test.YthhmmdjieegmjaaGreatDoorRyG
namespace Go.Proofs.YthhmmdjieegmjaaGreatDoor
open Go Go.Rx Go.RowKit
set_option maxRecDepth 100000
/-- The functions without a body that the runs come to. -/
noncomputable def extL : List (FuncId × ExtK) := [(117, .typeOf), (124, .valueOf), (125, .valType), (126, .valIsNil), (180, .valElem), (181, .valSet), (202, .mapsClone), (260, .pure Extern.BytealgIndexByte.indexByte), (317, .pure (Extern.ReflectliteType.abiMethod fun t => do pure (.int .u8 (← Extern.Rtype.kind t)))), (330, .pure (Extern.ReflectliteType.relation "AssignableTo" Extern.ReflectliteType.assignableTo)), (331, .pure (Extern.ReflectliteType.method fun t => do Extern.Rtype.noPackHeld "Comparable" t; pure (.bool (← typeInfo t).comparable))), (332, .pure (Extern.ReflectliteType.method Extern.ReflectliteType.elem)), (333, .pure (Extern.ReflectliteType.relation "Implements" Extern.ReflectliteType.implements_))]
theorem extRows : ∀ r ∈ extL, ExtRow Tryz.prog r := by
  intro r hr
  simp only [extL, List.mem_cons, List.not_mem_nil, or_false] at hr
  rcases hr with rfl | rfl | rfl | rfl | rfl | rfl | rfl | rfl | rfl | rfl | rfl | rfl | rfl
  · exact ⟨Tryz.f117, _, Tryz.func117, by kernel_rfl, by kernel_rfl, by kernel_rfl, rfl, by kernel_rfl⟩
  · exact ⟨Tryz.f124, _, Tryz.func124, by kernel_rfl, by kernel_rfl, by kernel_rfl, rfl, by kernel_rfl⟩
  · exact ⟨Tryz.f125, _, Tryz.func125, by kernel_rfl, by kernel_rfl, by kernel_rfl, rfl, by kernel_rfl⟩
  · exact ⟨Tryz.f126, _, Tryz.func126, by kernel_rfl, by kernel_rfl, by kernel_rfl, rfl, by kernel_rfl⟩
  · exact ⟨Tryz.f180, _, Tryz.func180, by kernel_rfl, by kernel_rfl, by kernel_rfl, rfl, by kernel_rfl⟩
  · exact ⟨Tryz.f181, _, Tryz.func181, by kernel_rfl, by kernel_rfl, by kernel_rfl, rfl, by kernel_rfl⟩
  · exact ⟨Tryz.f202, _, Tryz.func202, by kernel_rfl, by kernel_rfl, by kernel_rfl, rfl, by kernel_rfl⟩
  · exact ⟨Tryz.f260, _, Tryz.func260, by kernel_rfl, by kernel_rfl, by kernel_rfl, rfl, by kernel_rfl⟩
  · exact ⟨Tryz.f317, _, Tryz.func317, by kernel_rfl, by kernel_rfl, by kernel_rfl, rfl, by kernel_rfl⟩
  · exact ⟨Tryz.f330, _, Tryz.func330, by kernel_rfl, by kernel_rfl, by kernel_rfl, rfl, by kernel_rfl⟩
  · exact ⟨Tryz.f331, _, Tryz.func331, by kernel_rfl, by kernel_rfl, by kernel_rfl, rfl, by kernel_rfl⟩
  · exact ⟨Tryz.f332, _, Tryz.func332, by kernel_rfl, by kernel_rfl, by kernel_rfl, rfl, by kernel_rfl⟩
  · exact ⟨Tryz.f333, _, Tryz.func333, by kernel_rfl, by kernel_rfl, by kernel_rfl, rfl, by kernel_rfl⟩
/-- An oracle: the choices in their order. -/
def orcL (l : List (Nat × Bool)) : Nat → Option Bool := fun n => l.lookup n
noncomputable def E (l : List (Nat × Bool)) (G : List (Nat × Nat)) : Env := { P := Tryz.prog, ext := fun f => extL.lookup f, G, orc := orcL l, sums := fun _ => none, qs := fun _ => none }
theorem facts {M : Own} {w0 : World} (l : List (Nat × Bool)) (G : List (Nat × Nat)) : Facts (E l G) M w0 :=
  Facts.of (Checked.mixed Tryz.checked) (by kernel_rfl) (ExtOK.of extL rfl extRows) rfl (fun f g h => by cases h)
theorem own : ownKnob Tryz.prog.godebug = none := by kernel_rfl
theorem laidOut : laidOutB Tryz.prog = true := by kernel_rfl
end Go.Proofs.YthhmmdjieegmjaaGreatDoor
