/- The symbolic executor over this seat's program: the functions without a body, the facts. By an AI agent. -/
import Derived.Test.YthmjinnbnmdfhaaGreatDoorChecked
import Derived.Test.YthmjinnbnmdfhaaGreatDoorRyM
namespace Go.Proofs.YthmjinnbnmdfhaaGreatDoor
open Go Go.Rx Go.RowKit
set_option maxRecDepth 100000
/-- The functions without a body that the runs come to. -/
noncomputable def extL : List (FuncId × ExtK) := [(43, .typeOf), (112, .mapsClone), (115, .valueOf), (116, .valType), (117, .valIsNil), (160, .valElem), (161, .valSet), (258, .pure Extern.BytealgIndexByte.indexByte), (289, .pure (Extern.ReflectliteType.abiMethod fun t => do pure (.int .u8 (← Extern.Rtype.kind t)))), (298, .pure (Extern.ReflectliteType.relation "AssignableTo" Extern.ReflectliteType.assignableTo)), (299, .pure (Extern.ReflectliteType.method fun t => do Extern.Rtype.noPackHeld "Comparable" t; pure (.bool (← typeInfo t).comparable))), (300, .pure (Extern.ReflectliteType.method Extern.ReflectliteType.elem)), (301, .pure (Extern.ReflectliteType.relation "Implements" Extern.ReflectliteType.implements_))]
theorem extRows : ∀ r ∈ extL, ExtRow Tryz.prog r := by
  intro r hr
  simp only [extL, List.mem_cons, List.not_mem_nil, or_false] at hr
  rcases hr with rfl | rfl | rfl | rfl | rfl | rfl | rfl | rfl | rfl | rfl | rfl | rfl | rfl
  · exact ⟨Tryz.f43, _, Tryz.func43, by kernel_rfl, by kernel_rfl, by kernel_rfl, rfl, by kernel_rfl⟩
  · exact ⟨Tryz.f112, _, Tryz.func112, by kernel_rfl, by kernel_rfl, by kernel_rfl, rfl, by kernel_rfl⟩
  · exact ⟨Tryz.f115, _, Tryz.func115, by kernel_rfl, by kernel_rfl, by kernel_rfl, rfl, by kernel_rfl⟩
  · exact ⟨Tryz.f116, _, Tryz.func116, by kernel_rfl, by kernel_rfl, by kernel_rfl, rfl, by kernel_rfl⟩
  · exact ⟨Tryz.f117, _, Tryz.func117, by kernel_rfl, by kernel_rfl, by kernel_rfl, rfl, by kernel_rfl⟩
  · exact ⟨Tryz.f160, _, Tryz.func160, by kernel_rfl, by kernel_rfl, by kernel_rfl, rfl, by kernel_rfl⟩
  · exact ⟨Tryz.f161, _, Tryz.func161, by kernel_rfl, by kernel_rfl, by kernel_rfl, rfl, by kernel_rfl⟩
  · exact ⟨Tryz.f258, _, Tryz.func258, by kernel_rfl, by kernel_rfl, by kernel_rfl, rfl, by kernel_rfl⟩
  · exact ⟨Tryz.f289, _, Tryz.func289, by kernel_rfl, by kernel_rfl, by kernel_rfl, rfl, by kernel_rfl⟩
  · exact ⟨Tryz.f298, _, Tryz.func298, by kernel_rfl, by kernel_rfl, by kernel_rfl, rfl, by kernel_rfl⟩
  · exact ⟨Tryz.f299, _, Tryz.func299, by kernel_rfl, by kernel_rfl, by kernel_rfl, rfl, by kernel_rfl⟩
  · exact ⟨Tryz.f300, _, Tryz.func300, by kernel_rfl, by kernel_rfl, by kernel_rfl, rfl, by kernel_rfl⟩
  · exact ⟨Tryz.f301, _, Tryz.func301, by kernel_rfl, by kernel_rfl, by kernel_rfl, rfl, by kernel_rfl⟩
/-- An oracle: the choices in their order. -/
def orcL (l : List (Nat × Bool)) : Nat → Option Bool := fun n => l.lookup n
noncomputable def E (l : List (Nat × Bool)) (G : List (Nat × Nat)) : Env := { P := Tryz.prog, ext := fun f => extL.lookup f, G, orc := orcL l, sums := fun _ => none, qs := fun _ => none }
theorem facts {M : Own} {w0 : World} (l : List (Nat × Bool)) (G : List (Nat × Nat)) : Facts (E l G) M w0 :=
  Facts.of (Checked.mixed Tryz.checked) (by kernel_rfl) (ExtOK.of extL rfl extRows) rfl (fun f g h => by cases h)
noncomputable def EQ (LF : FuncId) (l : List (Nat × Bool)) (G : List (Nat × Nat)) : Env := { P := Tryz.prog, ext := fun f => extL.lookup f, G, orc := orcL l, sums := fun _ => none, qs := qTrue LF }
theorem factsQ {M : Own} {w0 : World} (LF : FuncId) (l : List (Nat × Bool)) (G : List (Nat × Nat)) (h : QOK (EQ LF l G) M w0) : Facts (EQ LF l G) M w0 :=
  Facts.of (Checked.mixed Tryz.checked) (by kernel_rfl) (ExtOK.of extL rfl extRows) rfl h
/-- With contracts of functions that only reckon. -/
noncomputable def EP (sl : List (FuncId × PS)) (G : List (Nat × Nat)) : Env := { P := Tryz.prog, ext := fun f => extL.lookup f, G, orc := fun _ => none, sums := sumsOf sl, qs := fun _ => none }
theorem factsP {M : Own} {w0 : World} {sl : List (FuncId × PS)} {G : List (Nat × Nat)} {X : World → Prop} (h : ∀ r ∈ sl, PureOK Tryz.prog X r) (hX : ∀ ν s w, HR ν M w0 s w → GR ν (EP sl G) → X w) : Facts (EP sl G) M w0 :=
  Facts.of' (Checked.mixed Tryz.checked) (by kernel_rfl) (ExtOK.of extL rfl extRows) (SumsOK.of rfl h hX) (fun f g h => by cases h)
theorem factsP0 {M : Own} {w0 : World} {sl : List (FuncId × PS)} (h : ∀ r ∈ sl, PureOK Tryz.prog (fun _ => True) r) : Facts (EP sl []) M w0 := factsP h fun _ _ _ _ _ => trivial
theorem own : ownKnob Tryz.prog.godebug = none := by kernel_rfl
theorem laidOut : laidOutB Tryz.prog = true := by kernel_rfl
/-- A package variable's numbers. -/
def tab_tender_sha_first : List Int := [1779033703, 3144134277, 1013904242, 2773480762, 1359893119, 2600822924, 528734635, 1541459225]
/-- A package variable's numbers. -/
def tab_tender_sha_roots : List Int := [1116352408, 1899447441, 3049323471, 3921009573, 961987163, 1508970993, 2453635748, 2870763221, 3624381080, 310598401, 607225278, 1426881987, 1925078388, 2162078206, 2614888103, 3248222580, 3835390401, 4022224774, 264347078, 604807628, 770255983, 1249150122, 1555081692, 1996064986, 2554220882, 2821834349, 2952996808, 3210313671, 3336571891, 3584528711, 113926993, 338241895, 666307205, 773529912, 1294757372, 1396182291, 1695183700, 1986661051, 2177026350, 2456956037, 2730485921, 2820302411, 3259730800, 3345764771, 3516065817, 3600352804, 4094571909, 275423344, 430227734, 506948616, 659060556, 883997877, 958139571, 1322822218, 1537002063, 1747873779, 1955562222, 2024104815, 2227730452, 2361852424, 2428436474, 2756734187, 3204031479, 3329325298]
/-- A package variable's numbers. -/
def tab_tender_check_nibble : List Int := [0, 274646895, 549293790, 820201905, 1098587580, 1361435347, 1640403810, 1905808397, 2197175160, 2460548119, 2722870694, 2987750089, 3280807620, 3553878443, 3811616794, 4084100981]
end Go.Proofs.YthmjinnbnmdfhaaGreatDoor
