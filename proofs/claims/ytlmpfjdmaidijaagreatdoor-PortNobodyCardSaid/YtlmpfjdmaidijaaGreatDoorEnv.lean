/- The symbolic executor over this seat's program: the functions without a body, the facts. By an AI agent. -/
import Derived.Test.YtlmpfjdmaidijaaGreatDoorChecked
import Derived.Test.YtlmpfjdmaidijaaGreatDoorRyM
namespace Go.Proofs.YtlmpfjdmaidijaaGreatDoor
open Go Go.Rx Go.RowKit
set_option maxRecDepth 100000
/-- The functions without a body that the runs come to. -/
noncomputable def extL : List (FuncId × ExtK) := [(65, .typeOf), (133, .mapsClone), (193, .valueOf), (194, .valType), (195, .valIsNil), (267, .valElem), (268, .valSet), (364, .pure Extern.BytealgIndexByte.indexByte), (430, .pure (Extern.ReflectliteType.abiMethod fun t => do pure (.int .u8 (← Extern.Rtype.kind t)))), (437, .pure (Extern.ReflectliteType.relation "AssignableTo" Extern.ReflectliteType.assignableTo)), (438, .pure (Extern.ReflectliteType.method fun t => do Extern.Rtype.noPackHeld "Comparable" t; pure (.bool (← typeInfo t).comparable))), (439, .pure (Extern.ReflectliteType.method Extern.ReflectliteType.elem)), (440, .pure (Extern.ReflectliteType.relation "Implements" Extern.ReflectliteType.implements_))]
theorem extRows : ∀ r ∈ extL, ExtRow Tryz.prog r := by
  intro r hr
  simp only [extL, List.mem_cons, List.not_mem_nil, or_false] at hr
  rcases hr with rfl | rfl | rfl | rfl | rfl | rfl | rfl | rfl | rfl | rfl | rfl | rfl | rfl
  · exact ⟨Tryz.f65, _, Tryz.func65, by kernel_rfl, by kernel_rfl, by kernel_rfl, rfl, by kernel_rfl⟩
  · exact ⟨Tryz.f133, _, Tryz.func133, by kernel_rfl, by kernel_rfl, by kernel_rfl, rfl, by kernel_rfl⟩
  · exact ⟨Tryz.f193, _, Tryz.func193, by kernel_rfl, by kernel_rfl, by kernel_rfl, rfl, by kernel_rfl⟩
  · exact ⟨Tryz.f194, _, Tryz.func194, by kernel_rfl, by kernel_rfl, by kernel_rfl, rfl, by kernel_rfl⟩
  · exact ⟨Tryz.f195, _, Tryz.func195, by kernel_rfl, by kernel_rfl, by kernel_rfl, rfl, by kernel_rfl⟩
  · exact ⟨Tryz.f267, _, Tryz.func267, by kernel_rfl, by kernel_rfl, by kernel_rfl, rfl, by kernel_rfl⟩
  · exact ⟨Tryz.f268, _, Tryz.func268, by kernel_rfl, by kernel_rfl, by kernel_rfl, rfl, by kernel_rfl⟩
  · exact ⟨Tryz.f364, _, Tryz.func364, by kernel_rfl, by kernel_rfl, by kernel_rfl, rfl, by kernel_rfl⟩
  · exact ⟨Tryz.f430, _, Tryz.func430, by kernel_rfl, by kernel_rfl, by kernel_rfl, rfl, by kernel_rfl⟩
  · exact ⟨Tryz.f437, _, Tryz.func437, by kernel_rfl, by kernel_rfl, by kernel_rfl, rfl, by kernel_rfl⟩
  · exact ⟨Tryz.f438, _, Tryz.func438, by kernel_rfl, by kernel_rfl, by kernel_rfl, rfl, by kernel_rfl⟩
  · exact ⟨Tryz.f439, _, Tryz.func439, by kernel_rfl, by kernel_rfl, by kernel_rfl, rfl, by kernel_rfl⟩
  · exact ⟨Tryz.f440, _, Tryz.func440, by kernel_rfl, by kernel_rfl, by kernel_rfl, rfl, by kernel_rfl⟩
/-- An oracle: the choices in their order. -/
def orcL (l : List (Nat × Bool)) : Nat → Option Bool := fun n => l.lookup n
noncomputable def E (l : List (Nat × Bool)) (G : List (Nat × Nat)) : Env := { P := Tryz.prog, ext := fun f => extL.lookup f, G, orc := orcL l, sums := fun _ => none, qs := fun _ => none }
theorem facts {M : Own} {w0 : World} (l : List (Nat × Bool)) (G : List (Nat × Nat)) : Facts (E l G) M w0 :=
  Facts.of (Checked.mixed Tryz.checked) (by kernel_rfl) (ExtOK.of extL rfl extRows) rfl (fun f g h => by cases h)
noncomputable def EQ (LF : FuncId) (l : List (Nat × Bool)) (G : List (Nat × Nat)) : Env := { P := Tryz.prog, ext := fun f => extL.lookup f, G, orc := orcL l, sums := fun _ => none, qs := qTrue LF }
theorem factsQ {M : Own} {w0 : World} (LF : FuncId) (l : List (Nat × Bool)) (G : List (Nat × Nat)) (h : QOK (EQ LF l G) M w0) : Facts (EQ LF l G) M w0 :=
  Facts.of (Checked.mixed Tryz.checked) (by kernel_rfl) (ExtOK.of extL rfl extRows) rfl h
/-- With contracts of functions that only reckon. -/
noncomputable def EP (sl : List (FuncId × PS)) (G : List (Nat × Nat)) : Env := { P := Tryz.prog, ext := fun f => extL.lookup f, G, orc := fun _ => none, sums := sumsOf sl, qs := fun _ => none }
theorem factsP {M : Own} {w0 : World} {sl : List (FuncId × PS)} {G : List (Nat × Nat)} {X : World → Prop} (h : ∀ r ∈ sl, PureOK Tryz.prog X r) (hX : ∀ ν s w, HR ν M w0 s w → GR ν (EP sl G) → X w) : Facts (EP sl G) M w0 :=
  Facts.of' (Checked.mixed Tryz.checked) (by kernel_rfl) (ExtOK.of extL rfl extRows) (SumsOK.of rfl h hX) (fun f g h => by cases h)
theorem factsP0 {M : Own} {w0 : World} {sl : List (FuncId × PS)} (h : ∀ r ∈ sl, PureOK Tryz.prog (fun _ => True) r) : Facts (EP sl []) M w0 := factsP h fun _ _ _ _ _ => trivial
theorem own : ownKnob Tryz.prog.godebug = none := by kernel_rfl
theorem laidOut : laidOutB Tryz.prog = true := by kernel_rfl
/-- A package variable's numbers. -/
def tab_math_bits_deBruijn32tab : List Int := [0, 1, 28, 2, 29, 14, 24, 3, 30, 22, 20, 15, 25, 17, 4, 8, 31, 27, 13, 23, 21, 19, 16, 7, 26, 12, 18, 6, 11, 5, 10, 9]
/-- A package variable's numbers. -/
def tab_math_bits_deBruijn64tab : List Int := [0, 1, 56, 2, 57, 49, 28, 3, 61, 58, 42, 50, 38, 29, 17, 4, 62, 47, 59, 36, 45, 43, 51, 22, 53, 39, 33, 30, 24, 18, 12, 5, 63, 55, 48, 27, 60, 41, 37, 16, 46, 35, 44, 21, 52, 32, 23, 11, 54, 26, 40, 15, 34, 20, 31, 10, 25, 14, 19, 9, 13, 8, 7, 6]
/-- A package variable's numbers. -/
def tab_internal_strconv_uint64pow10 : List Int := [1, 10, 100, 1000, 10000, 100000, 1000000, 10000000, 100000000, 1000000000, 10000000000, 100000000000, 1000000000000, 10000000000000, 100000000000000, 1000000000000000, 10000000000000000, 100000000000000000, 1000000000000000000, 10000000000000000000]
/-- A package variable's numbers. -/
def tab_tender_sha_first : List Int := [1779033703, 3144134277, 1013904242, 2773480762, 1359893119, 2600822924, 528734635, 1541459225]
/-- A package variable's numbers. -/
def tab_tender_sha_roots : List Int := [1116352408, 1899447441, 3049323471, 3921009573, 961987163, 1508970993, 2453635748, 2870763221, 3624381080, 310598401, 607225278, 1426881987, 1925078388, 2162078206, 2614888103, 3248222580, 3835390401, 4022224774, 264347078, 604807628, 770255983, 1249150122, 1555081692, 1996064986, 2554220882, 2821834349, 2952996808, 3210313671, 3336571891, 3584528711, 113926993, 338241895, 666307205, 773529912, 1294757372, 1396182291, 1695183700, 1986661051, 2177026350, 2456956037, 2730485921, 2820302411, 3259730800, 3345764771, 3516065817, 3600352804, 4094571909, 275423344, 430227734, 506948616, 659060556, 883997877, 958139571, 1322822218, 1537002063, 1747873779, 1955562222, 2024104815, 2227730452, 2361852424, 2428436474, 2756734187, 3204031479, 3329325298]
/-- A package variable's numbers. -/
def tab_tender_check_nibble : List Int := [0, 274646895, 549293790, 820201905, 1098587580, 1361435347, 1640403810, 1905808397, 2197175160, 2460548119, 2722870694, 2987750089, 3280807620, 3553878443, 3811616794, 4084100981]
end Go.Proofs.YtlmpfjdmaidijaaGreatDoor
