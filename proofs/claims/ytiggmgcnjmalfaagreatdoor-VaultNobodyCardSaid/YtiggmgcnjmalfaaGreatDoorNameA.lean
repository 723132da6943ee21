/- name's checks of a path: contracts of strings.Cut, strings.IndexByte, name.part. By an AI agent. -/
import Derived.Test.YtiggmgcnjmalfaaGreatDoorEnv
import Derived.IntWalk
import Derived.Shelf.LaysM
import Derived.Shelf.Strings.Cut
import Derived.Shelf.Small.Strs
import Derived.WalkSmall
import Derived.Test.YtiggmgcnjmalfaaGreatDoorRyI
namespace Go.Proofs.YtiggmgcnjmalfaaGreatDoor
open Go Go.Rx Go.RowKit Go.Proofs
set_option linter.unusedVariables false
set_option linter.unusedSimpArgs false
set_option maxRecDepth 100000
namespace paths
/-- The longest needle's number lies where it lay. -/
def MX (w : World) : Prop := ∃ m : Int, w.cell? ⟨2, 0, none⟩ = some (.int .i64 m)
theorem MX.keep {w0 w : World} (h : MX w0) (hk : ∀ k, k < w0.heap.size → w.heap[k]? = w0.heap[k]?) : MX w := let ⟨m, h⟩ := h; ⟨m, cell_keep h hk⟩
def laysCut_ren : Go.Shelf.Ren := ⟨fun | 145 => 133 | 220 => 161 | 219 => 181 | 217 => 182 | 225 => 191 | 224 => 192 | 267 => 193 | 266 => 194 | 314 => 205 | n => n, fun | 9 => 9 | 4 => 4 | 59 => 205 | 3 => 3 | 5 => 5 | 46 => 131 | 146 => 266 | 51 => 129 | n => n, fun | 1 => 2 | n => n⟩
theorem laysCut : Go.Proofs.LaysM.n145 Tryz.prog laysCut_ren where
  mixed := by kernel_rfl
  f145 := Tryz.func133.trans (congrArg some (by kernel_rfl))
  f217 := Tryz.func182.trans (congrArg some (by kernel_rfl))
  f219 := Tryz.func181.trans (congrArg some (by kernel_rfl))
  f220 := Tryz.func161.trans (congrArg some (by kernel_rfl))
  f224 := Tryz.func192.trans (congrArg some (by kernel_rfl))
  f225 := Tryz.func191.trans (congrArg some (by kernel_rfl))
  f266 := Tryz.func194.trans (congrArg some (by kernel_rfl))
  f267 := Tryz.func193.trans (congrArg some (by kernel_rfl))
  f314 := Tryz.func205.trans (congrArg some (by kernel_rfl))
  t3 := Tryz.underlying3
  a3 := Tryz.isAgg3
  z3 := Tryz.sizeOf3
  v3 := Tryz.zeroValue3
  t4 := Tryz.underlying4
  a4 := Tryz.isAgg4
  z4 := Tryz.sizeOf4
  v4 := Tryz.zeroValue4
  t5 := Tryz.underlying5
  a5 := Tryz.isAgg5
  z5 := Tryz.sizeOf5
  v5 := Tryz.zeroValue5
  t9 := Tryz.underlying9
  a9 := Tryz.isAgg9
  z9 := Tryz.sizeOf9
  v9 := Tryz.zeroValue9
  t46 := Tryz.underlying131
  a46 := Tryz.isAgg131
  z46 := Tryz.sizeOf131
  v46 := Tryz.zeroValue131
  t51 := Tryz.underlying129
  a51 := Tryz.isAgg129
  z51 := Tryz.sizeOf129
  v51 := Tryz.zeroValue129
  t59 := Tryz.underlying205
  a59 := Tryz.isAgg205
  z59 := Tryz.sizeOf205
  v59 := Tryz.zeroValue205
  t146 := Tryz.underlying266
  a146 := Tryz.isAgg266
  z146 := Tryz.sizeOf266
  v146 := Tryz.zeroValue266
  g1 := by kernel_rfl
  i3 := by kernel_rfl
  i4 := by kernel_rfl
  i5 := by kernel_rfl
  i9 := by kernel_rfl
  i46 := by kernel_rfl
  i51 := by kernel_rfl
  i59 := by kernel_rfl
  i146 := by kernel_rfl
  m1 := by kernel_rfl
  s1_3 := fun w h => Go.Proofs.cell_of_shapedOpen_int (zero := #[.int .i64 0]) (t := 3) h (of_decide_eq_true (by kernel_rfl)) (by kernel_rfl) rfl (by kernel_rfl) (by kernel_rfl) Tryz.underlying3

def laysIB_ren : Go.Shelf.Ren := ⟨fun | 137 => 164 | 217 => 182 | 266 => 194 | n => n, fun | 9 => 9 | 5 => 5 | 3 => 3 | n => n, fun | n => n⟩
theorem laysIB : Go.Proofs.Lays.n137 Tryz.prog laysIB_ren where
  mixed := by kernel_rfl
  f137 := Tryz.func164.trans (congrArg some (by kernel_rfl))
  f217 := Tryz.func182.trans (congrArg some (by kernel_rfl))
  f266 := Tryz.func194.trans (congrArg some (by kernel_rfl))
  t3 := Tryz.underlying3
  a3 := Tryz.isAgg3
  z3 := Tryz.sizeOf3
  v3 := Tryz.zeroValue3
  t5 := Tryz.underlying5
  a5 := Tryz.isAgg5
  z5 := Tryz.sizeOf5
  v5 := Tryz.zeroValue5
  t9 := Tryz.underlying9
  a9 := Tryz.isAgg9
  z9 := Tryz.sizeOf9
  v9 := Tryz.zeroValue9

/-- A path's first part; what stands behind it; whether there is a stroke. -/
def cA (s : ByteArray) : ByteArray := ⟨(Lib.cut s.data.toList [47]).1.toArray⟩
def cB (s : ByteArray) : ByteArray := ⟨(Lib.cut s.data.toList [47]).2.1.toArray⟩
def cM (s : ByteArray) : Bool := (Lib.cut s.data.toList [47]).2.2
def slash : ByteArray := ⟨#[47]⟩
def cutPS : PS := fun args => match args with | [.string s, .string t] => some (.tuple #[.string (cA s), .string (cB s), .bool (cM s)], s.size ≤ 1000000000 ∧ t = slash) | _ => none
theorem cut_ok : PureOK Tryz.prog MX (133, cutPS) := by
  refine ⟨⟨_, Tryz.func133, by kernel_rfl, by kernel_rfl⟩, fun args v p h hp w hX => ?_⟩
  dsimp only [cutPS] at h
  split at h
  · rename_i s t
    cases h
    obtain ⟨h1, rfl⟩ := hp
    obtain ⟨m, hm⟩ := hX
    refine (Any.strings_Cut { laysCut with } s slash m w (by omega) hm).mono fun e w' ⟨he, n, hw⟩ => ⟨?_, he⟩
    rw [hw]; exact below_drewN (Below.refl _ _) n
  · cases h
theorem cB_size (s : ByteArray) : (cB s).size ≤ s.size := by
  have e : (cB s).size = (Lib.cut s.data.toList [47]).2.1.length := by simp [cB, ByteArray.size]
  have e2 : s.data.toList.length = s.size := by simp
  rw [e]; unfold Lib.cut
  split
  · simp only [List.length_drop]; omega
  · simp
theorem cA_nil : cA ⟨#[]⟩ = ⟨#[]⟩ := by
  have : Lib.cut [] [47] = ([], [], false) := rfl
  show ByteArray.mk (Lib.cut [] [47]).1.toArray = _
  rw [this]
def noZ (s : ByteArray) : Int := Lib.indexByte s.data.toList 0
def ibPS : PS := fun args => match args with | [.string s, .int .u8 c] => some (.int .i64 (noZ s), c = 0) | _ => none
theorem ib_ok : PureOK Tryz.prog (fun _ => True) (164, ibPS) := by
  refine ⟨⟨_, Tryz.func164, by kernel_rfl, by kernel_rfl⟩, fun args v p h hp w hX => ?_⟩
  dsimp only [ibPS] at h
  split at h
  · rename_i s c
    cases h
    subst hp
    refine (Any.strings_IndexByte laysIB s 0 w).mono fun e w' ⟨he, hw⟩ => ⟨?_, he⟩
    rw [hw]; exact Below.refl _ _
  · cases h
noncomputable def EI : Env := EP [(164, ibPS)] []
theorem KI {M : Own} {w0 : World} : Facts EI M w0 := factsP0 fun r h => by rw [List.mem_singleton.1 h]; exact ib_ok
theorem p0 (v : Value) : endsV EI 137 300 (entE EI 137 [.v (.string ⟨#[]⟩)]) [(1000, .b true)] v = [
  Value.bool false = v] := by kernel_rfl
theorem p1 (v : Value) : endsV EI 137 300 (entE EI 137 [.v (.string ⟨#[46]⟩)]) [(1000, .b true)] v = [
  Value.bool false = v] := by kernel_rfl
theorem p2 (v : Value) : endsV EI 137 300 (entE EI 137 [.v (.string ⟨#[46, 46]⟩)]) [(1000, .b true)] v = [
  Value.bool false = v] := by kernel_rfl
theorem p3 (s : ByteArray) (v : Value) : endsV EI 137 300 (entE EI 137 [.v (.string s)]) (ff [0, 1, 2, 3] true ++ ff [4, 5, 6, 7, 8, 9, 10, 11, 12, 13, 14, 15, 16, 17] false) v = [
  Value.bool false = v,
  false = false,
  false = false,
  false = false,
  false = false,
  false = false,
  false = false,
  false = false,
  decide ((↑s.size : Int) ≤ (24 : Int)) = false,
  decide ((↑s.size : Int) ≤ (24 : Int)) = false,
  decide ((↑s.size : Int) ≤ (24 : Int)) = false,
  (!s.toList == { data := { toList := [] : Array UInt8 } : ByteArray }.toList) = true,
  (!s.toList == { data := { toList := [] : Array UInt8 } : ByteArray }.toList) = true,
  (!s.toList == { data := { toList := [] : Array UInt8 } : ByteArray }.toList) = true,
  (!s.toList == { data := { toList := [] : Array UInt8 } : ByteArray }.toList) = true] := by kernel_rfl
theorem p4 (s : ByteArray) (v : Value) : endsV EI 137 300 (entE EI 137 [.v (.string s)]) (ff [0, 1, 2, 3, 4, 5, 6, 7, 8, 9, 10, 11, 13, 14, 15, 16, 17] true) v = [
  Value.bool (decide (noZ s < (0 : Int))) = v,
  (!s.toList == { data := { toList := [(46 : UInt8), (46 : UInt8)] : Array UInt8 } : ByteArray }.toList) = true,
  (!s.toList == { data := { toList := [(46 : UInt8), (46 : UInt8)] : Array UInt8 } : ByteArray }.toList) = true,
  (0 : Int) = (0 : Int),
  (!s.toList == { data := { toList := [(46 : UInt8), (46 : UInt8)] : Array UInt8 } : ByteArray }.toList) = true,
  (!s.toList == { data := { toList := [(46 : UInt8), (46 : UInt8)] : Array UInt8 } : ByteArray }.toList) = true,
  (!s.toList == { data := { toList := [(46 : UInt8)] : Array UInt8 } : ByteArray }.toList) = true,
  (!s.toList == { data := { toList := [(46 : UInt8)] : Array UInt8 } : ByteArray }.toList) = true,
  (!s.toList == { data := { toList := [(46 : UInt8)] : Array UInt8 } : ByteArray }.toList) = true,
  decide ((↑s.size : Int) ≤ (24 : Int)) = true,
  decide ((↑s.size : Int) ≤ (24 : Int)) = true,
  decide ((↑s.size : Int) ≤ (24 : Int)) = true,
  (!s.toList == { data := { toList := [] : Array UInt8 } : ByteArray }.toList) = true,
  (!s.toList == { data := { toList := [] : Array UInt8 } : ByteArray }.toList) = true,
  (!s.toList == { data := { toList := [] : Array UInt8 } : ByteArray }.toList) = true,
  (!s.toList == { data := { toList := [] : Array UInt8 } : ByteArray }.toList) = true] := by kernel_rfl
/-- Is a text a part? -/
def partB (s : ByteArray) : Bool := decide (s.data.toList ≠ [] ∧ s.size ≤ 24 ∧ s.data.toList ≠ [46] ∧ s.data.toList ≠ [46, 46]) && decide (noZ s < 0)
def partPS : PS := fun args => match args with | [.string s] => some (.bool (partB s), s.size ≤ 1000000000) | _ => none
theorem tlB (b : ByteArray) : b.toList = b.data.toList := ByteArray.toList_eq b
theorem ne_beq {a b : List UInt8} (h : a ≠ b) : (a == b) = false := beq_eq_false_iff_ne.2 h
theorem of_list {s : ByteArray} {l : List UInt8} (h : s.data.toList = l) : s = ⟨l.toArray⟩ := by cases s; subst h; simp
theorem part_ok : PureOK Tryz.prog (fun _ => True) (137, partPS) := by
  refine ⟨⟨_, Tryz.func137, by kernel_rfl, by kernel_rfl⟩, fun args v p h hp w hX => ?_⟩
  dsimp only [partPS] at h
  split at h
  · rename_i s
    cases h
    refine (calls_bare (E := EI) rfl rfl (Q := fun v => v = .bool (partB s)) (args := [.v (.string s)]) (a := [.string s]) w (S0 := entE EI 137 [.v (.string s)]) (by kernel_rfl) (VRL.cons (VR.v_iff.2 rfl) VRL.nil) fun cs0 => ?_).mono fun e w' ⟨h1, u, h2, h3⟩ => ⟨h1, by rw [h2, h3]⟩
    have hend : ∀ (ν' : Val) (M1 : Own) (w1 : World) (s' : SH) (w' : World), (layVal []).Le ν' → Base (layOwn [] []) w M1 w1 → HR ν' M1 w1 s' w' → (Below w.heap.size w w' ∧ ∃ v, Ending.returned (.bool (partB s)) = .returned v ∧ v = .bool (partB s)) := fun ν' M1 w1 s' w' _ hB hr => ⟨below_of not_laid hB hr, _, rfl, rfl⟩
    by_cases h0 : s.data.toList = []
    · obtain rfl := of_list h0
      refine Goes.endsV KI (n := 300) (o := [(1000, .b true)]) (v := .bool (partB _)) ?_ hend
      rw [p0]
      simp [Owed, partB]
    by_cases h1 : s.data.toList = [46]
    · obtain rfl := of_list h1
      refine Goes.endsV KI (n := 300) (o := [(1000, .b true)]) (v := .bool (partB _)) ?_ hend
      rw [p1]
      simp [Owed, partB]
    by_cases h2 : s.data.toList = [46, 46]
    · obtain rfl := of_list h2
      refine Goes.endsV KI (n := 300) (o := [(1000, .b true)]) (v := .bool (partB _)) ?_ hend
      rw [p2]
      simp [Owed, partB]
    by_cases h3 : s.size ≤ 24
    · refine Goes.endsV KI (n := 300) (o := ff [0, 1, 2, 3, 4, 5, 6, 7, 8, 9, 10, 11, 13, 14, 15, 16, 17] true) (v := .bool (partB s)) ?_ hend
      rw [p4]
      have e : partB s = decide (noZ s < 0) := by unfold partB; simp [h0, h1, h2, h3]
      have c1 : decide ((s.size : Int) ≤ 24) = true := decide_eq_true (by omega)
      simp only [Owed, e, tlB, ne_beq h0, ne_beq h1, ne_beq h2, c1, Bool.not_false, true_and, and_true]
    · refine Goes.endsV KI (n := 300) (o := ff [0, 1, 2, 3] true ++ ff [4, 5, 6, 7, 8, 9, 10, 11, 12, 13, 14, 15, 16, 17] false) (v := .bool (partB s)) ?_ hend
      rw [p3]
      have e : partB s = false := by unfold partB; simp [h3]
      have c1 : decide ((s.size : Int) ≤ 24) = false := decide_eq_false (by omega)
      simp only [Owed, e, tlB, ne_beq h0, c1, Bool.not_false, true_and, and_true]
  · cases h
end paths
end Go.Proofs.YtiggmgcnjmalfaaGreatDoor
namespace Go.Proofs.YtiggmgcnjmalfaaGreatDoor
open Go Go.Rx Go.RowKit Go.Proofs
set_option linter.unusedVariables false
set_option linter.unusedSimpArgs false
set_option maxRecDepth 100000
namespace paths
noncomputable def EC : Env := EP [(133, cutPS), (137, partPS)] []
theorem c0 (p : ByteArray) (v : Value) : endsV EC 89 3000 (entE EC 89 [.v (.string p)]) ([(0, .b true)]) v = [
  Value.int IntKind.i64 (23 : Int) = v,
  decide ((↑p.size : Int) > (96 : Int)) = true] := by kernel_rfl
theorem cb1 (p : ByteArray) (v : Value) : endsV EC 89 3000 (entE EC 89 [.v (.string p)]) (ff [0] false ++ ff [8] true) v = [
  Value.int IntKind.i64 (23 : Int) = v,
  (!partB (cA p)) = true,
  (cA p).size.le (1000000000 : Nat),
  p.size ≤ (1000000000 : Nat) ∧ { data := { toList := [(47 : UInt8)] : Array UInt8 } : ByteArray } = slash,
  decide ((↑p.size : Int) > (96 : Int)) = false] := by kernel_rfl
theorem co1 (p : ByteArray) (v : Value) : endsV EC 89 3000 (entE EC 89 [.v (.string p)]) (ff [0, 8, 10] false ++ ff [] true) v = [
  Value.int IntKind.i64 (0 : Int) = v,
  cM p = false,
  (!partB (cA p)) = false,
  (cA p).size.le (1000000000 : Nat),
  p.size ≤ (1000000000 : Nat) ∧ { data := { toList := [(47 : UInt8)] : Array UInt8 } : ByteArray } = slash,
  decide ((↑p.size : Int) > (96 : Int)) = false] := by kernel_rfl
theorem cb2 (p : ByteArray) (v : Value) : endsV EC 89 3000 (entE EC 89 [.v (.string p)]) (ff [0, 8] false ++ ff [17, 10] true) v = [
  Value.int IntKind.i64 (23 : Int) = v,
  (!partB (cA (cB p))) = true,
  (cA (cB p)).size.le (1000000000 : Nat),
  (cB p).size ≤ (1000000000 : Nat) ∧ { data := { toList := [(47 : UInt8)] : Array UInt8 } : ByteArray } = slash,
  cM p = true,
  (!partB (cA p)) = false,
  (cA p).size.le (1000000000 : Nat),
  p.size ≤ (1000000000 : Nat) ∧ { data := { toList := [(47 : UInt8)] : Array UInt8 } : ByteArray } = slash,
  decide ((↑p.size : Int) > (96 : Int)) = false] := by kernel_rfl
theorem co2 (p : ByteArray) (v : Value) : endsV EC 89 3000 (entE EC 89 [.v (.string p)]) (ff [0, 8, 17, 19] false ++ ff [10] true) v = [
  Value.int IntKind.i64 (0 : Int) = v,
  cM (cB p) = false,
  (!partB (cA (cB p))) = false,
  (cA (cB p)).size.le (1000000000 : Nat),
  (cB p).size ≤ (1000000000 : Nat) ∧ { data := { toList := [(47 : UInt8)] : Array UInt8 } : ByteArray } = slash,
  cM p = true,
  (!partB (cA p)) = false,
  (cA p).size.le (1000000000 : Nat),
  p.size ≤ (1000000000 : Nat) ∧ { data := { toList := [(47 : UInt8)] : Array UInt8 } : ByteArray } = slash,
  decide ((↑p.size : Int) > (96 : Int)) = false] := by kernel_rfl
theorem cb3 (p : ByteArray) (v : Value) : endsV EC 89 3000 (entE EC 89 [.v (.string p)]) (ff [0, 8, 17] false ++ ff [26, 10, 19] true) v = [
  Value.int IntKind.i64 (23 : Int) = v,
  (!partB (cA (cB (cB p)))) = true,
  (cA (cB (cB p))).size.le (1000000000 : Nat),
  (cB (cB p)).size ≤ (1000000000 : Nat) ∧ { data := { toList := [(47 : UInt8)] : Array UInt8 } : ByteArray } = slash,
  cM (cB p) = true,
  (!partB (cA (cB p))) = false,
  (cA (cB p)).size.le (1000000000 : Nat),
  (cB p).size ≤ (1000000000 : Nat) ∧ { data := { toList := [(47 : UInt8)] : Array UInt8 } : ByteArray } = slash,
  cM p = true,
  (!partB (cA p)) = false,
  (cA p).size.le (1000000000 : Nat),
  p.size ≤ (1000000000 : Nat) ∧ { data := { toList := [(47 : UInt8)] : Array UInt8 } : ByteArray } = slash,
  decide ((↑p.size : Int) > (96 : Int)) = false] := by kernel_rfl
theorem co3 (p : ByteArray) (v : Value) : endsV EC 89 3000 (entE EC 89 [.v (.string p)]) (ff [0, 8, 17, 26, 28] false ++ ff [10, 19] true) v = [
  Value.int IntKind.i64 (0 : Int) = v,
  cM (cB (cB p)) = false,
  (!partB (cA (cB (cB p)))) = false,
  (cA (cB (cB p))).size.le (1000000000 : Nat),
  (cB (cB p)).size ≤ (1000000000 : Nat) ∧ { data := { toList := [(47 : UInt8)] : Array UInt8 } : ByteArray } = slash,
  cM (cB p) = true,
  (!partB (cA (cB p))) = false,
  (cA (cB p)).size.le (1000000000 : Nat),
  (cB p).size ≤ (1000000000 : Nat) ∧ { data := { toList := [(47 : UInt8)] : Array UInt8 } : ByteArray } = slash,
  cM p = true,
  (!partB (cA p)) = false,
  (cA p).size.le (1000000000 : Nat),
  p.size ≤ (1000000000 : Nat) ∧ { data := { toList := [(47 : UInt8)] : Array UInt8 } : ByteArray } = slash,
  decide ((↑p.size : Int) > (96 : Int)) = false] := by kernel_rfl
theorem cb4 (p : ByteArray) (v : Value) : endsV EC 89 3000 (entE EC 89 [.v (.string p)]) (ff [0, 8, 17, 26] false ++ ff [35, 10, 19, 28] true) v = [
  Value.int IntKind.i64 (23 : Int) = v,
  (!partB (cA (cB (cB (cB p))))) = true,
  (cA (cB (cB (cB p)))).size.le (1000000000 : Nat),
  (cB (cB (cB p))).size ≤ (1000000000 : Nat) ∧ { data := { toList := [(47 : UInt8)] : Array UInt8 } : ByteArray } = slash,
  cM (cB (cB p)) = true,
  (!partB (cA (cB (cB p)))) = false,
  (cA (cB (cB p))).size.le (1000000000 : Nat),
  (cB (cB p)).size ≤ (1000000000 : Nat) ∧ { data := { toList := [(47 : UInt8)] : Array UInt8 } : ByteArray } = slash,
  cM (cB p) = true,
  (!partB (cA (cB p))) = false,
  (cA (cB p)).size.le (1000000000 : Nat),
  (cB p).size ≤ (1000000000 : Nat) ∧ { data := { toList := [(47 : UInt8)] : Array UInt8 } : ByteArray } = slash,
  cM p = true,
  (!partB (cA p)) = false,
  (cA p).size.le (1000000000 : Nat),
  p.size ≤ (1000000000 : Nat) ∧ { data := { toList := [(47 : UInt8)] : Array UInt8 } : ByteArray } = slash,
  decide ((↑p.size : Int) > (96 : Int)) = false] := by kernel_rfl
theorem co4 (p : ByteArray) (v : Value) : endsV EC 89 3000 (entE EC 89 [.v (.string p)]) (ff [0, 8, 17, 26, 35, 37] false ++ ff [10, 19, 28] true) v = [
  Value.int IntKind.i64 (0 : Int) = v,
  cM (cB (cB (cB p))) = false,
  (!partB (cA (cB (cB (cB p))))) = false,
  (cA (cB (cB (cB p)))).size.le (1000000000 : Nat),
  (cB (cB (cB p))).size ≤ (1000000000 : Nat) ∧ { data := { toList := [(47 : UInt8)] : Array UInt8 } : ByteArray } = slash,
  cM (cB (cB p)) = true,
  (!partB (cA (cB (cB p)))) = false,
  (cA (cB (cB p))).size.le (1000000000 : Nat),
  (cB (cB p)).size ≤ (1000000000 : Nat) ∧ { data := { toList := [(47 : UInt8)] : Array UInt8 } : ByteArray } = slash,
  cM (cB p) = true,
  (!partB (cA (cB p))) = false,
  (cA (cB p)).size.le (1000000000 : Nat),
  (cB p).size ≤ (1000000000 : Nat) ∧ { data := { toList := [(47 : UInt8)] : Array UInt8 } : ByteArray } = slash,
  cM p = true,
  (!partB (cA p)) = false,
  (cA p).size.le (1000000000 : Nat),
  p.size ≤ (1000000000 : Nat) ∧ { data := { toList := [(47 : UInt8)] : Array UInt8 } : ByteArray } = slash,
  decide ((↑p.size : Int) > (96 : Int)) = false] := by kernel_rfl
theorem cb5 (p : ByteArray) (v : Value) : endsV EC 89 3000 (entE EC 89 [.v (.string p)]) (ff [0, 8, 17, 26, 35] false ++ ff [44, 10, 19, 28, 37] true) v = [
  Value.int IntKind.i64 (23 : Int) = v,
  (!partB (cA (cB (cB (cB (cB p)))))) = true,
  (cA (cB (cB (cB (cB p))))).size.le (1000000000 : Nat),
  (cB (cB (cB (cB p)))).size ≤ (1000000000 : Nat) ∧
   { data := { toList := [(47 : UInt8)] : Array UInt8 } : ByteArray } = slash,
  cM (cB (cB (cB p))) = true,
  (!partB (cA (cB (cB (cB p))))) = false,
  (cA (cB (cB (cB p)))).size.le (1000000000 : Nat),
  (cB (cB (cB p))).size ≤ (1000000000 : Nat) ∧ { data := { toList := [(47 : UInt8)] : Array UInt8 } : ByteArray } = slash,
  cM (cB (cB p)) = true,
  (!partB (cA (cB (cB p)))) = false,
  (cA (cB (cB p))).size.le (1000000000 : Nat),
  (cB (cB p)).size ≤ (1000000000 : Nat) ∧ { data := { toList := [(47 : UInt8)] : Array UInt8 } : ByteArray } = slash,
  cM (cB p) = true,
  (!partB (cA (cB p))) = false,
  (cA (cB p)).size.le (1000000000 : Nat),
  (cB p).size ≤ (1000000000 : Nat) ∧ { data := { toList := [(47 : UInt8)] : Array UInt8 } : ByteArray } = slash,
  cM p = true,
  (!partB (cA p)) = false,
  (cA p).size.le (1000000000 : Nat),
  p.size ≤ (1000000000 : Nat) ∧ { data := { toList := [(47 : UInt8)] : Array UInt8 } : ByteArray } = slash,
  decide ((↑p.size : Int) > (96 : Int)) = false] := by kernel_rfl
theorem co5 (p : ByteArray) (v : Value) : endsV EC 89 3000 (entE EC 89 [.v (.string p)]) (ff [0, 8, 17, 26, 35, 44, 46] false ++ ff [10, 19, 28, 37] true) v = [
  Value.int IntKind.i64 (0 : Int) = v,
  cM (cB (cB (cB (cB p)))) = false,
  (!partB (cA (cB (cB (cB (cB p)))))) = false,
  (cA (cB (cB (cB (cB p))))).size.le (1000000000 : Nat),
  (cB (cB (cB (cB p)))).size ≤ (1000000000 : Nat) ∧
   { data := { toList := [(47 : UInt8)] : Array UInt8 } : ByteArray } = slash,
  cM (cB (cB (cB p))) = true,
  (!partB (cA (cB (cB (cB p))))) = false,
  (cA (cB (cB (cB p)))).size.le (1000000000 : Nat),
  (cB (cB (cB p))).size ≤ (1000000000 : Nat) ∧ { data := { toList := [(47 : UInt8)] : Array UInt8 } : ByteArray } = slash,
  cM (cB (cB p)) = true,
  (!partB (cA (cB (cB p)))) = false,
  (cA (cB (cB p))).size.le (1000000000 : Nat),
  (cB (cB p)).size ≤ (1000000000 : Nat) ∧ { data := { toList := [(47 : UInt8)] : Array UInt8 } : ByteArray } = slash,
  cM (cB p) = true,
  (!partB (cA (cB p))) = false,
  (cA (cB p)).size.le (1000000000 : Nat),
  (cB p).size ≤ (1000000000 : Nat) ∧ { data := { toList := [(47 : UInt8)] : Array UInt8 } : ByteArray } = slash,
  cM p = true,
  (!partB (cA p)) = false,
  (cA p).size.le (1000000000 : Nat),
  p.size ≤ (1000000000 : Nat) ∧ { data := { toList := [(47 : UInt8)] : Array UInt8 } : ByteArray } = slash,
  decide ((↑p.size : Int) > (96 : Int)) = false] := by kernel_rfl
theorem cb6 (p : ByteArray) (v : Value) : endsV EC 89 3000 (entE EC 89 [.v (.string p)]) (ff [0, 8, 17, 26, 35, 44] false ++ ff [53, 10, 19, 28, 37, 46] true) v = [
  Value.int IntKind.i64 (23 : Int) = v,
  (!partB (cA (cB (cB (cB (cB (cB p))))))) = true,
  (cA (cB (cB (cB (cB (cB p)))))).size.le (1000000000 : Nat),
  (cB (cB (cB (cB (cB p))))).size ≤ (1000000000 : Nat) ∧
   { data := { toList := [(47 : UInt8)] : Array UInt8 } : ByteArray } = slash,
  cM (cB (cB (cB (cB p)))) = true,
  (!partB (cA (cB (cB (cB (cB p)))))) = false,
  (cA (cB (cB (cB (cB p))))).size.le (1000000000 : Nat),
  (cB (cB (cB (cB p)))).size ≤ (1000000000 : Nat) ∧
   { data := { toList := [(47 : UInt8)] : Array UInt8 } : ByteArray } = slash,
  cM (cB (cB (cB p))) = true,
  (!partB (cA (cB (cB (cB p))))) = false,
  (cA (cB (cB (cB p)))).size.le (1000000000 : Nat),
  (cB (cB (cB p))).size ≤ (1000000000 : Nat) ∧ { data := { toList := [(47 : UInt8)] : Array UInt8 } : ByteArray } = slash,
  cM (cB (cB p)) = true,
  (!partB (cA (cB (cB p)))) = false,
  (cA (cB (cB p))).size.le (1000000000 : Nat),
  (cB (cB p)).size ≤ (1000000000 : Nat) ∧ { data := { toList := [(47 : UInt8)] : Array UInt8 } : ByteArray } = slash,
  cM (cB p) = true,
  (!partB (cA (cB p))) = false,
  (cA (cB p)).size.le (1000000000 : Nat),
  (cB p).size ≤ (1000000000 : Nat) ∧ { data := { toList := [(47 : UInt8)] : Array UInt8 } : ByteArray } = slash,
  cM p = true,
  (!partB (cA p)) = false,
  (cA p).size.le (1000000000 : Nat),
  p.size ≤ (1000000000 : Nat) ∧ { data := { toList := [(47 : UInt8)] : Array UInt8 } : ByteArray } = slash,
  decide ((↑p.size : Int) > (96 : Int)) = false] := by kernel_rfl
theorem co6 (p : ByteArray) (v : Value) : endsV EC 89 3000 (entE EC 89 [.v (.string p)]) (ff [0, 8, 17, 26, 35, 44, 53, 55] false ++ ff [10, 19, 28, 37, 46] true) v = [
  Value.int IntKind.i64 (0 : Int) = v,
  cM (cB (cB (cB (cB (cB p))))) = false,
  (!partB (cA (cB (cB (cB (cB (cB p))))))) = false,
  (cA (cB (cB (cB (cB (cB p)))))).size.le (1000000000 : Nat),
  (cB (cB (cB (cB (cB p))))).size ≤ (1000000000 : Nat) ∧
   { data := { toList := [(47 : UInt8)] : Array UInt8 } : ByteArray } = slash,
  cM (cB (cB (cB (cB p)))) = true,
  (!partB (cA (cB (cB (cB (cB p)))))) = false,
  (cA (cB (cB (cB (cB p))))).size.le (1000000000 : Nat),
  (cB (cB (cB (cB p)))).size ≤ (1000000000 : Nat) ∧
   { data := { toList := [(47 : UInt8)] : Array UInt8 } : ByteArray } = slash,
  cM (cB (cB (cB p))) = true,
  (!partB (cA (cB (cB (cB p))))) = false,
  (cA (cB (cB (cB p)))).size.le (1000000000 : Nat),
  (cB (cB (cB p))).size ≤ (1000000000 : Nat) ∧ { data := { toList := [(47 : UInt8)] : Array UInt8 } : ByteArray } = slash,
  cM (cB (cB p)) = true,
  (!partB (cA (cB (cB p)))) = false,
  (cA (cB (cB p))).size.le (1000000000 : Nat),
  (cB (cB p)).size ≤ (1000000000 : Nat) ∧ { data := { toList := [(47 : UInt8)] : Array UInt8 } : ByteArray } = slash,
  cM (cB p) = true,
  (!partB (cA (cB p))) = false,
  (cA (cB p)).size.le (1000000000 : Nat),
  (cB p).size ≤ (1000000000 : Nat) ∧ { data := { toList := [(47 : UInt8)] : Array UInt8 } : ByteArray } = slash,
  cM p = true,
  (!partB (cA p)) = false,
  (cA p).size.le (1000000000 : Nat),
  p.size ≤ (1000000000 : Nat) ∧ { data := { toList := [(47 : UInt8)] : Array UInt8 } : ByteArray } = slash,
  decide ((↑p.size : Int) > (96 : Int)) = false] := by kernel_rfl
theorem cd (p : ByteArray) (v : Value) : endsV EC 89 3000 (entE EC 89 [.v (.string p)]) (ff [0, 8, 17, 26, 35, 44, 53] false ++ ff [10, 19, 28, 37, 46, 55] true) v = [
  Value.int IntKind.i64 (23 : Int) = v,
  (cB (cB (cB (cB (cB (cB p)))))).size ≤ (1000000000 : Nat) ∧
   { data := { toList := [(47 : UInt8)] : Array UInt8 } : ByteArray } = slash,
  cM (cB (cB (cB (cB (cB p))))) = true,
  (!partB (cA (cB (cB (cB (cB (cB p))))))) = false,
  (cA (cB (cB (cB (cB (cB p)))))).size.le (1000000000 : Nat),
  (cB (cB (cB (cB (cB p))))).size ≤ (1000000000 : Nat) ∧
   { data := { toList := [(47 : UInt8)] : Array UInt8 } : ByteArray } = slash,
  cM (cB (cB (cB (cB p)))) = true,
  (!partB (cA (cB (cB (cB (cB p)))))) = false,
  (cA (cB (cB (cB (cB p))))).size.le (1000000000 : Nat),
  (cB (cB (cB (cB p)))).size ≤ (1000000000 : Nat) ∧
   { data := { toList := [(47 : UInt8)] : Array UInt8 } : ByteArray } = slash,
  cM (cB (cB (cB p))) = true,
  (!partB (cA (cB (cB (cB p))))) = false,
  (cA (cB (cB (cB p)))).size.le (1000000000 : Nat),
  (cB (cB (cB p))).size ≤ (1000000000 : Nat) ∧ { data := { toList := [(47 : UInt8)] : Array UInt8 } : ByteArray } = slash,
  cM (cB (cB p)) = true,
  (!partB (cA (cB (cB p)))) = false,
  (cA (cB (cB p))).size.le (1000000000 : Nat),
  (cB (cB p)).size ≤ (1000000000 : Nat) ∧ { data := { toList := [(47 : UInt8)] : Array UInt8 } : ByteArray } = slash,
  cM (cB p) = true,
  (!partB (cA (cB p))) = false,
  (cA (cB p)).size.le (1000000000 : Nat),
  (cB p).size ≤ (1000000000 : Nat) ∧ { data := { toList := [(47 : UInt8)] : Array UInt8 } : ByteArray } = slash,
  cM p = true,
  (!partB (cA p)) = false,
  (cA p).size.le (1000000000 : Nat),
  p.size ≤ (1000000000 : Nat) ∧ { data := { toList := [(47 : UInt8)] : Array UInt8 } : ByteArray } = slash,
  decide ((↑p.size : Int) > (96 : Int)) = false] := by kernel_rfl
theorem cA_size (s : ByteArray) : (cA s).size ≤ s.size := by
  have e : (cA s).size = (Lib.cut s.data.toList [47]).1.length := by simp [cA, ByteArray.size]
  have e2 : s.data.toList.length = s.size := by simp
  rw [e]; unfold Lib.cut
  split
  · simp only [List.length_take]; omega
  · simp
def chkF : Nat → ByteArray → Bool
  | 0, _ => false
  | n + 1, p => partB (cA p) && (!(cM p) || chkF n (cB p))
/-- Is a text a path? -/
def goodB (p : ByteArray) : Bool := decide (p.size ≤ 96) && chkF 6 p
def checkN (p : ByteArray) : Int := bif goodB p then 0 else 23
def checkPS : PS := fun args => match args with | [.string p] => some (.int .i64 (checkN p), p.size ≤ 1000000000) | _ => none
theorem KC {w0 : World} (h : MX w0) : Facts EC (layOwn [] []) w0 := factsP (X := MX) (fun r hr => by
  simp only [List.mem_cons, List.not_mem_nil, or_false] at hr
  rcases hr with rfl | rfl
  · exact cut_ok
  · exact ⟨part_ok.1, fun args v p e hp w _ => part_ok.2 args v p e hp w trivial⟩) fun ν s w hr _ => h.keep fun k hk => hr.frame k hk (not_laid k)
theorem check_ok : PureOK Tryz.prog MX (89, checkPS) := by
  refine .mk ⟨_, Tryz.func89, by kernel_rfl, by kernel_rfl⟩ fun args v p h hp w hX => ?_
  dsimp only [checkPS] at h
  split at h
  · rename_i p
    cases h
    have go : ∀ {o v}, Due (endsV EC 89 3000 (entE EC 89 [.v (.string p)]) o v) → v = .int .i64 (checkN p) → Calls Tryz.prog 89 #[.string p] w fun e w' => Below w.heap.size w w' ∧ e = .returned (.int .i64 (checkN p)) := fun h e =>
      e ▸ calls_endsV (E := EC) (args := [.v (.string p)]) rfl rfl (KC hX) (by kernel_rfl) (VRL.cons (VR.v_iff.2 rfl) VRL.nil) h
    by_cases h96 : p.size > 96
    · exact go (o := [(0, .b true)]) ⟨by rw [c0]; exact ⟨⟨trivial, decide_eq_true (by omega)⟩, rfl⟩⟩ (by simp [checkN, goodB, show ¬ p.size ≤ 96 by omega])
    have d96 : decide ((p.size : Int) > 96) = false := decide_eq_false (by omega)
    have g96 : decide (p.size ≤ 96) = true := decide_eq_true (by omega)
    have sl : (⟨⟨[47]⟩⟩ : ByteArray) = slash := rfl
    have s0 : p.size ≤ 1000000000 := hp
    have a0 : (cA p).size ≤ 1000000000 := Nat.le_trans (cA_size _) s0
    have s1 : (cB p).size ≤ 1000000000 := Nat.le_trans (cB_size _) s0
    have a1 : (cA (cB p)).size ≤ 1000000000 := Nat.le_trans (cA_size _) s1
    have s2 : (cB (cB p)).size ≤ 1000000000 := Nat.le_trans (cB_size _) s1
    have a2 : (cA (cB (cB p))).size ≤ 1000000000 := Nat.le_trans (cA_size _) s2
    have s3 : (cB (cB (cB p))).size ≤ 1000000000 := Nat.le_trans (cB_size _) s2
    have a3 : (cA (cB (cB (cB p)))).size ≤ 1000000000 := Nat.le_trans (cA_size _) s3
    have s4 : (cB (cB (cB (cB p)))).size ≤ 1000000000 := Nat.le_trans (cB_size _) s3
    have a4 : (cA (cB (cB (cB (cB p))))).size ≤ 1000000000 := Nat.le_trans (cA_size _) s4
    have s5 : (cB (cB (cB (cB (cB p))))).size ≤ 1000000000 := Nat.le_trans (cB_size _) s4
    have a5 : (cA (cB (cB (cB (cB (cB p)))))).size ≤ 1000000000 := Nat.le_trans (cA_size _) s5
    have s6 : (cB (cB (cB (cB (cB (cB p)))))).size ≤ 1000000000 := Nat.le_trans (cB_size _) s5
    cases p0 : partB (cA p)
    · exact go (o := (ff [0] false ++ ff [8] true)) (v := .int .i64 23) ⟨by rw [cb1]; simp [Owed, d96, sl, s0, a0, p0]⟩ (by simp [checkN, goodB, chkF, g96, p0])
    cases m0 : cM p
    · exact go (o := (ff [0, 8, 10] false ++ ff [] true)) (v := .int .i64 0) ⟨by rw [co1]; simp [Owed, d96, sl, s0, a0, p0, m0]⟩ (by simp [checkN, goodB, chkF, g96, p0, m0])
    cases p1 : partB (cA (cB p))
    · exact go (o := (ff [0, 8] false ++ ff [17, 10] true)) (v := .int .i64 23) ⟨by rw [cb2]; simp [Owed, d96, sl, s0, a0, p0, m0, s1, a1, p1]⟩ (by simp [checkN, goodB, chkF, g96, p0, m0, p1])
    cases m1 : cM (cB p)
    · exact go (o := (ff [0, 8, 17, 19] false ++ ff [10] true)) (v := .int .i64 0) ⟨by rw [co2]; simp [Owed, d96, sl, s0, a0, p0, m0, s1, a1, p1, m1]⟩ (by simp [checkN, goodB, chkF, g96, p0, m0, p1, m1])
    cases p2 : partB (cA (cB (cB p)))
    · exact go (o := (ff [0, 8, 17] false ++ ff [26, 10, 19] true)) (v := .int .i64 23) ⟨by rw [cb3]; simp [Owed, d96, sl, s0, a0, p0, m0, s1, a1, p1, m1, s2, a2, p2]⟩ (by simp [checkN, goodB, chkF, g96, p0, m0, p1, m1, p2])
    cases m2 : cM (cB (cB p))
    · exact go (o := (ff [0, 8, 17, 26, 28] false ++ ff [10, 19] true)) (v := .int .i64 0) ⟨by rw [co3]; simp [Owed, d96, sl, s0, a0, p0, m0, s1, a1, p1, m1, s2, a2, p2, m2]⟩ (by simp [checkN, goodB, chkF, g96, p0, m0, p1, m1, p2, m2])
    cases p3 : partB (cA (cB (cB (cB p))))
    · exact go (o := (ff [0, 8, 17, 26] false ++ ff [35, 10, 19, 28] true)) (v := .int .i64 23) ⟨by rw [cb4]; simp [Owed, d96, sl, s0, a0, p0, m0, s1, a1, p1, m1, s2, a2, p2, m2, s3, a3, p3]⟩ (by simp [checkN, goodB, chkF, g96, p0, m0, p1, m1, p2, m2, p3])
    cases m3 : cM (cB (cB (cB p)))
    · exact go (o := (ff [0, 8, 17, 26, 35, 37] false ++ ff [10, 19, 28] true)) (v := .int .i64 0) ⟨by rw [co4]; simp [Owed, d96, sl, s0, a0, p0, m0, s1, a1, p1, m1, s2, a2, p2, m2, s3, a3, p3, m3]⟩ (by simp [checkN, goodB, chkF, g96, p0, m0, p1, m1, p2, m2, p3, m3])
    cases p4 : partB (cA (cB (cB (cB (cB p)))))
    · exact go (o := (ff [0, 8, 17, 26, 35] false ++ ff [44, 10, 19, 28, 37] true)) (v := .int .i64 23) ⟨by rw [cb5]; simp [Owed, d96, sl, s0, a0, p0, m0, s1, a1, p1, m1, s2, a2, p2, m2, s3, a3, p3, m3, s4, a4, p4]⟩ (by simp [checkN, goodB, chkF, g96, p0, m0, p1, m1, p2, m2, p3, m3, p4])
    cases m4 : cM (cB (cB (cB (cB p))))
    · exact go (o := (ff [0, 8, 17, 26, 35, 44, 46] false ++ ff [10, 19, 28, 37] true)) (v := .int .i64 0) ⟨by rw [co5]; simp [Owed, d96, sl, s0, a0, p0, m0, s1, a1, p1, m1, s2, a2, p2, m2, s3, a3, p3, m3, s4, a4, p4, m4]⟩ (by simp [checkN, goodB, chkF, g96, p0, m0, p1, m1, p2, m2, p3, m3, p4, m4])
    cases p5 : partB (cA (cB (cB (cB (cB (cB p))))))
    · exact go (o := (ff [0, 8, 17, 26, 35, 44] false ++ ff [53, 10, 19, 28, 37, 46] true)) (v := .int .i64 23) ⟨by rw [cb6]; simp [Owed, d96, sl, s0, a0, p0, m0, s1, a1, p1, m1, s2, a2, p2, m2, s3, a3, p3, m3, s4, a4, p4, m4, s5, a5, p5]⟩ (by simp [checkN, goodB, chkF, g96, p0, m0, p1, m1, p2, m2, p3, m3, p4, m4, p5])
    cases m5 : cM (cB (cB (cB (cB (cB p)))))
    · exact go (o := (ff [0, 8, 17, 26, 35, 44, 53, 55] false ++ ff [10, 19, 28, 37, 46] true)) (v := .int .i64 0) ⟨by rw [co6]; simp [Owed, d96, sl, s0, a0, p0, m0, s1, a1, p1, m1, s2, a2, p2, m2, s3, a3, p3, m3, s4, a4, p4, m4, s5, a5, p5, m5]⟩ (by simp [checkN, goodB, chkF, g96, p0, m0, p1, m1, p2, m2, p3, m3, p4, m4, p5, m5])
    exact go (o := (ff [0, 8, 17, 26, 35, 44, 53] false ++ ff [10, 19, 28, 37, 46, 55] true)) (v := .int .i64 23) ⟨by rw [cd]; simp [Owed, d96, sl, s0, a0, p0, m0, s1, a1, p1, m1, s2, a2, p2, m2, s3, a3, p3, m3, s4, a4, p4, m4, s5, a5, p5, m5, s6]⟩ (by simp [checkN, goodB, chkF, g96, p0, m0, p1, m1, p2, m2, p3, m3, p4, m4, p5, m5])
  · cases h
theorem checkN_ne (p : ByteArray) (h : checkN p = 0) : p.size ≠ 0 := by
  intro e
  have hp : p = ⟨#[]⟩ := of_list (l := []) (by have : p.data.toList.length = 0 := by simpa using e
                                               exact List.length_eq_zero_iff.1 this)
  subst hp
  have h1 : cA ⟨#[]⟩ = ⟨#[]⟩ := cA_nil
  have h2 : partB ⟨#[]⟩ = false := by simp [partB]
  simp [checkN, goodB, chkF, h1, h2] at h
noncomputable def EU : Env := EP [(89, checkPS)] []
theorem u0 (p : ByteArray) (v : Value) : endsV EU 43 300 (entE EU 43 [.v (.string p)]) (ff [0, 1, 2, 3, 4, 5, 6] false) v = [
  Value.bool false = v,
  (checkN p == (0 : Int)) = false,
  (checkN p == (0 : Int)) = false,
  (checkN p == (0 : Int)) = false,
  (checkN p == (0 : Int)) = false,
  p.size.le (1000000000 : Nat)] := by kernel_rfl
theorem u1 (p : ByteArray) (v : Value) : endsV EU 43 300 (entE EU 43 [.v (.string p)]) (ff [0, 1, 2, 3, 4, 5, 6] true) v = [
  (Value.bool !(↑(p.data.getD (0 : Nat) (0 : UInt8)).toNat : Int) == (126 : Int)) = v,
  (checkN p == (0 : Int)) = true,
  (checkN p == (0 : Int)) = true,
  inRange (0 : Int) p.size = true,
  (checkN p == (0 : Int)) = true,
  (checkN p == (0 : Int)) = true,
  p.size.le (1000000000 : Nat)] := by kernel_rfl
/-- Is a text a user's path? -/
def userB (p : ByteArray) : Bool := checkN p == 0 && !(p.data.getD 0 0 == 126)
def userPS : PS := fun args => match args with | [.string p] => some (.bool (userB p), p.size ≤ 1000000000) | _ => none
theorem KU {w0 : World} (h : MX w0) : Facts EU (layOwn [] []) w0 := factsP (X := MX) (fun r hr => by
  simp only [List.mem_cons, List.not_mem_nil, or_false] at hr
  subst hr
  exact check_ok) fun ν s w hr _ => h.keep fun k hk => hr.frame k hk (not_laid k)
theorem user_ok : PureOK Tryz.prog MX (43, userPS) := by
  refine .mk ⟨_, Tryz.func43, by kernel_rfl, by kernel_rfl⟩ fun args v p h hp w hX => ?_
  dsimp only [userPS] at h
  split at h
  · rename_i p
    cases h
    have go : ∀ {o v}, Due (endsV EU 43 300 (entE EU 43 [.v (.string p)]) o v) → v = .bool (userB p) → Calls Tryz.prog 43 #[.string p] w fun e w' => Below w.heap.size w w' ∧ e = .returned (.bool (userB p)) := fun h e =>
      e ▸ calls_endsV (E := EU) (args := [.v (.string p)]) rfl rfl (KU hX) (by kernel_rfl) (VRL.cons (VR.v_iff.2 rfl) VRL.nil) h
    by_cases h0 : checkN p = 0
    · have hs := checkN_ne p h0
      refine go (o := ff [0, 1, 2, 3, 4, 5, 6] true) (v := .bool (userB p)) ⟨?_⟩ rfl
      rw [u1]
      have hr : inRange 0 p.size = true := by unfold inRange; exact decide_eq_true (by omega)
      have hc : (((p.data.getD 0 0).toNat : Int) == 126) = (p.data.getD 0 0 == 126) := by
        by_cases e : p.data.getD 0 0 = 126
        · rw [e]; rfl
        · have : ¬ ((p.data.getD 0 0).toNat : Int) = 126 := fun h => e (UInt8.toNat_inj.1 (show (p.data.getD 0 0).toNat = 126 by omega))
          rw [beq_eq_false_iff_ne.2 e, beq_eq_false_iff_ne.2 this]
      refine ⟨⟨⟨⟨⟨⟨⟨trivial, hp⟩, ?_⟩, ?_⟩, hr⟩, ?_⟩, ?_⟩, ?_⟩ <;> first | (rw [h0]; rfl) | (rw [hc]; simp [userB, h0])
    · have hz : (checkN p == 0) = false := beq_eq_false_iff_ne.2 h0
      refine go (o := ff [0, 1, 2, 3, 4, 5, 6] false) (v := .bool false) ⟨?_⟩ (by simp [userB, hz])
      rw [u0]
      exact ⟨⟨⟨⟨⟨⟨trivial, hp⟩, hz⟩, hz⟩, hz⟩, hz⟩, rfl⟩
  · cases h
end paths
end Go.Proofs.YtiggmgcnjmalfaaGreatDoor
namespace Go.Proofs.YtiggmgcnjmalfaaGreatDoor
open Go Go.Rx Go.RowKit Go.Proofs
set_option linter.unusedVariables false
set_option linter.unusedSimpArgs false
set_option maxRecDepth 100000
namespace paths
noncomputable def EN0 : Env := EP [] []
theorem e0 (x y : ByteArray) (v : Value) : endsV EN0 134 300 (entE EN0 134 [.v (.string x), .v (.string y)]) (ff [0, 1] false ++ ff [2] true) v = [
  Value.int IntKind.i64 (-1 : Int) = v,
  Op.bytesLess x.toList y.toList = true,
  (!y.toList == y.toList) = false,
  (!x.toList == x.toList) = false] := by kernel_rfl
theorem e1 (x y : ByteArray) (v : Value) : endsV EN0 134 300 (entE EN0 134 [.v (.string x), .v (.string y)]) (ff [0, 1, 2] false ++ ff [3] true) v = [
  Value.int IntKind.i64 (1 : Int) = v,
  (!(Op.bytesLess x.toList y.toList || x.toList == y.toList)) = true,
  Op.bytesLess x.toList y.toList = false,
  (!y.toList == y.toList) = false,
  (!x.toList == x.toList) = false] := by kernel_rfl
theorem e2 (x y : ByteArray) (v : Value) : endsV EN0 134 300 (entE EN0 134 [.v (.string x), .v (.string y)]) (ff [0, 1, 2, 3] false) v = [
  Value.int IntKind.i64 (0 : Int) = v,
  (!(Op.bytesLess x.toList y.toList || x.toList == y.toList)) = false,
  Op.bytesLess x.toList y.toList = false,
  (!y.toList == y.toList) = false,
  (!x.toList == x.toList) = false] := by kernel_rfl
/-- How two texts stand, byte by byte. -/
def cmpS (x y : ByteArray) : Int := if Op.bytesLess x.toList y.toList = true then -1 else if (!(Op.bytesLess x.toList y.toList || x.toList == y.toList)) = true then 1 else 0
def cmpSPS : PS := fun args => match args with | [.string x, .string y] => some (.int .i64 (cmpS x y), True) | _ => none
theorem KN0 {M : Own} {w0 : World} : Facts EN0 M w0 := factsP0 fun r h => by cases h
theorem cmpS_ok : PureOK Tryz.prog (fun _ => True) (134, cmpSPS) := by
  refine .mk ⟨_, Tryz.func134, by kernel_rfl, by kernel_rfl⟩ fun args v p h hp w hX => ?_
  dsimp only [cmpSPS] at h
  split at h
  · rename_i x y
    cases h
    have go : ∀ {o v}, Due (endsV EN0 134 300 (entE EN0 134 [.v (.string x), .v (.string y)]) o v) → v = .int .i64 (cmpS x y) → Calls Tryz.prog 134 #[.string x, .string y] w fun e w' => Below w.heap.size w w' ∧ e = .returned (.int .i64 (cmpS x y)) := fun h e =>
      e ▸ calls_endsV (E := EN0) (args := [.v (.string x), .v (.string y)]) (a := [.string x, .string y]) rfl rfl KN0 (by kernel_rfl) (VRL.cons (VR.v_iff.2 rfl) (VRL.cons (VR.v_iff.2 rfl) VRL.nil)) h
    cases h1 : Op.bytesLess x.toList y.toList
    · cases h2 : (x.toList == y.toList)
      · exact go (o := ff [0, 1, 2] false ++ ff [3] true) (v := .int .i64 1) ⟨by rw [e1]; simp [Owed, h1, h2]⟩ (by simp [cmpS, h1, h2])
      · exact go (o := ff [0, 1, 2, 3] false) (v := .int .i64 0) ⟨by rw [e2]; simp [Owed, h1, h2]⟩ (by simp [cmpS, h1, h2])
    · exact go (o := ff [0, 1] false ++ ff [2] true) (v := .int .i64 (-1)) ⟨by rw [e0]; simp [Owed, h1]⟩ (by simp [cmpS, h1])
  · cases h
noncomputable def EN : Env := EP [(133, cutPS), (134, cmpSPS)] []
noncomputable def todoN : List SI := todoL EN 1 60 (entE EN 88 [.v (.string ⟨#[]⟩), .v (.string ⟨#[]⟩)]) []
noncomputable def hdN (a b : ByteArray) : SF := { fn := 88, tm := tmOf 44 6 ([.v (.string a), .v (.string b)] ++ List.replicate 42 .junk), todo := todoN, defers := [], ret := false, kind := .normal, ro := none }
theorem n0 (a b : ByteArray) : reach EN 1 60 (entE EN 88 [.v (.string a), .v (.string b)]) [(1000, .b true)] [] [] (hdN a b) 6 [] = [
  Value.string a = Value.string a,
  Value.string b = Value.string b] := by kernel_rfl
theorem n1 (a b : ByteArray) (v : Value) : endsV EN 88 300 (SM.at (hdN a b) 6 []) (ff (List.range 40) true) v = [
  Value.int IntKind.i64 (cmpS (cA a) (cA b)) = v,
  True,
  (!(cA a).toList == (cA b).toList) = true,
  b.size ≤ (1000000000 : Nat) ∧ { data := { toList := [(47 : UInt8)] : Array UInt8 } : ByteArray } = slash,
  a.size ≤ (1000000000 : Nat) ∧ { data := { toList := [(47 : UInt8)] : Array UInt8 } : ByteArray } = slash] := by kernel_rfl
theorem n2 (a b : ByteArray) (v : Value) : endsV EN 88 300 (SM.at (hdN a b) 6 []) (ff [0, 1, 2] false ++ ff [3, 4, 5, 6] true ++ ff [7] false ++ ff [8] true) v = [
  Value.int IntKind.i64 (IntKind.i64.wrap ((0 : Int) - (1 : Int))) = v,
  cM b = true,
  cM a = false,
  true = true,
  (!cM a) = true,
  (!cM a) = true,
  (!cM a) = true,
  (!(cA a).toList == (cA b).toList) = false,
  b.size ≤ (1000000000 : Nat) ∧ { data := { toList := [(47 : UInt8)] : Array UInt8 } : ByteArray } = slash,
  a.size ≤ (1000000000 : Nat) ∧ { data := { toList := [(47 : UInt8)] : Array UInt8 } : ByteArray } = slash] := by kernel_rfl
theorem n4 (a b : ByteArray) (v : Value) : endsV EN 88 300 (SM.at (hdN a b) 6 []) (ff [0, 1, 2] false ++ ff [3, 4, 5, 6] true ++ ff [7] false ++ ff [8] false) v = [
  Value.int IntKind.i64 (IntKind.i64.wrap ((0 : Int) - (0 : Int))) = v,
  cM b = false,
  cM a = false,
  true = true,
  (!cM a) = true,
  (!cM a) = true,
  (!cM a) = true,
  (!(cA a).toList == (cA b).toList) = false,
  b.size ≤ (1000000000 : Nat) ∧ { data := { toList := [(47 : UInt8)] : Array UInt8 } : ByteArray } = slash,
  a.size ≤ (1000000000 : Nat) ∧ { data := { toList := [(47 : UInt8)] : Array UInt8 } : ByteArray } = slash] := by kernel_rfl
theorem n5 (a b : ByteArray) (v : Value) : endsV EN 88 300 (SM.at (hdN a b) 6 []) (ff [0, 1, 2, 3, 4, 5] false ++ ff [6, 7] true ++ ff [8] false) v = [
  Value.int IntKind.i64 (IntKind.i64.wrap ((1 : Int) - (0 : Int))) = v,
  cM b = false,
  cM a = true,
  (!cM b) = true,
  (!cM a) = false,
  (!cM a) = false,
  (!cM a) = false,
  (!(cA a).toList == (cA b).toList) = false,
  b.size ≤ (1000000000 : Nat) ∧ { data := { toList := [(47 : UInt8)] : Array UInt8 } : ByteArray } = slash,
  a.size ≤ (1000000000 : Nat) ∧ { data := { toList := [(47 : UInt8)] : Array UInt8 } : ByteArray } = slash] := by kernel_rfl
theorem n3 (a b a' b' : ByteArray) : reach EN 1 60 (SM.at (hdN a b) 6 []) (ff (List.range 40) false) [] [] (hdN a' b') 6 [] = [
  Value.string (cB a) = Value.string a',
  Value.string (cB b) = Value.string b',
  (!cM b) = false,
  (!cM a) = false,
  (!cM a) = false,
  (!cM a) = false,
  (!(cA a).toList == (cA b).toList) = false,
  b.size ≤ (1000000000 : Nat) ∧ { data := { toList := [(47 : UInt8)] : Array UInt8 } : ByteArray } = slash,
  a.size ≤ (1000000000 : Nat) ∧ { data := { toList := [(47 : UInt8)] : Array UInt8 } : ByteArray } = slash] := by kernel_rfl

theorem index_ge : ∀ (s : List UInt8), Lib.index s [47] = -1 ∨ 0 ≤ Lib.index s [47]
  | [] => .inl rfl
  | b :: l => by
    unfold Lib.index
    split
    · exact .inr (Int.le_refl _)
    · rcases index_ge l with h | h
      · rw [h]; exact .inl rfl
      · right
        split
        · rename_i e; rw [beq_iff_eq] at e; omega
        · omega
theorem cut_nil : Lib.cut [] [47] = ([], [], false) := rfl
theorem cut_at (l : List UInt8) : Lib.cut (47 :: l) [47] = ([], l, true) := by
  have h : Lib.index (47 :: l) [47] = 0 := by unfold Lib.index; simp [List.isPrefixOf]
  unfold Lib.cut; rw [h]; simp
theorem cut_on {b : UInt8} (hb : b ≠ 47) (l : List UInt8) : Lib.cut (b :: l) [47] = (b :: (Lib.cut l [47]).1, (Lib.cut l [47]).2.1, (Lib.cut l [47]).2.2) := by
  have h0 : ([47] : List UInt8).isPrefixOf (b :: l) = false := by
    simp only [List.isPrefixOf, Bool.and_true]; exact beq_eq_false_iff_ne.2 fun e => hb e.symm
  have h : Lib.index (b :: l) [47] = if Lib.index l [47] == -1 then -1 else Lib.index l [47] + 1 := by
    conv => lhs; unfold Lib.index
    rw [h0]; rfl
  rcases index_ge l with h1 | h1
  · have h2 : Lib.index (b :: l) [47] = -1 := by rw [h, h1]; rfl
    unfold Lib.cut; rw [h1, h2]; rfl
  · have h2 : Lib.index (b :: l) [47] = Lib.index l [47] + 1 := by
      rw [h, if_neg (by rw [beq_iff_eq]; omega)]
    unfold Lib.cut; rw [h2, if_pos h1, if_pos (by omega)]
    have e : (Lib.index l [47] + 1).toNat = (Lib.index l [47]).toNat + 1 := by omega
    rw [e]; simp [Nat.add_right_comm]
/-- A text's parts. -/
def partsL : List UInt8 → List (List UInt8)
  | [] => [[]]
  | b :: l => if b = 47 then [] :: partsL l else match partsL l with
    | [] => [[b]]
    | x :: xs => (b :: x) :: xs
theorem partsL_ne : ∀ l : List UInt8, partsL l ≠ []
  | [] => by simp [partsL]
  | b :: l => by
    unfold partsL
    split
    · simp
    · split <;> simp
theorem partsL_cut : ∀ l : List UInt8, partsL l = (Lib.cut l [47]).1 :: (if (Lib.cut l [47]).2.2 = true then partsL (Lib.cut l [47]).2.1 else [])
  | [] => by rw [cut_nil]; rfl
  | b :: l => by
    by_cases hb : b = 47
    · subst hb
      rw [cut_at]; simp [partsL]
    · rw [cut_on hb]
      have ih := partsL_cut l
      have e : partsL (b :: l) = match partsL l with
        | [] => [[b]]
        | x :: xs => (b :: x) :: xs := by
        conv => lhs; unfold partsL
        rw [if_neg hb]
      rw [e, ih]
theorem cut_len : ∀ l : List UInt8, (Lib.cut l [47]).2.2 = true → (Lib.cut l [47]).2.1.length < l.length
  | [] => fun h => by rw [cut_nil] at h; cases h
  | b :: l => fun h => by
    by_cases hb : b = 47
    · subst hb; rw [cut_at]; simp
    · rw [cut_on hb] at h ⊢
      have := cut_len l h
      simp only [List.length_cons]; omega
theorem cB_lt (s : ByteArray) (h : cM s = true) : (cB s).size < s.size := by
  have e : (cB s).size = (Lib.cut s.data.toList [47]).2.1.length := by simp [cB, ByteArray.size]
  have e2 : s.data.toList.length = s.size := by simp
  have := cut_len s.data.toList h
  omega
theorem cA_size' (s : ByteArray) : (cA s).size ≤ s.size := by
  have e : (cA s).size = (Lib.cut s.data.toList [47]).1.length := by simp [cA, ByteArray.size]
  have e2 : s.data.toList.length = s.size := by simp
  rw [e]; unfold Lib.cut
  split
  · simp only [List.length_take]; omega
  · simp
def atN (b : Bool) : Int := bif b then 1 else 0
def cmpF : Nat → ByteArray → ByteArray → Int
  | 0, _, _ => 0
  | n + 1, a, b => if (cA a).data.toList = (cA b).data.toList then (if cM a = true ∧ cM b = true then cmpF n (cB a) (cB b) else atN (cM a) - atN (cM b)) else cmpS (cA a) (cA b)
/-- How two paths stand. -/
def cmpN (a b : ByteArray) : Int := cmpF (a.size + 1) a b
def cmpPS : PS := fun args => match args with | [.string a, .string b] => some (.int .i64 (cmpN a b), a.size ≤ 1000000000 ∧ b.size ≤ 1000000000) | _ => none
theorem KN {w0 : World} (h : MX w0) : Facts EN (layOwn [] []) w0 := factsP (X := MX) (fun r hr => by
  simp only [List.mem_cons, List.not_mem_nil, or_false] at hr
  rcases hr with rfl | rfl
  · exact cut_ok
  · exact ⟨cmpS_ok.1, fun args v p e hp w _ => cmpS_ok.2 args v p e hp w trivial⟩) fun ν s w hr _ => h.keep fun k hk => hr.frame k hk (not_laid k)
theorem goes_due {E : Env} {M : Own} {w0 : World} {cs0 : List Frame} {f : FuncId} {R : Ending → World → Prop} {ν : Val} {n : Nat} {S : SM} {o : List (Nat × Ans)} {v : Value} (K : Facts E M w0) (hM : ∀ b, ¬ M b) (h : Due (endsV E f n S o v)) (hR : ∀ w', Below w0.heap.size w0 w' → R (.returned v) w') : Goes E M w0 cs0 f R ν S :=
  Goes.endsV K h.out fun ν' M1 w1 s' w' _ hB hr => hR _ (below_of hM hB hr)
theorem loopN {w0 : World} {cs0 : List Frame} {R : Ending → World → Prop} (h : MX w0) : ∀ (n : Nat) (a b : ByteArray), a.size < n → a.size ≤ 1000000000 → b.size ≤ 1000000000 →
    (∀ w', Below w0.heap.size w0 w' → R (.returned (.int .i64 (cmpF n a b))) w') → Goes EN (layOwn [] []) w0 cs0 88 R (layVal []) (SM.at (hdN a b) 6 [])
  | 0, a, b, hn, _, _, _ => by omega
  | n + 1, a, b, hn, ha, hb, hR => by
    have sl : (⟨⟨[47]⟩⟩ : ByteArray) = slash := rfl
    have go : ∀ {o v}, Due (endsV EN 88 300 (SM.at (hdN a b) 6 []) o v) → v = .int .i64 (cmpF (n + 1) a b) → Goes EN (layOwn [] []) w0 cs0 88 R (layVal []) (SM.at (hdN a b) 6 []) := fun hd e =>
      goes_due (KN h) not_laid hd fun w' hw => by rw [e]; exact hR _ hw
    by_cases he : (cA a).data.toList = (cA b).data.toList
    · have hq : ((cA a).data.toList == (cA b).data.toList) = true := beq_iff_eq.2 he
      cases ma : cM a
      · cases mb : cM b
        · refine go (o := (ff [0, 1, 2] false ++ ff [3, 4, 5, 6] true ++ ff [7] false ++ ff [8] false)) (v := .int .i64 0) ⟨?_⟩ (by simp [cmpF, he, ma, mb, atN])
          rw [n4]
          simp [Owed, tlB, hq, ma, mb, ha, hb, sl]
          rfl
        · refine go (o := (ff [0, 1, 2] false ++ ff [3, 4, 5, 6] true ++ ff [7] false ++ ff [8] true)) (v := .int .i64 (-1)) ⟨?_⟩ (by simp [cmpF, he, ma, mb, atN])
          rw [n2]
          simp [Owed, tlB, hq, ma, mb, ha, hb, sl]
          rfl
      · cases mb : cM b
        · refine go (o := (ff [0, 1, 2, 3, 4, 5] false ++ ff [6, 7] true ++ ff [8] false)) (v := .int .i64 1) ⟨?_⟩ (by simp [cmpF, he, ma, mb, atN])
          rw [n5]
          simp [Owed, tlB, hq, ma, mb, ha, hb, sl]
          rfl
        · refine Goes.reach (KN h) (k := 1) (n := 60) (o := ff (List.range 40) false) (ren := []) (eqs := []) ?_ (by kernel_rfl) (fun i b h => by cases i <;> cases h) (l := []) (loopN h n (cB a) (cB b) (by have := cB_lt a ma; omega) (Nat.le_trans (cB_size a) ha) (Nat.le_trans (cB_size b) hb) fun w' hw => by
            have := hR w' hw
            have e : cmpF (n + 1) a b = cmpF n (cB a) (cB b) := by simp [cmpF, he, ma, mb]
            rwa [e] at this)
          rw [n3]
          simp [Owed, tlB, hq, ma, mb, ha, hb, sl]
    · have hq : ((cA a).data.toList == (cA b).data.toList) = false := beq_eq_false_iff_ne.2 he
      refine go (o := ff (List.range 40) true) (v := .int .i64 (cmpS (cA a) (cA b))) ⟨?_⟩ (by simp [cmpF, he])
      rw [n1]
      simp [Owed, tlB, hq, ha, hb, sl]
theorem cmp_ok : PureOK Tryz.prog MX (88, cmpPS) := by
  refine .mk ⟨_, Tryz.func88, by kernel_rfl, by kernel_rfl⟩ fun args v p h hp w hX => ?_
  dsimp only [cmpPS] at h
  split at h
  · rename_i a b
    cases h
    refine (calls_bare (E := EN) rfl rfl (Q := fun v => v = .int .i64 (cmpN a b)) (args := [.v (.string a), .v (.string b)]) (a := [.string a, .string b]) w (S0 := entE EN 88 [.v (.string a), .v (.string b)]) (by kernel_rfl) (VRL.cons (VR.v_iff.2 rfl) (VRL.cons (VR.v_iff.2 rfl) VRL.nil)) fun cs0 => ?_).mono fun e w' ⟨h1, u, h2, h3⟩ => ⟨h1, by rw [h2, h3]⟩
    refine Goes.reach (KN hX) (k := 1) (n := 60) (o := [(1000, .b true)]) (ren := []) (eqs := []) (F := hdN a b) (d := 6) (l := []) ?_ (by kernel_rfl) (fun i b h => by cases i <;> cases h) (loopN hX (a.size + 1) a b (by omega) hp.1 hp.2 fun w' hw => ⟨hw, _, rfl, rfl⟩)
    rw [n0]; simp [Owed]
  · cases h
end paths
end Go.Proofs.YtiggmgcnjmalfaaGreatDoor
namespace Go.Proofs.YtiggmgcnjmalfaaGreatDoor
open Go Go.Rx Go.RowKit Go.Proofs
set_option linter.unusedVariables false
set_option linter.unusedSimpArgs false
set_option maxRecDepth 100000
namespace paths
theorem l0 (a b : Int) (v : Value) : endsV EN0 141 300 (entE EN0 141 [.v (.int .i64 a), .v (.int .i64 b)]) (ff [0] true) v = [
  Value.int IntKind.i64 (-1 : Int) = v,
  decide (a < b) = true] := by kernel_rfl
theorem l1 (a b : Int) (v : Value) : endsV EN0 141 300 (entE EN0 141 [.v (.int .i64 a), .v (.int .i64 b)]) (ff [0] false ++ ff [1] true) v = [
  Value.int IntKind.i64 (1 : Int) = v,
  decide (a > b) = true,
  decide (a < b) = false] := by kernel_rfl
theorem l2 (a b : Int) (v : Value) : endsV EN0 141 300 (entE EN0 141 [.v (.int .i64 a), .v (.int .i64 b)]) (ff [0, 1] false) v = [
  Value.int IntKind.i64 (0 : Int) = v,
  decide (a > b) = false,
  decide (a < b) = false] := by kernel_rfl
def lessN (a b : Int) : Int := if a < b then -1 else if b < a then 1 else 0
def lessPS : PS := fun args => match args with | [.int .i64 a, .int .i64 b] => some (.int .i64 (lessN a b), True) | _ => none
noncomputable def EB : Env := EP [(141, lessPS)] []
noncomputable def todoB : List SI := todoL EB 2 60 (entE EB 140 [.v (.string ⟨#[]⟩), .v (.string ⟨#[]⟩)]) []
noncomputable def hdB (a b : ByteArray) (i : Int) : SF := { fn := 140, tm := tmOf 37 6 ([.v (.string a), .v (.string b), .junk, .junk, .junk, .v (.int .i64 i)] ++ List.replicate 31 .junk), todo := todoB, defers := [], ret := false, kind := .normal, ro := none }
theorem b0 (a b : ByteArray) : reach EB 2 60 (entE EB 140 [.v (.string a), .v (.string b)]) [(1000, .b true)] [] [] (hdB a b 0) 6 [] = [
  Value.string a = Value.string a,
  Value.string b = Value.string b,
  Value.int IntKind.i64 (0 : Int) = Value.int IntKind.i64 (0 : Int)] := by kernel_rfl
theorem b1 (a b : ByteArray) (i i' : Int) : reach EB 2 100 (SM.at (hdB a b i) 6 []) (ff (List.range 7) true ++ ff (List.range 40) false) [] [] (hdB a b i') 6 [] = [
  Value.string a = Value.string a,
  Value.string b = Value.string b,
  Value.int IntKind.i64 (IntKind.i64.wrap (i + (1 : Int))) = Value.int IntKind.i64 i',
  decide ((↑(a.data.getD i.toNat (0 : UInt8)).toNat : Int) > (↑(b.data.getD i.toNat (0 : UInt8)).toNat : Int)) = false,
  inRange i b.size = true,
  inRange i a.size = true,
  decide ((↑(a.data.getD i.toNat (0 : UInt8)).toNat : Int) < (↑(b.data.getD i.toNat (0 : UInt8)).toNat : Int)) = false,
  inRange i b.size = true,
  inRange i a.size = true,
  decide (i < (↑b.size : Int)) = true,
  decide (i < (↑a.size : Int)) = true,
  decide (i < (↑a.size : Int)) = true,
  decide (i < (↑a.size : Int)) = true,
  decide (i < (↑a.size : Int)) = true,
  decide (i < (↑a.size : Int)) = true] := by kernel_rfl
theorem b2 (a b : ByteArray) (i : Int) (v : Value) : endsV EB 140 100 (SM.at (hdB a b i) 6 []) (ff (List.range 40) true) v = [
  Value.int IntKind.i64 (-1 : Int) = v,
  decide ((↑(a.data.getD i.toNat (0 : UInt8)).toNat : Int) < (↑(b.data.getD i.toNat (0 : UInt8)).toNat : Int)) = true,
  inRange i b.size = true,
  inRange i a.size = true,
  decide (i < (↑b.size : Int)) = true,
  decide (i < (↑a.size : Int)) = true,
  decide (i < (↑a.size : Int)) = true,
  decide (i < (↑a.size : Int)) = true,
  decide (i < (↑a.size : Int)) = true,
  decide (i < (↑a.size : Int)) = true] := by kernel_rfl
theorem b3 (a b : ByteArray) (i : Int) (v : Value) : endsV EB 140 100 (SM.at (hdB a b i) 6 []) (ff (List.range 8) true ++ ff [8] false ++ ff (List.range 40) true) v = [
  Value.int IntKind.i64 (1 : Int) = v,
  decide ((↑(a.data.getD i.toNat (0 : UInt8)).toNat : Int) > (↑(b.data.getD i.toNat (0 : UInt8)).toNat : Int)) = true,
  inRange i b.size = true,
  inRange i a.size = true,
  decide ((↑(a.data.getD i.toNat (0 : UInt8)).toNat : Int) < (↑(b.data.getD i.toNat (0 : UInt8)).toNat : Int)) = false,
  inRange i b.size = true,
  inRange i a.size = true,
  decide (i < (↑b.size : Int)) = true,
  decide (i < (↑a.size : Int)) = true,
  decide (i < (↑a.size : Int)) = true,
  decide (i < (↑a.size : Int)) = true,
  decide (i < (↑a.size : Int)) = true,
  decide (i < (↑a.size : Int)) = true] := by kernel_rfl
theorem b4 (a b : ByteArray) (i : Int) (v : Value) : endsV EB 140 100 (SM.at (hdB a b i) 6 []) (ff (List.range 40) false) v = [
  Value.int IntKind.i64 (lessN (↑a.size : Int) (↑b.size : Int)) = v,
  True,
  false = false,
  decide (i < (↑a.size : Int)) = false,
  decide (i < (↑a.size : Int)) = false,
  decide (i < (↑a.size : Int)) = false,
  decide (i < (↑a.size : Int)) = false,
  decide (i < (↑a.size : Int)) = false] := by kernel_rfl
theorem b5 (a b : ByteArray) (i : Int) (v : Value) : endsV EB 140 100 (SM.at (hdB a b i) 6 []) (ff [0, 1, 2, 3, 4] true ++ ff (List.range 40) false) v = [
  Value.int IntKind.i64 (lessN (↑a.size : Int) (↑b.size : Int)) = v,
  True,
  decide (i < (↑b.size : Int)) = false,
  decide (i < (↑a.size : Int)) = true,
  decide (i < (↑a.size : Int)) = true,
  decide (i < (↑a.size : Int)) = true,
  decide (i < (↑a.size : Int)) = true,
  decide (i < (↑a.size : Int)) = true] := by kernel_rfl
noncomputable def EK : Env := EP [] []
noncomputable def todoK : List SI := todoL EK 2 60 (entE EK 139 [.v (.string ⟨#[]⟩)]) []
noncomputable def hdK (p : ByteArray) (x : SV) (i : Int) : SF := { fn := 139, tm := tmOf 37 6 ([.v (.string p), .junk, .junk, x, .v (.int .i64 i)] ++ List.replicate 32 .junk), todo := todoK, defers := [], ret := false, kind := .normal, ro := none }
def one (s : ByteArray) : List (Option (SO × Bool)) := [some (.row [.v (.string s)] 9 (0, 0) none, true)]
def many (l : List SV) : List (Option (SO × Bool)) := [some (.row l 9 (0, 0) (some 1), true)]
theorem k0 (p : ByteArray) : reach EK 2 60 (entE EK 139 [.v (.string p)]) [(1000, .b true)] [(0, 0)] [] (hdK p (.sl 0 0 1 (some 1)) 0) 6 (one ⟨#[]⟩) = [
  Value.string p = Value.string p,
  (0 : Nat) = (0 : Nat) ∧ (1 : Nat) = (1 : Nat) ∧ some (1 : Nat) = some (1 : Nat),
  Value.int IntKind.i64 (0 : Int) = Value.int IntKind.i64 (0 : Int),
  Value.string { data := { toList := [] : Array UInt8 } : ByteArray } =
   Value.string { data := { toList := [] : Array UInt8 } : ByteArray }] := by kernel_rfl
theorem k1 (p s s' : ByteArray) (i i' : Int) : reach EK 2 100 (SM.at (hdK p (.sl 0 0 1 (some 1)) i) 6 (one s)) (ff [0] true ++ ff (List.range 40) false) [(0, 0)] [] (hdK p (.sl 0 0 1 (some 1)) i') 6 (one s') = [
  Value.string p = Value.string p,
  (0 : Nat) = (0 : Nat) ∧ (1 : Nat) = (1 : Nat) ∧ some (1 : Nat) = some (1 : Nat),
  Value.int IntKind.i64 (IntKind.i64.wrap (i + (1 : Int))) = Value.int IntKind.i64 i',
  Value.string (s ++ p.extract i.toNat (IntKind.i64.wrap (i + (1 : Int))).toNat) = Value.string s',
  true = true,
  (s.size + (p.extract i.toNat (IntKind.i64.wrap (i + (1 : Int))).toNat).size).le (9223372036854775807 : Nat),
  decide ((0 : Int) ≤ i ∧ i ≤ (↑(IntKind.i64.wrap (i + (1 : Int))).toNat : Int)) = true,
  decide ((0 : Int) ≤ IntKind.i64.wrap (i + (1 : Int)) ∧ IntKind.i64.wrap (i + (1 : Int)) ≤ (↑p.size : Int)) = true,
  true = true,
  ((↑(p.data.getD i.toNat (0 : UInt8)).toNat : Int) == (47 : Int)) = false,
  inRange i p.size = true,
  decide (i < (↑p.size : Int)) = true] := by kernel_rfl
theorem k2 (p s : ByteArray) (i i' : Int) (l' : List SV) : reach EK 2 100 (SM.at (hdK p (.sl 0 0 1 (some 1)) i) 6 (one s)) (ff [0, 1, 2] true) [(0, 2)] [0] (hdK p (.sl 0 0 2 none) i') 6 (many l') = [
  Value.string p = Value.string p,
  (0 : Nat) = (0 : Nat) ∧ (2 : Nat) = (2 : Nat) ∧ (none : Option Nat) = none,
  Value.int IntKind.i64 (IntKind.i64.wrap (i + (1 : Int))) = Value.int IntKind.i64 i',
  List.take (1 : Nat) (List.drop (0 : Nat) [SV.v (Value.string s)]) ++
   List.take (1 : Nat)
   (List.drop (0 : Nat)
   (splice
   (List.replicate (1 : Nat)
   (List.map SV.v
   { toList := [Value.string { data := { toList := [] : Array UInt8 } : ByteArray }] :
   Array Value }.toList)).flatten
   (0 : Nat) [SV.v (Value.string { data := { toList := [] : Array UInt8 } : ByteArray })])) =
   l',
  l'.all closedSV = true,
  ((↑(p.data.getD i.toNat (0 : UInt8)).toNat : Int) == (47 : Int)) = true,
  inRange i p.size = true,
  decide (i < (↑p.size : Int)) = true] := by kernel_rfl
theorem k3 (p s : ByteArray) (l l' : List SV) (n : Nat) (i i' : Int) : reach EK 2 100 (SM.at (hdK p (.sl 0 0 n none) i) 6 (many l)) (ff [0] true ++ ff [2] false ++ [(4, .cells [.v (.string s)]), (9, .put)]) [(0, 0)] [0] (hdK p (.sl 0 0 n none) i') 6 (many l') = [
  Value.string p = Value.string p,
  (0 : Nat) = (0 : Nat) ∧ n = n ∧ (none : Option Nat) = none,
  Value.int IntKind.i64 (IntKind.i64.wrap (i + (1 : Int))) = Value.int IntKind.i64 i',
  splice l ((0 : Nat) + (IntKind.i64.wrap ((↑n : Int) - (1 : Int))).toNat * (1 : Nat))
   [SV.v (Value.string (s ++ p.extract i.toNat (IntKind.i64.wrap (i + (1 : Int))).toNat))] =
   l',
  l'.all closedSV = true,
  (0 : Nat) + (IntKind.i64.wrap ((↑n : Int) - (1 : Int))).toNat * (1 : Nat) +
   [SV.v (Value.string (s ++ p.extract i.toNat (IntKind.i64.wrap (i + (1 : Int))).toNat))].length ≤
   l.length ∧
   fzOk ((0 : Nat), (0 : Nat)) ((0 : Nat) + (IntKind.i64.wrap ((↑n : Int) - (1 : Int))).toNat * (1 : Nat))
   [SV.v (Value.string (s ++ p.extract i.toNat (IntKind.i64.wrap (i + (1 : Int))).toNat))].length =
   true,
  inRange (IntKind.i64.wrap ((↑n : Int) - (1 : Int))) n = true,
  (s.size + (p.extract i.toNat (IntKind.i64.wrap (i + (1 : Int))).toNat).size).le (9223372036854775807 : Nat),
  decide ((0 : Int) ≤ i ∧ i ≤ (↑(IntKind.i64.wrap (i + (1 : Int))).toNat : Int)) = true,
  decide ((0 : Int) ≤ IntKind.i64.wrap (i + (1 : Int)) ∧ IntKind.i64.wrap (i + (1 : Int)) ≤ (↑p.size : Int)) = true,
  l[(0 : Nat) + (IntKind.i64.wrap ((↑n : Int) - (1 : Int))).toNat * (1 : Nat)]? = some (SV.v (Value.string s)),
  inRange (IntKind.i64.wrap ((↑n : Int) - (1 : Int))) n = true,
  ((↑(p.data.getD i.toNat (0 : UInt8)).toNat : Int) == (47 : Int)) = false,
  inRange i p.size = true,
  decide (i < (↑p.size : Int)) = true] := by kernel_rfl
theorem k4 (p : ByteArray) (l l' w : List SV) (n : Nat) (i i' : Int) : reach EK 2 100 (SM.at (hdK p (.sl 0 0 n none) i) 6 (many l)) (ff [0, 1, 2] true ++ [(3, .app l w)]) [(0, 2)] [0] (hdK p (.sl 0 0 (n + 1) none) i') 6 (many l') = [
  Value.string p = Value.string p,
  (0 : Nat) = (0 : Nat) ∧ n + (1 : Nat) = n + (1 : Nat) ∧ (none : Option Nat) = none,
  Value.int IntKind.i64 (IntKind.i64.wrap (i + (1 : Int))) = Value.int IntKind.i64 i',
  l ++ w = l',
  l'.all closedSV = true,
  ((List.take (1 : Nat)
   (List.drop (0 : Nat)
   (splice
   (List.replicate (1 : Nat)
   (List.map SV.v
   { toList := [Value.string { data := { toList := [] : Array UInt8 } : ByteArray }] :
   Array Value }.toList)).flatten
   (0 : Nat) [SV.v (Value.string { data := { toList := [] : Array UInt8 } : ByteArray })])) =
   w ∧
   w.length = (1 : Nat) * (1 : Nat)) ∧
   (1 : Nat) ≠ (0 : Nat) ∧ ((2 : Nat) * (n + (1 : Nat)) + (1024 : Nat)) * (16 : Nat) ≤ (140737488355328 : Nat)) ∧
   List.take (n * (1 : Nat)) l = l ∧ l.length = n * (1 : Nat) ∧ w.all SV.flat = true,
  ((↑(p.data.getD i.toNat (0 : UInt8)).toNat : Int) == (47 : Int)) = true,
  inRange i p.size = true,
  decide (i < (↑p.size : Int)) = true] := by kernel_rfl
theorem k5 (p s : ByteArray) (i : Int) : endsO EK 139 100 (SM.at (hdK p (.sl 0 0 1 (some 1)) i) 6 (one s)) (ff [0] false) (.sl 0 0 1 (some 1)) 0 (.row [.v (.string s)] 9 (0, 0) none) = [
  (0 : Nat) = (0 : Nat) ∧ (1 : Nat) = (1 : Nat) ∧ some (1 : Nat) = some (1 : Nat),
  [SV.v (Value.string s)] = [SV.v (Value.string s)],
  [SV.v (Value.string s)].all closedSV = true,
  decide (i < (↑p.size : Int)) = false] := by kernel_rfl
theorem k6 (p : ByteArray) (l : List SV) (n : Nat) (i : Int) : endsO EK 139 100 (SM.at (hdK p (.sl 0 0 n none) i) 6 (many l)) (ff [0] false) (.sl 0 0 n none) 0 (.row l 9 (0, 0) (some 1)) = [
  (0 : Nat) = (0 : Nat) ∧ n = n ∧ (none : Option Nat) = none,
  l = l,
  l.all closedSV = true,
  decide (i < (↑p.size : Int)) = false] := by kernel_rfl
end paths
end Go.Proofs.YtiggmgcnjmalfaaGreatDoor
namespace Go.Proofs.YtiggmgcnjmalfaaGreatDoor
open Go Go.Rx Go.RowKit Go.Proofs
set_option linter.unusedVariables false
set_option linter.unusedSimpArgs false
set_option maxRecDepth 100000
namespace paths
theorem no_name {i : Nat} {b : Nat × Nat} {p : Prop} (h : layVal [] i = some b) : p := by cases i <;> cases h
theorem wi {x : Int} (h : -9223372036854775808 ≤ x ∧ x ≤ 9223372036854775807) : IntKind.i64.wrap x = x := IntWalk.i64_in _ h
theorem less_ok : PureOK Tryz.prog (fun _ => True) (141, lessPS) := by
  refine .mk ⟨_, Tryz.func141, by kernel_rfl, by kernel_rfl⟩ fun args v p h hp w hX => ?_
  dsimp only [lessPS] at h
  split at h
  · rename_i a b
    cases h
    have go : ∀ {o v}, Due (endsV EN0 141 300 (entE EN0 141 [.v (.int .i64 a), .v (.int .i64 b)]) o v) → v = .int .i64 (lessN a b) → Calls Tryz.prog 141 #[.int .i64 a, .int .i64 b] w fun e w' => Below w.heap.size w w' ∧ e = .returned (.int .i64 (lessN a b)) := fun h e =>
      e ▸ calls_endsV (E := EN0) (args := [.v (.int .i64 a), .v (.int .i64 b)]) (a := [.int .i64 a, .int .i64 b]) rfl rfl KN0 (by kernel_rfl) (VRL.cons (VR.v_iff.2 rfl) (VRL.cons (VR.v_iff.2 rfl) VRL.nil)) h
    by_cases h1 : a < b
    · exact go (o := ff [0] true) (v := .int .i64 (-1)) ⟨by rw [l0]; simp [Owed, h1]⟩ (by simp [lessN, h1])
    · by_cases h2 : b < a
      · exact go (o := ff [0] false ++ ff [1] true) (v := .int .i64 1) ⟨by rw [l1]; exact ⟨⟨⟨trivial, decide_eq_false h1⟩, decide_eq_true h2⟩, rfl⟩⟩ (by simp [lessN, h1, h2])
      · exact go (o := ff [0, 1] false) (v := .int .i64 0) ⟨by rw [l2]; exact ⟨⟨⟨trivial, decide_eq_false h1⟩, decide_eq_false h2⟩, rfl⟩⟩ (by simp [lessN, h1, h2])
  · cases h
/-- How two rows of bytes stand. -/
def lexN : List UInt8 → List UInt8 → Int
  | [], [] => 0
  | [], _ :: _ => -1
  | _ :: _, [] => 1
  | x :: xs, y :: ys => if x < y then -1 else if y < x then 1 else lexN xs ys
def bytesN (a b : ByteArray) : Int := lexN a.data.toList b.data.toList
def bytesPS : PS := fun args => match args with | [.string a, .string b] => some (.int .i64 (bytesN a b), a.size ≤ 1000000000 ∧ b.size ≤ 1000000000) | _ => none
theorem KB {M : Own} {w0 : World} : Facts EB M w0 := factsP0 fun r h => by
  rw [List.mem_singleton.1 h]; exact less_ok
theorem drop_getD {a : ByteArray} {i : Nat} (h : i < a.size) : a.data.toList.drop i = a.data.getD i 0 :: a.data.toList.drop (i + 1) := by
  have h' : i < a.data.toList.length := by simpa using h
  rw [List.drop_eq_getElem_cons h']
  congr 1
  rw [Array.getD, dif_pos (show i < a.data.size from h)]
  simp
theorem wrap_succ {k : Nat} (h : k ≤ 1000000000) : IntKind.i64.wrap ((k : Int) + 1) = ((k + 1 : Nat) : Int) := by
  rw [wi (by omega)]; simp
theorem in_range {k n : Nat} (h : k < n) : inRange (k : Int) n = true := by unfold inRange; exact decide_eq_true (by omega)
theorem loopB {w0 : World} {cs0 : List Frame} {R : Ending → World → Prop} {a b : ByteArray} (ha : a.size ≤ 1000000000) (hb : b.size ≤ 1000000000) : ∀ (j i : Nat), i + j = a.size → i ≤ b.size →
    (∀ w', Below w0.heap.size w0 w' → R (.returned (.int .i64 (lexN (a.data.toList.drop i) (b.data.toList.drop i)))) w') → Goes EB (layOwn [] []) w0 cs0 140 R (layVal []) (SM.at (hdB a b i) 6 [])
  | j, i, hj, hib, hR => by
    have go : ∀ {o v}, Due (endsV EB 140 100 (SM.at (hdB a b i) 6 []) o v) → v = .int .i64 (lexN (a.data.toList.drop i) (b.data.toList.drop i)) → Goes EB (layOwn [] []) w0 cs0 140 R (layVal []) (SM.at (hdB a b i) 6 []) := fun hd e =>
      goes_due KB not_laid hd fun w' hw => by rw [e]; exact hR _ hw
    have la : a.data.toList.length = a.size := by simp
    have lb : b.data.toList.length = b.size := by simp
    by_cases h1 : i < a.size
    · by_cases h2 : i < b.size
      · have da := drop_getD h1
        have db := drop_getD h2
        have t1 : decide ((i : Int) < (a.size : Int)) = true := decide_eq_true (by omega)
        have t2 : decide ((i : Int) < (b.size : Int)) = true := decide_eq_true (by omega)
        have r1 := in_range h1
        have r2 := in_range h2
        have lt_iff : ∀ x y : UInt8, (x < y) ↔ ((x.toNat : Int) < (y.toNat : Int)) := fun x y => by rw [UInt8.lt_iff_toNat_lt]; omega
        by_cases c1 : (a.data.getD i 0) < (b.data.getD i 0)
        · refine go (o := ff (List.range 40) true) (v := .int .i64 (-1)) ⟨?_⟩ (by rw [da, db]; unfold lexN; rw [if_pos c1])
          rw [b2]
          have c1' := decide_eq_true ((lt_iff _ _).1 c1)
          simp only [Owed, Int.toNat_natCast, t1, t2, r1, r2, c1', and_self]
        · have c1' := decide_eq_false (fun h => c1 ((lt_iff _ _).2 h))
          by_cases c2 : (b.data.getD i 0) < (a.data.getD i 0)
          · refine go (o := ff (List.range 8) true ++ ff [8] false ++ ff (List.range 40) true) (v := .int .i64 1) ⟨?_⟩ (by rw [da, db]; unfold lexN; rw [if_neg c1, if_pos c2])
            rw [b3]
            have c2' : decide (((a.data.getD i 0).toNat : Int) > ((b.data.getD i 0).toNat : Int)) = true := decide_eq_true ((lt_iff _ _).1 c2)
            simp only [Owed, Int.toNat_natCast, t1, t2, r1, r2, c1', c2', and_self]
          · have c2' : decide (((a.data.getD i 0).toNat : Int) > ((b.data.getD i 0).toNat : Int)) = false := decide_eq_false (fun h => c2 ((lt_iff _ _).2 h))
            match j, hj with
            | 0, hj => omega
            | j + 1, hj =>
              refine Goes.reach KB (k := 2) (n := 100) (o := ff (List.range 7) true ++ ff (List.range 40) false) (ren := []) (eqs := []) ?_ (by kernel_rfl) (fun i b h => no_name h) (l := []) (loopB ha hb j (i + 1) (by omega) (by omega) fun w' hw => by
                have e : lexN (a.data.toList.drop i) (b.data.toList.drop i) = lexN (a.data.toList.drop (i + 1)) (b.data.toList.drop (i + 1)) := by
                  rw [da, db]; conv => lhs; unfold lexN
                  rw [if_neg c1, if_neg c2]
                exact e ▸ hR w' hw)
              rw [b1]
              simp only [Owed, Int.toNat_natCast, t1, t2, r1, r2, c1', c2', and_self, wrap_succ (show i ≤ 1000000000 by omega)]
      · have hi : i = b.size := by omega
        have t1 : decide ((i : Int) < (a.size : Int)) = true := decide_eq_true (by omega)
        have t2 : decide ((i : Int) < (b.size : Int)) = false := decide_eq_false (by omega)
        refine go (o := (ff [0, 1, 2, 3, 4] true ++ ff (List.range 40) false)) (v := .int .i64 (lessN a.size b.size)) ⟨?_⟩ ?_
        · rw [b5]
          simp only [Owed, t1, t2, and_self]
        · rw [drop_getD h1, List.drop_eq_nil_of_le (by omega : b.data.toList.length ≤ i)]
          have : lessN (a.size : Int) (b.size : Int) = 1 := by unfold lessN; rw [if_neg (by omega), if_pos (by omega)]
          rw [this]; rfl
    · have hi : i = a.size := by omega
      have t1 : decide ((i : Int) < (a.size : Int)) = false := decide_eq_false (by omega)
      refine go (o := ff (List.range 40) false) (v := .int .i64 (lessN a.size b.size)) ⟨?_⟩ ?_
      · rw [b4]
        simp only [Owed, t1, and_self]
      · rw [List.drop_eq_nil_of_le (by omega : a.data.toList.length ≤ i)]
        by_cases h2 : i < b.size
        · rw [drop_getD h2]
          have : lessN (a.size : Int) (b.size : Int) = -1 := by unfold lessN; rw [if_pos (by omega)]
          rw [this]; rfl
        · rw [List.drop_eq_nil_of_le (by omega : b.data.toList.length ≤ i)]
          have : lessN (a.size : Int) (b.size : Int) = 0 := by unfold lessN; rw [if_neg (by omega), if_neg (by omega)]
          rw [this]; rfl
theorem bytes_ok : PureOK Tryz.prog (fun _ => True) (140, bytesPS) := by
  refine .mk ⟨_, Tryz.func140, by kernel_rfl, by kernel_rfl⟩ fun args v p h hp w hX => ?_
  dsimp only [bytesPS] at h
  split at h
  · rename_i a b
    cases h
    refine (calls_bare (E := EB) rfl rfl (Q := fun v => v = .int .i64 (bytesN a b)) (args := [.v (.string a), .v (.string b)]) (a := [.string a, .string b]) w (S0 := entE EB 140 [.v (.string a), .v (.string b)]) (by kernel_rfl) (VRL.cons (VR.v_iff.2 rfl) (VRL.cons (VR.v_iff.2 rfl) VRL.nil)) fun cs0 => ?_).mono fun e w' ⟨h1, u, h2, h3⟩ => ⟨h1, by rw [h2, h3]⟩
    refine Goes.reach KB (k := 2) (n := 60) (o := [(1000, .b true)]) (ren := []) (eqs := []) (F := hdB a b 0) (d := 6) (l := []) ?_ (by kernel_rfl) (fun i b h => no_name h) (loopB hp.1 hp.2 a.size 0 (by omega) (by omega) fun w' hw => ⟨hw, _, rfl, rfl⟩)
    rw [b0]; simp [Owed]
  · cases h
end paths
end Go.Proofs.YtiggmgcnjmalfaaGreatDoor
namespace Go.Proofs.YtiggmgcnjmalfaaGreatDoor
open Go Go.Rx Go.RowKit Go.Proofs
set_option linter.unusedVariables false
set_option linter.unusedSimpArgs false
set_option maxRecDepth 100000
namespace paths
def mk (l : List UInt8) : ByteArray := ⟨l.toArray⟩
theorem mk_of (b : ByteArray) : mk b.data.toList = b := by cases b; simp [mk]
theorem mk_app (a b : List UInt8) : mk a ++ mk b = mk (a ++ b) := by
  apply ByteArray.ext
  simp [mk]
theorem mk_size (l : List UInt8) : (mk l).size = l.length := rfl
theorem extract_one (p : ByteArray) (k : Nat) (h : k < p.size) : p.extract k (k + 1) = mk [p.data.getD k 0] := by
  apply ByteArray.ext
  have h' : k < p.data.toList.length := by simpa using h
  have e : (p.data.toList.drop k).take 1 = [p.data.getD k 0] := by rw [drop_getD h]; rfl
  have e2 : p.data.toList.toArray = p.data := by simp
  simp only [mk, ByteArray.data_extract]
  rw [← e2, List.extract_toArray, List.extract_eq_take_drop, show k + 1 - k = 1 by omega, e]
theorem partsL_snoc : ∀ (l : List UInt8) (b : UInt8) (init : List (List UInt8)) (last : List UInt8), partsL l = init ++ [last] → partsL (l ++ [b]) = if b = 47 then init ++ [last, []] else init ++ [last ++ [b]]
  | [], b, init, last, h => by
    have h' : ([[]] : List (List UInt8)) = init ++ [last] := h
    have : init = [] ∧ last = [] := by
      cases init with
      | nil => simp at h'; exact ⟨rfl, h'⟩
      | cons x xs => simp at h'
    obtain ⟨rfl, rfl⟩ := this
    by_cases hb : b = 47 <;> simp [partsL, hb]
  | c :: l, b, init, last, h => by
    by_cases hc : c = 47
    · subst hc
      have e1 : partsL (47 :: l) = [] :: partsL l := by simp [partsL]
      have e2 : partsL (47 :: l ++ [b]) = [] :: partsL (l ++ [b]) := by simp [partsL]
      rw [e1] at h
      cases init with
      | nil =>
        simp at h
        exact absurd h.2 (partsL_ne l)
      | cons x xs =>
        rw [List.cons_append, List.cons.injEq] at h
        obtain ⟨rfl, h⟩ := h
        rw [e2, partsL_snoc l b xs last h]
        split <;> simp
    · have step : ∀ m : List UInt8, ∀ x xs, partsL m = x :: xs → partsL (c :: m) = (c :: x) :: xs := fun m x xs hm => by
        conv => lhs; unfold partsL
        rw [if_neg hc, hm]
      cases hp : partsL l with
      | nil => exact absurd hp (partsL_ne l)
      | cons x xs =>
        rw [step l x xs hp] at h
        cases init with
        | nil =>
          rw [List.nil_append, List.cons.injEq] at h
          obtain ⟨rfl, rfl⟩ := h
          have ih := partsL_snoc l b [] x (by rw [hp]; rfl)
          by_cases hb : b = 47
          · rw [if_pos hb] at ih ⊢
            rw [List.cons_append, step _ x [[]] ih]; rfl
          · rw [if_neg hb] at ih ⊢
            rw [List.cons_append, step _ (x ++ [b]) [] ih]; rfl
        | cons z zs =>
          rw [List.cons_append, List.cons.injEq] at h
          obtain ⟨rfl, h⟩ := h
          have ih := partsL_snoc l b (x :: zs) last (by rw [hp, h]; rfl)
          by_cases hb : b = 47
          · rw [if_pos hb] at ih ⊢
            rw [List.cons_append, step _ x (zs ++ [last, []]) ih]; rfl
          · rw [if_neg hb] at ih ⊢
            rw [List.cons_append, step _ x (zs ++ [last ++ [b]]) ih]; rfl
theorem partsL_len : ∀ l : List UInt8, (partsL l).length ≤ l.length + 1 ∧ ∀ x ∈ partsL l, x.length ≤ l.length
  | [] => by simp [partsL]
  | c :: l => by
    obtain ⟨h1, h2⟩ := partsL_len l
    unfold partsL
    split
    · refine ⟨by simp only [List.length_cons]; omega, fun x hx => ?_⟩
      rcases List.mem_cons.1 hx with rfl | hx
      · simp
      · have := h2 x hx; simp only [List.length_cons]; omega
    · cases hp : partsL l with
      | nil => exact absurd hp (partsL_ne l)
      | cons x xs =>
        rw [hp] at h1 h2
        refine ⟨by simp only [List.length_cons] at h1 ⊢; omega, fun y hy => ?_⟩
        rcases List.mem_cons.1 hy with rfl | hy
        · have := h2 x List.mem_cons_self; simp only [List.length_cons]; omega
        · have := h2 y (List.mem_cons_of_mem _ hy); simp only [List.length_cons]; omega
/-- Parts as cells. -/
def cP (l : List (List UInt8)) : List SV := l.map fun s => .v (.string (mk s))
theorem cP_app (a b : List (List UInt8)) : cP (a ++ b) = cP a ++ cP b := by simp [cP]
theorem cP_len (a : List (List UInt8)) : (cP a).length = a.length := by simp [cP]
theorem cP_closed (a : List (List UInt8)) : (cP a).all closedSV = true := by
  rw [List.all_eq_true]; intro x hx; obtain ⟨c, _, rfl⟩ := List.mem_map.1 hx; rfl
theorem cP_flat (a : List (List UInt8)) : (cP a).all SV.flat = true := by
  rw [List.all_eq_true]; intro x hx; obtain ⟨c, _, rfl⟩ := List.mem_map.1 hx; rfl
def vP (l : List (List UInt8)) : List Value := l.map fun s => .string (mk s)
theorem cP_val {ν : Val} : ∀ {l : List (List UInt8)} {zs : List Value}, VRL ν (cP l) zs → zs = vP l
  | [], zs, h => VRL.nil_inv h
  | s :: l, zs, h => by
    obtain ⟨z, zs', rfl, h1, h2⟩ := VRL.cons_inv (x := .v (.string (mk s))) (xs := cP l) h
    rw [VR.v_iff.1 h1, cP_val h2]; rfl
theorem splice_last : ∀ (a : List SV) (x y : SV), splice (a ++ [x]) a.length [y] = a ++ [y]
  | [], x, y => rfl
  | z :: a, x, y => by
    show z :: splice (a ++ [x]) a.length [y] = _
    rw [splice_last a x y]; rfl
theorem take_snocD (p : ByteArray) {k : Nat} (h : k < p.size) : p.data.toList.take (k + 1) = p.data.toList.take k ++ [p.data.getD k 0] := by
  have h' : k < p.data.toList.length := by simpa using h
  rw [List.take_succ_eq_append_getElem h']
  congr 2
  rw [Array.getD, dif_pos (show k < p.data.size from h)]; simp
theorem KK {M : Own} {w0 : World} : Facts EK M w0 := factsP0 fun r h => by cases h
theorem eq47 (x : UInt8) : (((x.toNat : Int)) == 47) = (x == 47) := by
  by_cases e : x = 47
  · rw [e]; rfl
  · rw [beq_eq_false_iff_ne.2 e, beq_eq_false_iff_ne.2 fun h => e (UInt8.toNat_inj.1 (show x.toNat = 47 by omega))]
section
variable {w0 : World} {cs0 : List Frame} {R : Ending → World → Prop} {p : ByteArray}
/-- What comes of it. -/
def RK (w0 : World) (p : ByteArray) (e : Ending) (w' : World) : Prop := Below w0.heap.size w0 w' ∧ ∃ y, e = .returned y ∧ NewSl w0 w' y (vP (partsL p.data.toList)) (partsL p.data.toList).length 1 9
theorem below_ends {w0 w' : World} (h : ∃ ν1 M1 w1 s', Base (layOwn [] []) w0 M1 w1 ∧ HR ν1 M1 w1 s' w') : Below w0.heap.size w0 w' := by
  obtain ⟨_, _, _, _, hB, hr⟩ := h
  exact below_of not_laid hB hr
theorem new_ends {w0 : World} {b : Nat} (h : w0.heap.size ≤ b ∨ (layOwn [] []) b) : w0.heap.size ≤ b := by
  rcases h with h | h
  · exact h
  · exact absurd h (not_laid _)
theorem loopK2 (hp : p.size ≤ 1000000000) : ∀ (j i : Nat), i + j = p.size → ∀ (init : List (List UInt8)) (last : List UInt8), partsL (p.data.toList.take i) = init ++ [last] →
    Goes EK (layOwn [] []) w0 cs0 139 (RK w0 p) (layVal []) (SM.at (hdK p (.sl 0 0 (init.length + 1) none) i) 6 (many (cP (init ++ [last]))))
  | 0, i, hj, init, last, h => by
    have hl : p.data.toList.length = p.size := by simp
    rw [List.take_of_length_le (by omega)] at h
    refine Goes.endsO KK (n := 100) (o := ff [0] false) (x := .sl 0 0 (init.length + 1) none) (i := 0) (so := .row (cP (init ++ [last])) 9 (0, 0) (some 1)) ?_ fun ν' w' y b ob hv hb ho hor hw hB => ?_
    · rw [k6]
      simp only [Owed, cP_closed, and_true, and_self, true_and]
      exact decide_eq_false (by omega)
    · refine ⟨below_ends hB, y, rfl, ?_⟩
      rw [h, show (init ++ [last]).length = init.length + 1 by simp]
      exact NewSl.of_row hv hb ho hor (new_ends hw) fun zs hz => cP_val hz
  | j + 1, i, hj, init, last, h => by
    have hi : i < p.size := by omega
    have hs := partsL_snoc _ (p.data.getD i 0) init last h
    rw [← take_snocD p hi] at hs
    have t1 : decide ((i : Int) < (p.size : Int)) = true := decide_eq_true (by omega)
    have r1 := in_range hi
    have hlen := partsL_len (p.data.toList.take i)
    rw [h, List.length_append, List.length_take] at hlen
    have hll : p.data.toList.length = p.size := by simp
    have hn : init.length ≤ 1000000000 := by have := hlen.1; simp at this; omega
    have hlast : last.length ≤ 1000000000 := by have := hlen.2 last (by simp); omega
    have ws := wrap_succ (k := i) (by omega)
    have ws2 := wrap_succ (k := i) (by omega)
    by_cases hb : p.data.getD i 0 = 47
    · rw [if_pos hb] at hs
      have e2 : init ++ [last, []] = (init ++ [last]) ++ [[]] := by simp
      have nx := loopK2 hp j (i + 1) (by omega) (init ++ [last]) [] (by rw [hs, e2])
      have el : (init ++ [last]).length + 1 = init.length + 1 + 1 := by simp
      rw [el] at nx
      refine Goes.reach KK (k := 2) (n := 100) (o := ff [0, 1, 2] true ++ [(3, .app (cP (init ++ [last])) (cP [[]]))]) (ren := [(0, 2)]) (eqs := [0]) ?_ (by kernel_rfl) (fun i b h => no_name h) nx
      rw [k4]
      have hq : ((p.data.getD i 0).toNat : Int) == 47 := by rw [eq47, hb]; rfl
      simp only [Owed, Int.toNat_natCast, t1, r1, hq, cP_closed, cP_flat, cP_app, cP_len, ws, List.all_append, true_and, and_true, Nat.mul_one]
      repeat' apply And.intro
      all_goals first | rfl | (simp [cP]; done) | (simp [cP]; omega) | omega | exact List.take_of_length_le (by simp [cP]) | skip
    · rw [if_neg hb] at hs
      have nx := loopK2 hp j (i + 1) (by omega) init (last ++ [p.data.getD i 0]) hs
      refine Goes.reach KK (k := 2) (n := 100) (o := ff [0] true ++ ff [2] false ++ [(4, .cells [.v (.string (mk last))]), (9, .put)]) (ren := [(0, 0)]) (eqs := [0]) ?_ (by kernel_rfl) (fun i b h => no_name h) nx
      rw [k3]
      have hq : (((p.data.getD i 0).toNat : Int) == 47) = false := by rw [eq47]; exact beq_eq_false_iff_ne.2 hb
      have wn : IntKind.i64.wrap (((init.length + 1 : Nat) : Int) - 1) = (init.length : Int) := by rw [wi (by omega)]; omega
      have rn : inRange (init.length : Int) (init.length + 1) = true := in_range (Nat.lt_succ_self _)
      have g1 : (cP (init ++ [last]))[0 + init.length * 1]? = some (.v (.string (mk last))) := by simp [cP]
      have g2 : splice (cP (init ++ [last])) (0 + init.length * 1) [.v (.string (mk last ++ mk [p.data.getD i 0]))] = cP (init ++ [last ++ [p.data.getD i 0]]) := by
        have := splice_last (cP init) (.v (.string (mk last))) (.v (.string (mk last ++ mk [p.data.getD i 0])))
        rw [cP_len] at this
        rw [Nat.zero_add, Nat.mul_one, cP_app, mk_app] at *
        rw [cP_app]; exact this
      simp only [Owed, Int.toNat_natCast, t1, r1, hq, wn, rn, g1, ws, extract_one p i hi, g2, cP_closed, true_and, and_true, and_self]
      repeat' apply And.intro
      all_goals first | rfl | exact decide_eq_true (by omega) | (simp [cP]; done) | (simp [cP]; omega) | (rw [mk_size, mk_size]; exact Nat.le_of_ble_eq_true (by simp; omega)) | (show _ + _ ≤ _; rw [mk_size, mk_size]; simp; omega) | omega
theorem loopK1 (hp : p.size ≤ 1000000000) : ∀ (j i : Nat), i + j = p.size → ∀ (last : List UInt8), partsL (p.data.toList.take i) = [last] →
    Goes EK (layOwn [] []) w0 cs0 139 (RK w0 p) (layVal []) (SM.at (hdK p (.sl 0 0 1 (some 1)) i) 6 (one (mk last)))
  | 0, i, hj, last, h => by
    have hl : p.data.toList.length = p.size := by simp
    rw [List.take_of_length_le (by omega)] at h
    refine Goes.endsO KK (n := 100) (o := ff [0] false) (x := .sl 0 0 1 (some 1)) (i := 0) (so := .row [.v (.string (mk last))] 9 (0, 0) none) ?_ fun ν' w' y b ob hv hb ho hor hw hB => ?_
    · rw [k5]
      simp only [Owed, and_true, and_self, true_and]
      exact ⟨decide_eq_false (by omega), rfl⟩
    · refine ⟨below_ends hB, y, rfl, ?_⟩
      rw [h]
      exact NewSl.of_one hv hb ho hor (new_ends hw) (fun zs hz => cP_val (l := [last]) hz) rfl
  | j + 1, i, hj, last, h => by
    have hi : i < p.size := by omega
    have hs := partsL_snoc _ (p.data.getD i 0) [] last h
    rw [← take_snocD p hi] at hs
    have t1 : decide ((i : Int) < (p.size : Int)) = true := decide_eq_true (by omega)
    have r1 := in_range hi
    have hlen := partsL_len (p.data.toList.take i)
    rw [h, List.length_take] at hlen
    have hll : p.data.toList.length = p.size := by simp
    have hlast : last.length ≤ 1000000000 := by have := hlen.2 last (by simp); omega
    have ws := wrap_succ (k := i) (by omega)
    by_cases hb : p.data.getD i 0 = 47
    · rw [if_pos hb] at hs
      have nx := loopK2 (w0 := w0) (cs0 := cs0) hp j (i + 1) (by omega) [last] [] (by rw [hs]; rfl)
      refine Goes.reach KK (k := 2) (n := 100) (o := ff [0, 1, 2] true) (ren := [(0, 2)]) (eqs := [0]) ?_ (by kernel_rfl) (fun i b h => no_name h) nx
      rw [show ([last] : List (List UInt8)).length + 1 = 2 from rfl, k2]
      have hq : ((p.data.getD i 0).toNat : Int) == 47 := by rw [eq47, hb]; rfl
      simp only [Owed, Int.toNat_natCast, t1, r1, hq, cP_closed, ws, true_and, and_true]
      repeat' apply And.intro
      all_goals first | rfl | (simp [cP]; done) | (simp [cP]; omega) | omega | exact List.take_of_length_le (by simp [cP]) | skip
    · rw [if_neg hb] at hs
      have nx := loopK1 hp j (i + 1) (by omega) (last ++ [p.data.getD i 0]) hs
      refine Goes.reach KK (k := 2) (n := 100) (o := ff [0] true ++ ff (List.range 40) false) (ren := [(0, 0)]) (eqs := []) ?_ (by kernel_rfl) (fun i b h => no_name h) nx
      rw [k1]
      have hq : (((p.data.getD i 0).toNat : Int) == 47) = false := by rw [eq47]; exact beq_eq_false_iff_ne.2 hb
      simp only [Owed, Int.toNat_natCast, t1, r1, hq, ws, extract_one p i hi, mk_app, true_and, and_true, and_self]
      repeat' apply And.intro
      all_goals first | rfl | exact decide_eq_true (by omega) | exact (show (mk last).size + (mk [p.data.getD i 0]).size ≤ 9223372036854775807 by rw [mk_size, mk_size]; simp; omega) | omega
end
theorem list_take0 (p : ByteArray) : partsL (p.data.toList.take 0) = [[]] := rfl
/-- Cut of a text: its parts, in a new block. -/
def cutS : SlS := fun args => match args with | [.string p] => some (vP (partsL p.data.toList), (partsL p.data.toList).length, 1, 9, none, p.size ≤ 1000000000) | _ => none
theorem rcut_ok {X : World → Prop} : SumOK Tryz.prog X (139, slSum cutS) := by
  refine slSum_ok ⟨_, Tryz.func139, by kernel_rfl, by kernel_rfl⟩ fun vs ys n C elem ex p h hp w hX => ?_
  dsimp only [cutS] at h
  split at h
  · rename_i p
    cases h
    refine (calls_bareR (E := EK) (R := RK w p) rfl rfl (args := [.v (.string p)]) (a := [.string p]) (S0 := entE EK 139 [.v (.string p)]) (by kernel_rfl) (VRL.cons (VR.v_iff.2 rfl) VRL.nil) fun cs0 => ?_).mono fun e w' ⟨h1, y, h2, h3⟩ => ⟨h1, y, h2, h3⟩
    have nx := loopK1 (w0 := w) (cs0 := cs0) hp p.size 0 (by omega) [] rfl
    rw [show mk [] = ⟨#[]⟩ from rfl] at nx
    refine Goes.reach KK (k := 2) (n := 60) (o := [(1000, .b true)]) (ren := [(0, 0)]) (eqs := []) (F := hdK p (.sl 0 0 1 (some 1)) 0) (d := 6) (l := one ⟨#[]⟩) ?_ (by kernel_rfl) (fun i b h => no_name h) nx
    rw [k0]; simp only [Owed, and_self, and_true, true_and]
    repeat' apply And.intro
    all_goals rfl
  · cases h
end paths
end Go.Proofs.YtiggmgcnjmalfaaGreatDoor
namespace Go.Proofs.YtiggmgcnjmalfaaGreatDoor
open Go Go.Rx Go.RowKit Go.Proofs
set_option linter.unusedVariables false
set_option linter.unusedSimpArgs false
set_option maxRecDepth 100000
namespace paths
def lR : List (FuncId × Sum) := [(139, slSum cutS), (140, pureSum bytesPS), (141, pureSum lessPS)]
noncomputable def ER : Env := { EP [] [] with sums := fun f => lR.lookup f }
theorem KR {M : Own} {w0 : World} : Facts ER M w0 :=
  Facts.of' (Checked.mixed Tryz.checked) (by kernel_rfl) (ExtOK.of extL rfl extRows) (SumsOK.list (X := fun _ => True) (l := lR) rfl (fun r hr => by
    simp only [lR, List.mem_cons, List.not_mem_nil, or_false] at hr
    rcases hr with rfl | rfl | rfl
    · exact rcut_ok
    · exact SumOK.pure (r := (140, bytesPS)) bytes_ok
    · exact SumOK.pure (r := (141, lessPS)) less_ok) fun ν s w hr _ => trivial) (fun f g h => by cases h)
noncomputable def todoR : List SI := todoL ER 2 60 (entE ER 93 [.v (.string ⟨#[]⟩), .v (.string ⟨#[]⟩)]) [(1000, .b true)]
noncomputable def hdR (n m : Nat) (i : Int) : SF := { fn := 93, tm := tmOf 42 6 (List.replicate 5 .junk ++ [.sl 0 0 n none, .sl 1 0 m none, .v (.int .i64 i)] ++ List.replicate 34 .junk), todo := todoR, defers := [], ret := false, kind := .normal, ro := none }
def two (l m : List SV) : List (Option (SO × Bool)) := [some (.row l 9 (0, 0) (some 1), true), some (.row m 9 (0, 0) (some 1), true)]
theorem r0 (a b : ByteArray) (n m : Nat) (l l2 : List SV) : reach ER 2 60 (entE ER 93 [.v (.string a), .v (.string b)]) [(1000, .b true)] [(0, 0), (1, 1)] [0, 1] (hdR n m 0) 6 (two l l2) = [
  (0 : Nat) = (0 : Nat) ∧ (partsL a.data.toList).length = n ∧ (none : Option Nat) = none,
  (0 : Nat) = (0 : Nat) ∧ (partsL b.data.toList).length = m ∧ (none : Option Nat) = none,
  Value.int IntKind.i64 (0 : Int) = Value.int IntKind.i64 (0 : Int),
  List.map SV.v (vP (partsL a.data.toList)) = l,
  l.all closedSV = true,
  List.map SV.v (vP (partsL b.data.toList)) = l2,
  l2.all closedSV = true,
  b.size.le (1000000000 : Nat),
  a.size.le (1000000000 : Nat)] := by kernel_rfl
theorem rq1 (s t : ByteArray) (n m : Nat) (l l2 : List SV) (i i' : Int) : reach ER 2 100 (SM.at (hdR n m i) 6 (two l l2)) (ff [0, 1, 2, 3, 4, 5] true ++ [(7, .cells [.v (.string s)]), (9, .cells [.v (.string t)])] ++ ff [11] false) [(0, 0), (1, 1)] [0, 1] (hdR n m i') 6 (two l l2) = [
  (0 : Nat) = (0 : Nat) ∧ n = n ∧ (none : Option Nat) = none,
  (0 : Nat) = (0 : Nat) ∧ m = m ∧ (none : Option Nat) = none,
  Value.int IntKind.i64 (IntKind.i64.wrap (i + (1 : Int))) = Value.int IntKind.i64 i',
  l = l,
  l.all closedSV = true,
  l2 = l2,
  l2.all closedSV = true,
  (!bytesN s t == (0 : Int)) = false,
  s.size ≤ (1000000000 : Nat) ∧ t.size ≤ (1000000000 : Nat),
  l2[(0 : Nat) + i.toNat * (1 : Nat)]? = some (SV.v (Value.string t)),
  inRange i m = true,
  l[(0 : Nat) + i.toNat * (1 : Nat)]? = some (SV.v (Value.string s)),
  inRange i n = true,
  decide (i < (↑m : Int)) = true,
  decide (i < (↑n : Int)) = true,
  decide (i < (↑n : Int)) = true,
  decide (i < (↑n : Int)) = true,
  decide (i < (↑n : Int)) = true,
  decide (i < (↑n : Int)) = true] := by kernel_rfl
theorem rq2 (s t : ByteArray) (n m : Nat) (l l2 : List SV) (i : Int) (v : Value) : endsV ER 93 100 (SM.at (hdR n m i) 6 (two l l2)) (ff [0, 1, 2, 3, 4, 5] true ++ [(7, .cells [.v (.string s)]), (9, .cells [.v (.string t)])] ++ ff [11] true) v = [
  Value.int IntKind.i64 (bytesN s t) = v,
  (!bytesN s t == (0 : Int)) = true,
  s.size ≤ (1000000000 : Nat) ∧ t.size ≤ (1000000000 : Nat),
  l2[(0 : Nat) + i.toNat * (1 : Nat)]? = some (SV.v (Value.string t)),
  inRange i m = true,
  l[(0 : Nat) + i.toNat * (1 : Nat)]? = some (SV.v (Value.string s)),
  inRange i n = true,
  decide (i < (↑m : Int)) = true,
  decide (i < (↑n : Int)) = true,
  decide (i < (↑n : Int)) = true,
  decide (i < (↑n : Int)) = true,
  decide (i < (↑n : Int)) = true,
  decide (i < (↑n : Int)) = true] := by kernel_rfl
theorem r3 (n m : Nat) (l l2 : List SV) (i : Int) (v : Value) : endsV ER 93 100 (SM.at (hdR n m i) 6 (two l l2)) (ff [0, 1, 2, 3, 4, 5] false) v = [
  Value.int IntKind.i64 (lessN (↑n : Int) (↑m : Int)) = v,
  True,
  false = false,
  decide (i < (↑n : Int)) = false,
  decide (i < (↑n : Int)) = false,
  decide (i < (↑n : Int)) = false,
  decide (i < (↑n : Int)) = false,
  decide (i < (↑n : Int)) = false] := by kernel_rfl
theorem r4 (n m : Nat) (l l2 : List SV) (i : Int) (v : Value) : endsV ER 93 100 (SM.at (hdR n m i) 6 (two l l2)) (ff [0, 1, 2, 3, 4] true ++ ff [5] false) v = [
  Value.int IntKind.i64 (lessN (↑n : Int) (↑m : Int)) = v,
  True,
  decide (i < (↑m : Int)) = false,
  decide (i < (↑n : Int)) = true,
  decide (i < (↑n : Int)) = true,
  decide (i < (↑n : Int)) = true,
  decide (i < (↑n : Int)) = true,
  decide (i < (↑n : Int)) = true] := by kernel_rfl
theorem lt_irr (x : UInt8) : ¬ x < x := by rw [UInt8.lt_iff_toNat_lt]; omega
theorem lt_tri {x y : UInt8} (h1 : ¬ x < y) (h2 : ¬ y < x) : x = y := by
  rw [UInt8.lt_iff_toNat_lt] at h1 h2; exact UInt8.toNat_inj.1 (by omega)
theorem lt_asy {x y : UInt8} (h1 : x < y) : ¬ y < x := by
  rw [UInt8.lt_iff_toNat_lt] at h1 ⊢; omega
theorem lexN_self : ∀ x : List UInt8, lexN x x = 0
  | [] => rfl
  | a :: l => by unfold lexN; rw [if_neg (lt_irr a), if_neg (lt_irr a)]; exact lexN_self l
theorem lexN_eq : ∀ {x y : List UInt8}, lexN x y = 0 → x = y
  | [], [], _ => rfl
  | [], _ :: _, h => by cases h
  | _ :: _, [], h => by cases h
  | a :: l, b :: m, h => by
    unfold lexN at h
    by_cases h1 : a < b
    · rw [if_pos h1] at h; cases h
    · by_cases h2 : b < a
      · rw [if_neg h1, if_pos h2] at h; cases h
      · rw [if_neg h1, if_neg h2] at h
        rw [lt_tri h1 h2, lexN_eq h]
theorem cmpL_lex : ∀ x y : List UInt8, (if Op.bytesLess x y = true then -1 else if (!(Op.bytesLess x y || x == y)) = true then 1 else 0 : Int) = lexN x y
  | [], [] => by simp [Op.bytesLess, lexN]
  | [], _ :: _ => by simp [Op.bytesLess, lexN]
  | _ :: _, [] => by simp [Op.bytesLess, lexN]
  | a :: l, b :: m => by
    have ih := cmpL_lex l m
    unfold lexN
    by_cases h1 : a < b
    · simp [Op.bytesLess, h1]
    · by_cases h2 : b < a
      · have ne : a ≠ b := fun e => lt_irr b (by rw [e] at h2; exact h2)
        simp [Op.bytesLess, h1, h2, ne]
      · obtain rfl := lt_tri h1 h2
        rw [if_neg h1, if_neg h2, ← ih]
        simp [Op.bytesLess, h1]
theorem cmpS_lex (a b : ByteArray) : cmpS a b = lexN a.data.toList b.data.toList := by
  unfold cmpS; rw [tlB, tlB]; exact cmpL_lex _ _
/-- How two rows of parts stand. -/
def rcN : List (List UInt8) → List (List UInt8) → Int
  | [], [] => 0
  | [], _ :: _ => -1
  | _ :: _, [] => 1
  | x :: xs, y :: ys => if lexN x y = 0 then rcN xs ys else lexN x y
theorem rcN_cmp : ∀ (n : Nat) (a b : ByteArray), a.size < n → rcN (partsL a.data.toList) (partsL b.data.toList) = cmpF n a b
  | 0, _, _, h => by omega
  | n + 1, a, b, h => by
    have ea : partsL a.data.toList = (cA a).data.toList :: (if cM a = true then partsL (cB a).data.toList else []) := partsL_cut _
    have eb : partsL b.data.toList = (cA b).data.toList :: (if cM b = true then partsL (cB b).data.toList else []) := partsL_cut _
    rw [ea, eb]
    unfold rcN cmpF
    by_cases he : (cA a).data.toList = (cA b).data.toList
    · rw [if_pos he, he, lexN_self, if_pos rfl]
      cases ma : cM a
      · cases mb : cM b
        · simp [rcN, atN]
        · cases hp : partsL (cB b).data.toList with
          | nil => exact absurd hp (partsL_ne _)
          | cons x xs => simp [rcN, atN, hp]
      · cases mb : cM b
        · cases hp : partsL (cB a).data.toList with
          | nil => exact absurd hp (partsL_ne _)
          | cons x xs => simp [rcN, atN, hp]
        · have := rcN_cmp n (cB a) (cB b) (by have := cB_lt a ma; omega)
          simp [this]
    · rw [if_neg he, cmpS_lex, if_neg fun e => he (lexN_eq e)]
section
variable {w0 : World} {cs0 : List Frame} {R : Ending → World → Prop} {xs ys : List (List UInt8)}
theorem loopR (hx : xs.length ≤ 2000000000) (hy : ys.length ≤ 2000000000) (sx : ∀ s ∈ xs, s.length ≤ 1000000000) (sy : ∀ s ∈ ys, s.length ≤ 1000000000) : ∀ (j i : Nat), i + j = xs.length → i ≤ ys.length →
    (∀ w', Below w0.heap.size w0 w' → R (.returned (.int .i64 (rcN (xs.drop i) (ys.drop i)))) w') → Goes ER (layOwn [] []) w0 cs0 93 R (layVal []) (SM.at (hdR xs.length ys.length i) 6 (two (cP xs) (cP ys)))
  | j, i, hj, hib, hR => by
    have go : ∀ {o v}, Due (endsV ER 93 100 (SM.at (hdR xs.length ys.length i) 6 (two (cP xs) (cP ys))) o v) → v = .int .i64 (rcN (xs.drop i) (ys.drop i)) → Goes ER (layOwn [] []) w0 cs0 93 R (layVal []) (SM.at (hdR xs.length ys.length i) 6 (two (cP xs) (cP ys))) := fun hd e =>
      goes_due KR not_laid hd fun w' hw => by rw [e]; exact hR _ hw
    by_cases h1 : i < xs.length
    · have t1 : decide ((i : Int) < (xs.length : Int)) = true := decide_eq_true (by omega)
      by_cases h2 : i < ys.length
      · have t2 : decide ((i : Int) < (ys.length : Int)) = true := decide_eq_true (by omega)
        have r1 := in_range h1
        have r2 := in_range h2
        have da := List.drop_eq_getElem_cons h1
        have db := List.drop_eq_getElem_cons h2
        have g1 : (cP xs)[0 + i * 1]? = some (.v (.string (mk xs[i]))) := by simp [cP, h1]
        have g2 : (cP ys)[0 + i * 1]? = some (.v (.string (mk ys[i]))) := by simp [cP, h2]
        have z1 : (mk xs[i]).size ≤ 1000000000 := sx _ (List.getElem_mem h1)
        have z2 : (mk ys[i]).size ≤ 1000000000 := sy _ (List.getElem_mem h2)
        have eb : bytesN (mk xs[i]) (mk ys[i]) = lexN xs[i] ys[i] := by simp [bytesN, mk]
        by_cases hc : lexN xs[i] ys[i] = 0
        · have hq : (!(lexN xs[i] ys[i] == (0 : Int))) = false := by rw [hc]; rfl
          match j, hj with
          | 0, hj => omega
          | j + 1, hj =>
            refine Goes.reach KR (k := 2) (n := 100) (o := (ff [0, 1, 2, 3, 4, 5] true ++ [(7, .cells [.v (.string (mk xs[i]))]), (9, .cells [.v (.string (mk ys[i]))])] ++ ff [11] false)) (ren := [(0, 0), (1, 1)]) (eqs := [0, 1]) ?_ (by kernel_rfl) (fun i b h => no_name h) (loopR hx hy sx sy j (i + 1) (by omega) (by omega) fun w' hw => by
              have e : rcN (xs.drop i) (ys.drop i) = rcN (xs.drop (i + 1)) (ys.drop (i + 1)) := by
                rw [da, db]; conv => lhs; unfold rcN
                rw [if_pos hc]
              exact e ▸ hR w' hw)
            rw [rq1]
            have ws : IntKind.i64.wrap ((i : Int) + 1) = ((i + 1 : Nat) : Int) := by rw [wi (by omega)]; simp
            simp only [Owed, Int.toNat_natCast, t1, t2, r1, r2, g1, g2, z1, z2, eb, hq, ws, cP_closed, and_self]
        · have hq : (!(lexN xs[i] ys[i] == (0 : Int))) = true := by rw [beq_eq_false_iff_ne.2 hc]; rfl
          refine go (o := (ff [0, 1, 2, 3, 4, 5] true ++ [(7, .cells [.v (.string (mk xs[i]))]), (9, .cells [.v (.string (mk ys[i]))])] ++ ff [11] true)) (v := .int .i64 (bytesN (mk xs[i]) (mk ys[i]))) ⟨?_⟩ (by rw [da, db, eb]; unfold rcN; rw [if_neg hc])
          rw [rq2]
          simp only [Owed, Int.toNat_natCast, t1, t2, r1, r2, g1, g2, z1, z2, eb, hq, and_self]
      · have t2 : decide ((i : Int) < (ys.length : Int)) = false := decide_eq_false (by omega)
        refine go (o := ff [0, 1, 2, 3, 4] true ++ ff [5] false) (v := .int .i64 (lessN xs.length ys.length)) ⟨?_⟩ ?_
        · rw [r4]; simp only [Owed, t1, t2, and_self]
        · rw [List.drop_eq_getElem_cons h1, List.drop_eq_nil_of_le (by omega : ys.length ≤ i)]
          have : lessN (xs.length : Int) (ys.length : Int) = 1 := by unfold lessN; rw [if_neg (by omega), if_pos (by omega)]
          rw [this]; rfl
    · have t1 : decide ((i : Int) < (xs.length : Int)) = false := decide_eq_false (by omega)
      refine go (o := ff [0, 1, 2, 3, 4, 5] false) (v := .int .i64 (lessN xs.length ys.length)) ⟨?_⟩ ?_
      · rw [r3]; simp only [Owed, t1, and_self]
      · rw [List.drop_eq_nil_of_le (by omega : xs.length ≤ i)]
        by_cases h2 : i < ys.length
        · rw [List.drop_eq_getElem_cons h2]
          have : lessN (xs.length : Int) (ys.length : Int) = -1 := by unfold lessN; rw [if_pos (by omega)]
          rw [this]; rfl
        · rw [List.drop_eq_nil_of_le (by omega : ys.length ≤ i)]
          have : lessN (xs.length : Int) (ys.length : Int) = 0 := by unfold lessN; rw [if_neg (by omega), if_neg (by omega)]
          rw [this]; rfl
end
theorem rcmp_ok : PureOK Tryz.prog (fun _ => True) (93, cmpPS) := by
  refine .mk ⟨_, Tryz.func93, by kernel_rfl, by kernel_rfl⟩ fun args v p h hp w hX => ?_
  dsimp only [cmpPS] at h
  split at h
  · rename_i a b
    cases h
    refine calls_bareR (E := ER) (R := fun e w' => Below w.heap.size w w' ∧ e = .returned (.int .i64 (cmpN a b))) rfl rfl (args := [.v (.string a), .v (.string b)]) (a := [.string a, .string b]) (S0 := entE ER 93 [.v (.string a), .v (.string b)]) (by kernel_rfl) (VRL.cons (VR.v_iff.2 rfl) (VRL.cons (VR.v_iff.2 rfl) VRL.nil)) fun cs0 => ?_
    have la : a.data.toList.length = a.size := by simp
    have lb : b.data.toList.length = b.size := by simp
    obtain ⟨ha, hb⟩ := hp
    obtain ⟨a1, a2⟩ := partsL_len a.data.toList
    obtain ⟨b1, b2⟩ := partsL_len b.data.toList
    have nx := loopR (w0 := w) (cs0 := cs0) (R := fun e w' => Below w.heap.size w w' ∧ e = .returned (.int .i64 (cmpN a b))) (xs := partsL a.data.toList) (ys := partsL b.data.toList) (by omega) (by omega) (fun s hs => by have := a2 s hs; omega) (fun s hs => by have := b2 s hs; omega) (partsL a.data.toList).length 0 (by omega) (by omega) fun w' hw => ⟨hw, by
      rw [List.drop_zero, List.drop_zero, rcN_cmp (a.size + 1) a b (by omega)]; rfl⟩
    refine Goes.reach KR (k := 2) (n := 60) (o := [(1000, .b true)]) (ren := [(0, 0), (1, 1)]) (eqs := [0, 1]) (F := hdR (partsL a.data.toList).length (partsL b.data.toList).length 0) (d := 6) (l := two (cP (partsL a.data.toList)) (cP (partsL b.data.toList))) ?_ (by kernel_rfl) (fun i b h => no_name h) nx
    have e1 : ∀ l : List (List UInt8), List.map SV.v (vP l) = cP l := fun l => by simp [vP, cP]
    rw [r0]
    simp only [Owed, e1, cP_closed, and_self, and_true, true_and]
    exact ⟨ha, hb⟩
  · cases h
end paths
end Go.Proofs.YtiggmgcnjmalfaaGreatDoor
