/- name's checks of a path: contracts of strings.Cut, strings.IndexByte, name.part. By an AI agent. -/
import Derived.Test.YtgbampboehgcjaaGreatDoorEnv
import Derived.IntWalk
import Derived.Shelf.LaysM
import Derived.Shelf.Strings.Cut
import Derived.Shelf.Small.Strs
import Derived.WalkSmall
import Derived.Shelf.Strconv.Itoa1
import Derived.Shelf.Strconv.Itoa2
import Derived.Lib.Walk
import Derived.Lib.ItoaMem
import Derived.WalkKit
import Derived.BigCall
import Derived.BigGuard
import Derived.Shelf.Bytes.SlEqualAll
namespace Go.Proofs.YtgbampboehgcjaaGreatDoor
open Go Go.Rx Go.RowKit Go.Proofs
set_option linter.unusedVariables false
set_option linter.unusedSimpArgs false
set_option maxRecDepth 100000
namespace paths
/-- The longest needle's number lies where it lay. -/
def MX (w : World) : Prop := ∃ m : Int, w.cell? ⟨4, 0, none⟩ = some (.int .i64 m)
theorem MX.keep {w0 w : World} (h : MX w0) (hk : ∀ k, k < w0.heap.size → w.heap[k]? = w0.heap[k]?) : MX w := let ⟨m, h⟩ := h; ⟨m, cell_keep h hk⟩
def laysCut_ren : Go.Shelf.Ren := ⟨fun | 145 => 97 | 220 => 110 | 219 => 119 | 217 => 111 | 225 => 124 | 224 => 125 | 267 => 126 | 266 => 120 | 314 => 137 | n => n, fun | 9 => 9 | 4 => 4 | 59 => 160 | 3 => 3 | 5 => 5 | 46 => 170 | 146 => 193 | 51 => 167 | n => n, fun | 1 => 4 | n => n⟩
theorem laysCut : Go.Proofs.LaysM.n145 Tryz.prog laysCut_ren where
  mixed := by kernel_rfl
  f145 := Tryz.func97.trans (congrArg some (by kernel_rfl))
  f217 := Tryz.func111.trans (congrArg some (by kernel_rfl))
  f219 := Tryz.func119.trans (congrArg some (by kernel_rfl))
  f220 := Tryz.func110.trans (congrArg some (by kernel_rfl))
  f224 := Tryz.func125.trans (congrArg some (by kernel_rfl))
  f225 := Tryz.func124.trans (congrArg some (by kernel_rfl))
  f266 := Tryz.func120.trans (congrArg some (by kernel_rfl))
  f267 := Tryz.func126.trans (congrArg some (by kernel_rfl))
  f314 := Tryz.func137.trans (congrArg some (by kernel_rfl))
  t3 := Tryz.underlying3
  a3 := Tryz.isAgg3
  z3 := Tryz.sizeOf3
  v3 := Tryz.zeroValue3
  t4 := Tryz.underlying4
  a4 := Tryz.isAgg4
  z4 := Tryz.sizeOf4
  v4 := Tryz.zeroValue4
  t5 := Tryz.underlying5
  a5 := Tryz.isAgg5
  z5 := Tryz.sizeOf5
  v5 := Tryz.zeroValue5
  t9 := Tryz.underlying9
  a9 := Tryz.isAgg9
  z9 := Tryz.sizeOf9
  v9 := Tryz.zeroValue9
  t46 := Tryz.underlying170
  a46 := Tryz.isAgg170
  z46 := Tryz.sizeOf170
  v46 := Tryz.zeroValue170
  t51 := Tryz.underlying167
  a51 := Tryz.isAgg167
  z51 := Tryz.sizeOf167
  v51 := Tryz.zeroValue167
  t59 := Tryz.underlying160
  a59 := Tryz.isAgg160
  z59 := Tryz.sizeOf160
  v59 := Tryz.zeroValue160
  t146 := Tryz.underlying193
  a146 := Tryz.isAgg193
  z146 := Tryz.sizeOf193
  v146 := Tryz.zeroValue193
  g1 := by kernel_rfl
  i3 := by kernel_rfl
  i4 := by kernel_rfl
  i5 := by kernel_rfl
  i9 := by kernel_rfl
  i46 := by kernel_rfl
  i51 := by kernel_rfl
  i59 := by kernel_rfl
  i146 := by kernel_rfl
  m1 := by kernel_rfl
  s1_3 := fun w h => Go.Proofs.cell_of_shapedOpen_int (zero := #[.int .i64 0]) (t := 3) h (of_decide_eq_true (by kernel_rfl)) (by kernel_rfl) rfl (by kernel_rfl) (by kernel_rfl) Tryz.underlying3

def laysIB_ren : Go.Shelf.Ren := ⟨fun | 137 => 98 | 217 => 111 | 266 => 120 | n => n, fun | 9 => 9 | 5 => 5 | 3 => 3 | n => n, fun | n => n⟩
theorem laysIB : Go.Proofs.Lays.n137 Tryz.prog laysIB_ren where
  mixed := by kernel_rfl
  f137 := Tryz.func98.trans (congrArg some (by kernel_rfl))
  f217 := Tryz.func111.trans (congrArg some (by kernel_rfl))
  f266 := Tryz.func120.trans (congrArg some (by kernel_rfl))
  t3 := Tryz.underlying3
  a3 := Tryz.isAgg3
  z3 := Tryz.sizeOf3
  v3 := Tryz.zeroValue3
  t5 := Tryz.underlying5
  a5 := Tryz.isAgg5
  z5 := Tryz.sizeOf5
  v5 := Tryz.zeroValue5
  t9 := Tryz.underlying9
  a9 := Tryz.isAgg9
  z9 := Tryz.sizeOf9
  v9 := Tryz.zeroValue9

/-- A path's first part; what stands behind it; whether there is a stroke. -/
def cA (s : ByteArray) : ByteArray := ⟨(Lib.cut s.data.toList [47]).1.toArray⟩
def cB (s : ByteArray) : ByteArray := ⟨(Lib.cut s.data.toList [47]).2.1.toArray⟩
def cM (s : ByteArray) : Bool := (Lib.cut s.data.toList [47]).2.2
def slash : ByteArray := ⟨#[47]⟩
def cutPS : PS := fun args => match args with | [.string s, .string t] => some (.tuple #[.string (cA s), .string (cB s), .bool (cM s)], s.size ≤ 1000000000 ∧ t = slash) | _ => none
theorem cut_ok : PureOK Tryz.prog MX (97, cutPS) := by
  refine ⟨⟨_, Tryz.func97, by kernel_rfl, by kernel_rfl⟩, fun args v p h hp w hX => ?_⟩
  dsimp only [cutPS] at h
  split at h
  · rename_i s t
    cases h
    obtain ⟨h1, rfl⟩ := hp
    obtain ⟨m, hm⟩ := hX
    refine (Any.strings_Cut { laysCut with } s slash m w (by omega) hm).mono fun e w' ⟨he, n, hw⟩ => ⟨?_, he⟩
    rw [hw]; exact below_drewN (Below.refl _ _) n
  · cases h
theorem cB_size (s : ByteArray) : (cB s).size ≤ s.size := by
  have e : (cB s).size = (Lib.cut s.data.toList [47]).2.1.length := by simp [cB, ByteArray.size]
  have e2 : s.data.toList.length = s.size := by simp
  rw [e]; unfold Lib.cut
  split
  · simp only [List.length_drop]; omega
  · simp
theorem cA_nil : cA ⟨#[]⟩ = ⟨#[]⟩ := by
  have : Lib.cut [] [47] = ([], [], false) := rfl
  show ByteArray.mk (Lib.cut [] [47]).1.toArray = _
  rw [this]
def noZ (s : ByteArray) : Int := Lib.indexByte s.data.toList 0
def ibPS : PS := fun args => match args with | [.string s, .int .u8 c] => some (.int .i64 (noZ s), c = 0) | _ => none
theorem ib_ok : PureOK Tryz.prog (fun _ => True) (98, ibPS) := by
  refine ⟨⟨_, Tryz.func98, by kernel_rfl, by kernel_rfl⟩, fun args v p h hp w hX => ?_⟩
  dsimp only [ibPS] at h
  split at h
  · rename_i s c
    cases h
    subst hp
    refine (Any.strings_IndexByte laysIB s 0 w).mono fun e w' ⟨he, hw⟩ => ⟨?_, he⟩
    rw [hw]; exact Below.refl _ _
  · cases h
noncomputable def EI : Env := EP [(98, ibPS)] []
theorem KI {M : Own} {w0 : World} : Facts EI M w0 := factsP0 fun r h => by rw [List.mem_singleton.1 h]; exact ib_ok
theorem p0 (v : Value) : endsV EI 80 300 (entE EI 80 [.v (.string ⟨#[]⟩)]) [(1000, .b true)] v = [
  Value.bool false = v] := by kernel_rfl
theorem p1 (v : Value) : endsV EI 80 300 (entE EI 80 [.v (.string ⟨#[46]⟩)]) [(1000, .b true)] v = [
  Value.bool false = v] := by kernel_rfl
theorem p2 (v : Value) : endsV EI 80 300 (entE EI 80 [.v (.string ⟨#[46, 46]⟩)]) [(1000, .b true)] v = [
  Value.bool false = v] := by kernel_rfl
theorem p3 (s : ByteArray) (v : Value) : endsV EI 80 300 (entE EI 80 [.v (.string s)]) (ff [0, 1, 2, 3] true ++ ff [4, 5, 6, 7, 8, 9, 10, 11, 12, 13, 14, 15, 16, 17] false) v = [
  Value.bool false = v,
  false = false,
  false = false,
  false = false,
  false = false,
  false = false,
  false = false,
  false = false,
  decide ((↑s.size : Int) ≤ (24 : Int)) = false,
  decide ((↑s.size : Int) ≤ (24 : Int)) = false,
  decide ((↑s.size : Int) ≤ (24 : Int)) = false,
  (!s.toList == { data := { toList := [] : Array UInt8 } : ByteArray }.toList) = true,
  (!s.toList == { data := { toList := [] : Array UInt8 } : ByteArray }.toList) = true,
  (!s.toList == { data := { toList := [] : Array UInt8 } : ByteArray }.toList) = true,
  (!s.toList == { data := { toList := [] : Array UInt8 } : ByteArray }.toList) = true] := by kernel_rfl
theorem p4 (s : ByteArray) (v : Value) : endsV EI 80 300 (entE EI 80 [.v (.string s)]) (ff [0, 1, 2, 3, 4, 5, 6, 7, 8, 9, 10, 11, 13, 14, 15, 16, 17] true) v = [
  Value.bool (decide (noZ s < (0 : Int))) = v,
  (!s.toList == { data := { toList := [(46 : UInt8), (46 : UInt8)] : Array UInt8 } : ByteArray }.toList) = true,
  (!s.toList == { data := { toList := [(46 : UInt8), (46 : UInt8)] : Array UInt8 } : ByteArray }.toList) = true,
  (0 : Int) = (0 : Int),
  (!s.toList == { data := { toList := [(46 : UInt8), (46 : UInt8)] : Array UInt8 } : ByteArray }.toList) = true,
  (!s.toList == { data := { toList := [(46 : UInt8), (46 : UInt8)] : Array UInt8 } : ByteArray }.toList) = true,
  (!s.toList == { data := { toList := [(46 : UInt8)] : Array UInt8 } : ByteArray }.toList) = true,
  (!s.toList == { data := { toList := [(46 : UInt8)] : Array UInt8 } : ByteArray }.toList) = true,
  (!s.toList == { data := { toList := [(46 : UInt8)] : Array UInt8 } : ByteArray }.toList) = true,
  decide ((↑s.size : Int) ≤ (24 : Int)) = true,
  decide ((↑s.size : Int) ≤ (24 : Int)) = true,
  decide ((↑s.size : Int) ≤ (24 : Int)) = true,
  (!s.toList == { data := { toList := [] : Array UInt8 } : ByteArray }.toList) = true,
  (!s.toList == { data := { toList := [] : Array UInt8 } : ByteArray }.toList) = true,
  (!s.toList == { data := { toList := [] : Array UInt8 } : ByteArray }.toList) = true,
  (!s.toList == { data := { toList := [] : Array UInt8 } : ByteArray }.toList) = true] := by kernel_rfl
/-- Is a text a part? -/
def partB (s : ByteArray) : Bool := decide (s.data.toList ≠ [] ∧ s.size ≤ 24 ∧ s.data.toList ≠ [46] ∧ s.data.toList ≠ [46, 46]) && decide (noZ s < 0)
def partPS : PS := fun args => match args with | [.string s] => some (.bool (partB s), s.size ≤ 1000000000) | _ => none
theorem tlB (b : ByteArray) : b.toList = b.data.toList := ByteArray.toList_eq b
theorem ne_beq {a b : List UInt8} (h : a ≠ b) : (a == b) = false := beq_eq_false_iff_ne.2 h
theorem of_list {s : ByteArray} {l : List UInt8} (h : s.data.toList = l) : s = ⟨l.toArray⟩ := by cases s; subst h; simp
theorem part_ok : PureOK Tryz.prog (fun _ => True) (80, partPS) := by
  refine ⟨⟨_, Tryz.func80, by kernel_rfl, by kernel_rfl⟩, fun args v p h hp w hX => ?_⟩
  dsimp only [partPS] at h
  split at h
  · rename_i s
    cases h
    refine (calls_bare (E := EI) rfl rfl (Q := fun v => v = .bool (partB s)) (args := [.v (.string s)]) (a := [.string s]) w (S0 := entE EI 80 [.v (.string s)]) (by kernel_rfl) (VRL.cons (VR.v_iff.2 rfl) VRL.nil) fun cs0 => ?_).mono fun e w' ⟨h1, u, h2, h3⟩ => ⟨h1, by rw [h2, h3]⟩
    have hend : ∀ (ν' : Val) (M1 : Own) (w1 : World) (s' : SH) (w' : World), (layVal []).Le ν' → Base (layOwn [] []) w M1 w1 → HR ν' M1 w1 s' w' → (Below w.heap.size w w' ∧ ∃ v, Ending.returned (.bool (partB s)) = .returned v ∧ v = .bool (partB s)) := fun ν' M1 w1 s' w' _ hB hr => ⟨below_of not_laid hB hr, _, rfl, rfl⟩
    by_cases h0 : s.data.toList = []
    · obtain rfl := of_list h0
      refine Goes.endsV KI (n := 300) (o := [(1000, .b true)]) (v := .bool (partB _)) ?_ hend
      rw [p0]
      simp [Owed, partB]
    by_cases h1 : s.data.toList = [46]
    · obtain rfl := of_list h1
      refine Goes.endsV KI (n := 300) (o := [(1000, .b true)]) (v := .bool (partB _)) ?_ hend
      rw [p1]
      simp [Owed, partB]
    by_cases h2 : s.data.toList = [46, 46]
    · obtain rfl := of_list h2
      refine Goes.endsV KI (n := 300) (o := [(1000, .b true)]) (v := .bool (partB _)) ?_ hend
      rw [p2]
      simp [Owed, partB]
    by_cases h3 : s.size ≤ 24
    · refine Goes.endsV KI (n := 300) (o := ff [0, 1, 2, 3, 4, 5, 6, 7, 8, 9, 10, 11, 13, 14, 15, 16, 17] true) (v := .bool (partB s)) ?_ hend
      rw [p4]
      have e : partB s = decide (noZ s < 0) := by unfold partB; simp [h0, h1, h2, h3]
      have c1 : decide ((s.size : Int) ≤ 24) = true := decide_eq_true (by omega)
      simp only [Owed, e, tlB, ne_beq h0, ne_beq h1, ne_beq h2, c1, Bool.not_false, true_and, and_true]
    · refine Goes.endsV KI (n := 300) (o := ff [0, 1, 2, 3] true ++ ff [4, 5, 6, 7, 8, 9, 10, 11, 12, 13, 14, 15, 16, 17] false) (v := .bool (partB s)) ?_ hend
      rw [p3]
      have e : partB s = false := by unfold partB; simp [h3]
      have c1 : decide ((s.size : Int) ≤ 24) = false := decide_eq_false (by omega)
      simp only [Owed, e, tlB, ne_beq h0, c1, Bool.not_false, true_and, and_true]
  · cases h
end paths
end Go.Proofs.YtgbampboehgcjaaGreatDoor
namespace Go.Proofs.YtgbampboehgcjaaGreatDoor
open Go Go.Rx Go.RowKit Go.Proofs
set_option linter.unusedVariables false
set_option linter.unusedSimpArgs false
set_option maxRecDepth 100000
namespace paths
noncomputable def EC : Env := EP [(97, cutPS), (80, partPS)] []
theorem c0 (p : ByteArray) (v : Value) : endsV EC 51 3000 (entE EC 51 [.v (.string p)]) ([(0, .b true)]) v = [
  Value.int IntKind.i64 (23 : Int) = v,
  decide ((↑p.size : Int) > (96 : Int)) = true] := by kernel_rfl
theorem cb1 (p : ByteArray) (v : Value) : endsV EC 51 3000 (entE EC 51 [.v (.string p)]) (ff [0] false ++ ff [8] true) v = [
  Value.int IntKind.i64 (23 : Int) = v,
  (!partB (cA p)) = true,
  (cA p).size.le (1000000000 : Nat),
  p.size ≤ (1000000000 : Nat) ∧ { data := { toList := [(47 : UInt8)] : Array UInt8 } : ByteArray } = slash,
  decide ((↑p.size : Int) > (96 : Int)) = false] := by kernel_rfl
theorem co1 (p : ByteArray) (v : Value) : endsV EC 51 3000 (entE EC 51 [.v (.string p)]) (ff [0, 8, 10] false ++ ff [] true) v = [
  Value.int IntKind.i64 (0 : Int) = v,
  cM p = false,
  (!partB (cA p)) = false,
  (cA p).size.le (1000000000 : Nat),
  p.size ≤ (1000000000 : Nat) ∧ { data := { toList := [(47 : UInt8)] : Array UInt8 } : ByteArray } = slash,
  decide ((↑p.size : Int) > (96 : Int)) = false] := by kernel_rfl
theorem cb2 (p : ByteArray) (v : Value) : endsV EC 51 3000 (entE EC 51 [.v (.string p)]) (ff [0, 8] false ++ ff [17, 10] true) v = [
  Value.int IntKind.i64 (23 : Int) = v,
  (!partB (cA (cB p))) = true,
  (cA (cB p)).size.le (1000000000 : Nat),
  (cB p).size ≤ (1000000000 : Nat) ∧ { data := { toList := [(47 : UInt8)] : Array UInt8 } : ByteArray } = slash,
  cM p = true,
  (!partB (cA p)) = false,
  (cA p).size.le (1000000000 : Nat),
  p.size ≤ (1000000000 : Nat) ∧ { data := { toList := [(47 : UInt8)] : Array UInt8 } : ByteArray } = slash,
  decide ((↑p.size : Int) > (96 : Int)) = false] := by kernel_rfl
theorem co2 (p : ByteArray) (v : Value) : endsV EC 51 3000 (entE EC 51 [.v (.string p)]) (ff [0, 8, 17, 19] false ++ ff [10] true) v = [
  Value.int IntKind.i64 (0 : Int) = v,
  cM (cB p) = false,
  (!partB (cA (cB p))) = false,
  (cA (cB p)).size.le (1000000000 : Nat),
  (cB p).size ≤ (1000000000 : Nat) ∧ { data := { toList := [(47 : UInt8)] : Array UInt8 } : ByteArray } = slash,
  cM p = true,
  (!partB (cA p)) = false,
  (cA p).size.le (1000000000 : Nat),
  p.size ≤ (1000000000 : Nat) ∧ { data := { toList := [(47 : UInt8)] : Array UInt8 } : ByteArray } = slash,
  decide ((↑p.size : Int) > (96 : Int)) = false] := by kernel_rfl
theorem cb3 (p : ByteArray) (v : Value) : endsV EC 51 3000 (entE EC 51 [.v (.string p)]) (ff [0, 8, 17] false ++ ff [26, 10, 19] true) v = [
  Value.int IntKind.i64 (23 : Int) = v,
  (!partB (cA (cB (cB p)))) = true,
  (cA (cB (cB p))).size.le (1000000000 : Nat),
  (cB (cB p)).size ≤ (1000000000 : Nat) ∧ { data := { toList := [(47 : UInt8)] : Array UInt8 } : ByteArray } = slash,
  cM (cB p) = true,
  (!partB (cA (cB p))) = false,
  (cA (cB p)).size.le (1000000000 : Nat),
  (cB p).size ≤ (1000000000 : Nat) ∧ { data := { toList := [(47 : UInt8)] : Array UInt8 } : ByteArray } = slash,
  cM p = true,
  (!partB (cA p)) = false,
  (cA p).size.le (1000000000 : Nat),
  p.size ≤ (1000000000 : Nat) ∧ { data := { toList := [(47 : UInt8)] : Array UInt8 } : ByteArray } = slash,
  decide ((↑p.size : Int) > (96 : Int)) = false] := by kernel_rfl
theorem co3 (p : ByteArray) (v : Value) : endsV EC 51 3000 (entE EC 51 [.v (.string p)]) (ff [0, 8, 17, 26, 28] false ++ ff [10, 19] true) v = [
  Value.int IntKind.i64 (0 : Int) = v,
  cM (cB (cB p)) = false,
  (!partB (cA (cB (cB p)))) = false,
  (cA (cB (cB p))).size.le (1000000000 : Nat),
  (cB (cB p)).size ≤ (1000000000 : Nat) ∧ { data := { toList := [(47 : UInt8)] : Array UInt8 } : ByteArray } = slash,
  cM (cB p) = true,
  (!partB (cA (cB p))) = false,
  (cA (cB p)).size.le (1000000000 : Nat),
  (cB p).size ≤ (1000000000 : Nat) ∧ { data := { toList := [(47 : UInt8)] : Array UInt8 } : ByteArray } = slash,
  cM p = true,
  (!partB (cA p)) = false,
  (cA p).size.le (1000000000 : Nat),
  p.size ≤ (1000000000 : Nat) ∧ { data := { toList := [(47 : UInt8)] : Array UInt8 } : ByteArray } = slash,
  decide ((↑p.size : Int) > (96 : Int)) = false] := by kernel_rfl
theorem cb4 (p : ByteArray) (v : Value) : endsV EC 51 3000 (entE EC 51 [.v (.string p)]) (ff [0, 8, 17, 26] false ++ ff [35, 10, 19, 28] true) v = [
  Value.int IntKind.i64 (23 : Int) = v,
  (!partB (cA (cB (cB (cB p))))) = true,
  (cA (cB (cB (cB p)))).size.le (1000000000 : Nat),
  (cB (cB (cB p))).size ≤ (1000000000 : Nat) ∧ { data := { toList := [(47 : UInt8)] : Array UInt8 } : ByteArray } = slash,
  cM (cB (cB p)) = true,
  (!partB (cA (cB (cB p)))) = false,
  (cA (cB (cB p))).size.le (1000000000 : Nat),
  (cB (cB p)).size ≤ (1000000000 : Nat) ∧ { data := { toList := [(47 : UInt8)] : Array UInt8 } : ByteArray } = slash,
  cM (cB p) = true,
  (!partB (cA (cB p))) = false,
  (cA (cB p)).size.le (1000000000 : Nat),
  (cB p).size ≤ (1000000000 : Nat) ∧ { data := { toList := [(47 : UInt8)] : Array UInt8 } : ByteArray } = slash,
  cM p = true,
  (!partB (cA p)) = false,
  (cA p).size.le (1000000000 : Nat),
  p.size ≤ (1000000000 : Nat) ∧ { data := { toList := [(47 : UInt8)] : Array UInt8 } : ByteArray } = slash,
  decide ((↑p.size : Int) > (96 : Int)) = false] := by kernel_rfl
theorem co4 (p : ByteArray) (v : Value) : endsV EC 51 3000 (entE EC 51 [.v (.string p)]) (ff [0, 8, 17, 26, 35, 37] false ++ ff [10, 19, 28] true) v = [
  Value.int IntKind.i64 (0 : Int) = v,
  cM (cB (cB (cB p))) = false,
  (!partB (cA (cB (cB (cB p))))) = false,
  (cA (cB (cB (cB p)))).size.le (1000000000 : Nat),
  (cB (cB (cB p))).size ≤ (1000000000 : Nat) ∧ { data := { toList := [(47 : UInt8)] : Array UInt8 } : ByteArray } = slash,
  cM (cB (cB p)) = true,
  (!partB (cA (cB (cB p)))) = false,
  (cA (cB (cB p))).size.le (1000000000 : Nat),
  (cB (cB p)).size ≤ (1000000000 : Nat) ∧ { data := { toList := [(47 : UInt8)] : Array UInt8 } : ByteArray } = slash,
  cM (cB p) = true,
  (!partB (cA (cB p))) = false,
  (cA (cB p)).size.le (1000000000 : Nat),
  (cB p).size ≤ (1000000000 : Nat) ∧ { data := { toList := [(47 : UInt8)] : Array UInt8 } : ByteArray } = slash,
  cM p = true,
  (!partB (cA p)) = false,
  (cA p).size.le (1000000000 : Nat),
  p.size ≤ (1000000000 : Nat) ∧ { data := { toList := [(47 : UInt8)] : Array UInt8 } : ByteArray } = slash,
  decide ((↑p.size : Int) > (96 : Int)) = false] := by kernel_rfl
theorem cb5 (p : ByteArray) (v : Value) : endsV EC 51 3000 (entE EC 51 [.v (.string p)]) (ff [0, 8, 17, 26, 35] false ++ ff [44, 10, 19, 28, 37] true) v = [
  Value.int IntKind.i64 (23 : Int) = v,
  (!partB (cA (cB (cB (cB (cB p)))))) = true,
  (cA (cB (cB (cB (cB p))))).size.le (1000000000 : Nat),
  (cB (cB (cB (cB p)))).size ≤ (1000000000 : Nat) ∧
   { data := { toList := [(47 : UInt8)] : Array UInt8 } : ByteArray } = slash,
  cM (cB (cB (cB p))) = true,
  (!partB (cA (cB (cB (cB p))))) = false,
  (cA (cB (cB (cB p)))).size.le (1000000000 : Nat),
  (cB (cB (cB p))).size ≤ (1000000000 : Nat) ∧ { data := { toList := [(47 : UInt8)] : Array UInt8 } : ByteArray } = slash,
  cM (cB (cB p)) = true,
  (!partB (cA (cB (cB p)))) = false,
  (cA (cB (cB p))).size.le (1000000000 : Nat),
  (cB (cB p)).size ≤ (1000000000 : Nat) ∧ { data := { toList := [(47 : UInt8)] : Array UInt8 } : ByteArray } = slash,
  cM (cB p) = true,
  (!partB (cA (cB p))) = false,
  (cA (cB p)).size.le (1000000000 : Nat),
  (cB p).size ≤ (1000000000 : Nat) ∧ { data := { toList := [(47 : UInt8)] : Array UInt8 } : ByteArray } = slash,
  cM p = true,
  (!partB (cA p)) = false,
  (cA p).size.le (1000000000 : Nat),
  p.size ≤ (1000000000 : Nat) ∧ { data := { toList := [(47 : UInt8)] : Array UInt8 } : ByteArray } = slash,
  decide ((↑p.size : Int) > (96 : Int)) = false] := by kernel_rfl
theorem co5 (p : ByteArray) (v : Value) : endsV EC 51 3000 (entE EC 51 [.v (.string p)]) (ff [0, 8, 17, 26, 35, 44, 46] false ++ ff [10, 19, 28, 37] true) v = [
  Value.int IntKind.i64 (0 : Int) = v,
  cM (cB (cB (cB (cB p)))) = false,
  (!partB (cA (cB (cB (cB (cB p)))))) = false,
  (cA (cB (cB (cB (cB p))))).size.le (1000000000 : Nat),
  (cB (cB (cB (cB p)))).size ≤ (1000000000 : Nat) ∧
   { data := { toList := [(47 : UInt8)] : Array UInt8 } : ByteArray } = slash,
  cM (cB (cB (cB p))) = true,
  (!partB (cA (cB (cB (cB p))))) = false,
  (cA (cB (cB (cB p)))).size.le (1000000000 : Nat),
  (cB (cB (cB p))).size ≤ (1000000000 : Nat) ∧ { data := { toList := [(47 : UInt8)] : Array UInt8 } : ByteArray } = slash,
  cM (cB (cB p)) = true,
  (!partB (cA (cB (cB p)))) = false,
  (cA (cB (cB p))).size.le (1000000000 : Nat),
  (cB (cB p)).size ≤ (1000000000 : Nat) ∧ { data := { toList := [(47 : UInt8)] : Array UInt8 } : ByteArray } = slash,
  cM (cB p) = true,
  (!partB (cA (cB p))) = false,
  (cA (cB p)).size.le (1000000000 : Nat),
  (cB p).size ≤ (1000000000 : Nat) ∧ { data := { toList := [(47 : UInt8)] : Array UInt8 } : ByteArray } = slash,
  cM p = true,
  (!partB (cA p)) = false,
  (cA p).size.le (1000000000 : Nat),
  p.size ≤ (1000000000 : Nat) ∧ { data := { toList := [(47 : UInt8)] : Array UInt8 } : ByteArray } = slash,
  decide ((↑p.size : Int) > (96 : Int)) = false] := by kernel_rfl
theorem cb6 (p : ByteArray) (v : Value) : endsV EC 51 3000 (entE EC 51 [.v (.string p)]) (ff [0, 8, 17, 26, 35, 44] false ++ ff [53, 10, 19, 28, 37, 46] true) v = [
  Value.int IntKind.i64 (23 : Int) = v,
  (!partB (cA (cB (cB (cB (cB (cB p))))))) = true,
  (cA (cB (cB (cB (cB (cB p)))))).size.le (1000000000 : Nat),
  (cB (cB (cB (cB (cB p))))).size ≤ (1000000000 : Nat) ∧
   { data := { toList := [(47 : UInt8)] : Array UInt8 } : ByteArray } = slash,
  cM (cB (cB (cB (cB p)))) = true,
  (!partB (cA (cB (cB (cB (cB p)))))) = false,
  (cA (cB (cB (cB (cB p))))).size.le (1000000000 : Nat),
  (cB (cB (cB (cB p)))).size ≤ (1000000000 : Nat) ∧
   { data := { toList := [(47 : UInt8)] : Array UInt8 } : ByteArray } = slash,
  cM (cB (cB (cB p))) = true,
  (!partB (cA (cB (cB (cB p))))) = false,
  (cA (cB (cB (cB p)))).size.le (1000000000 : Nat),
  (cB (cB (cB p))).size ≤ (1000000000 : Nat) ∧ { data := { toList := [(47 : UInt8)] : Array UInt8 } : ByteArray } = slash,
  cM (cB (cB p)) = true,
  (!partB (cA (cB (cB p)))) = false,
  (cA (cB (cB p))).size.le (1000000000 : Nat),
  (cB (cB p)).size ≤ (1000000000 : Nat) ∧ { data := { toList := [(47 : UInt8)] : Array UInt8 } : ByteArray } = slash,
  cM (cB p) = true,
  (!partB (cA (cB p))) = false,
  (cA (cB p)).size.le (1000000000 : Nat),
  (cB p).size ≤ (1000000000 : Nat) ∧ { data := { toList := [(47 : UInt8)] : Array UInt8 } : ByteArray } = slash,
  cM p = true,
  (!partB (cA p)) = false,
  (cA p).size.le (1000000000 : Nat),
  p.size ≤ (1000000000 : Nat) ∧ { data := { toList := [(47 : UInt8)] : Array UInt8 } : ByteArray } = slash,
  decide ((↑p.size : Int) > (96 : Int)) = false] := by kernel_rfl
theorem co6 (p : ByteArray) (v : Value) : endsV EC 51 3000 (entE EC 51 [.v (.string p)]) (ff [0, 8, 17, 26, 35, 44, 53, 55] false ++ ff [10, 19, 28, 37, 46] true) v = [
  Value.int IntKind.i64 (0 : Int) = v,
  cM (cB (cB (cB (cB (cB p))))) = false,
  (!partB (cA (cB (cB (cB (cB (cB p))))))) = false,
  (cA (cB (cB (cB (cB (cB p)))))).size.le (1000000000 : Nat),
  (cB (cB (cB (cB (cB p))))).size ≤ (1000000000 : Nat) ∧
   { data := { toList := [(47 : UInt8)] : Array UInt8 } : ByteArray } = slash,
  cM (cB (cB (cB (cB p)))) = true,
  (!partB (cA (cB (cB (cB (cB p)))))) = false,
  (cA (cB (cB (cB (cB p))))).size.le (1000000000 : Nat),
  (cB (cB (cB (cB p)))).size ≤ (1000000000 : Nat) ∧
   { data := { toList := [(47 : UInt8)] : Array UInt8 } : ByteArray } = slash,
  cM (cB (cB (cB p))) = true,
  (!partB (cA (cB (cB (cB p))))) = false,
  (cA (cB (cB (cB p)))).size.le (1000000000 : Nat),
  (cB (cB (cB p))).size ≤ (1000000000 : Nat) ∧ { data := { toList := [(47 : UInt8)] : Array UInt8 } : ByteArray } = slash,
  cM (cB (cB p)) = true,
  (!partB (cA (cB (cB p)))) = false,
  (cA (cB (cB p))).size.le (1000000000 : Nat),
  (cB (cB p)).size ≤ (1000000000 : Nat) ∧ { data := { toList := [(47 : UInt8)] : Array UInt8 } : ByteArray } = slash,
  cM (cB p) = true,
  (!partB (cA (cB p))) = false,
  (cA (cB p)).size.le (1000000000 : Nat),
  (cB p).size ≤ (1000000000 : Nat) ∧ { data := { toList := [(47 : UInt8)] : Array UInt8 } : ByteArray } = slash,
  cM p = true,
  (!partB (cA p)) = false,
  (cA p).size.le (1000000000 : Nat),
  p.size ≤ (1000000000 : Nat) ∧ { data := { toList := [(47 : UInt8)] : Array UInt8 } : ByteArray } = slash,
  decide ((↑p.size : Int) > (96 : Int)) = false] := by kernel_rfl
theorem cd (p : ByteArray) (v : Value) : endsV EC 51 3000 (entE EC 51 [.v (.string p)]) (ff [0, 8, 17, 26, 35, 44, 53] false ++ ff [10, 19, 28, 37, 46, 55] true) v = [
  Value.int IntKind.i64 (23 : Int) = v,
  (cB (cB (cB (cB (cB (cB p)))))).size ≤ (1000000000 : Nat) ∧
   { data := { toList := [(47 : UInt8)] : Array UInt8 } : ByteArray } = slash,
  cM (cB (cB (cB (cB (cB p))))) = true,
  (!partB (cA (cB (cB (cB (cB (cB p))))))) = false,
  (cA (cB (cB (cB (cB (cB p)))))).size.le (1000000000 : Nat),
  (cB (cB (cB (cB (cB p))))).size ≤ (1000000000 : Nat) ∧
   { data := { toList := [(47 : UInt8)] : Array UInt8 } : ByteArray } = slash,
  cM (cB (cB (cB (cB p)))) = true,
  (!partB (cA (cB (cB (cB (cB p)))))) = false,
  (cA (cB (cB (cB (cB p))))).size.le (1000000000 : Nat),
  (cB (cB (cB (cB p)))).size ≤ (1000000000 : Nat) ∧
   { data := { toList := [(47 : UInt8)] : Array UInt8 } : ByteArray } = slash,
  cM (cB (cB (cB p))) = true,
  (!partB (cA (cB (cB (cB p))))) = false,
  (cA (cB (cB (cB p)))).size.le (1000000000 : Nat),
  (cB (cB (cB p))).size ≤ (1000000000 : Nat) ∧ { data := { toList := [(47 : UInt8)] : Array UInt8 } : ByteArray } = slash,
  cM (cB (cB p)) = true,
  (!partB (cA (cB (cB p)))) = false,
  (cA (cB (cB p))).size.le (1000000000 : Nat),
  (cB (cB p)).size ≤ (1000000000 : Nat) ∧ { data := { toList := [(47 : UInt8)] : Array UInt8 } : ByteArray } = slash,
  cM (cB p) = true,
  (!partB (cA (cB p))) = false,
  (cA (cB p)).size.le (1000000000 : Nat),
  (cB p).size ≤ (1000000000 : Nat) ∧ { data := { toList := [(47 : UInt8)] : Array UInt8 } : ByteArray } = slash,
  cM p = true,
  (!partB (cA p)) = false,
  (cA p).size.le (1000000000 : Nat),
  p.size ≤ (1000000000 : Nat) ∧ { data := { toList := [(47 : UInt8)] : Array UInt8 } : ByteArray } = slash,
  decide ((↑p.size : Int) > (96 : Int)) = false] := by kernel_rfl
theorem cA_size (s : ByteArray) : (cA s).size ≤ s.size := by
  have e : (cA s).size = (Lib.cut s.data.toList [47]).1.length := by simp [cA, ByteArray.size]
  have e2 : s.data.toList.length = s.size := by simp
  rw [e]; unfold Lib.cut
  split
  · simp only [List.length_take]; omega
  · simp
def chkF : Nat → ByteArray → Bool
  | 0, _ => false
  | n + 1, p => partB (cA p) && (!(cM p) || chkF n (cB p))
/-- Is a text a path? -/
def goodB (p : ByteArray) : Bool := decide (p.size ≤ 96) && chkF 6 p
def checkN (p : ByteArray) : Int := bif goodB p then 0 else 23
def checkPS : PS := fun args => match args with | [.string p] => some (.int .i64 (checkN p), p.size ≤ 1000000000) | _ => none
theorem KC {w0 : World} (h : MX w0) : Facts EC (layOwn [] []) w0 := factsP (X := MX) (fun r hr => by
  simp only [List.mem_cons, List.not_mem_nil, or_false] at hr
  rcases hr with rfl | rfl
  · exact cut_ok
  · exact ⟨part_ok.1, fun args v p e hp w _ => part_ok.2 args v p e hp w trivial⟩) fun ν s w hr _ => h.keep fun k hk => hr.frame k hk (not_laid k)
theorem check_ok : PureOK Tryz.prog MX (51, checkPS) := by
  refine .mk ⟨_, Tryz.func51, by kernel_rfl, by kernel_rfl⟩ fun args v p h hp w hX => ?_
  dsimp only [checkPS] at h
  split at h
  · rename_i p
    cases h
    have go : ∀ {o v}, Due (endsV EC 51 3000 (entE EC 51 [.v (.string p)]) o v) → v = .int .i64 (checkN p) → Calls Tryz.prog 51 #[.string p] w fun e w' => Below w.heap.size w w' ∧ e = .returned (.int .i64 (checkN p)) := fun h e =>
      e ▸ calls_endsV (E := EC) (args := [.v (.string p)]) rfl rfl (KC hX) (by kernel_rfl) (VRL.cons (VR.v_iff.2 rfl) VRL.nil) h
    by_cases h96 : p.size > 96
    · exact go (o := [(0, .b true)]) ⟨by rw [c0]; exact ⟨⟨trivial, decide_eq_true (by omega)⟩, rfl⟩⟩ (by simp [checkN, goodB, show ¬ p.size ≤ 96 by omega])
    have d96 : decide ((p.size : Int) > 96) = false := decide_eq_false (by omega)
    have g96 : decide (p.size ≤ 96) = true := decide_eq_true (by omega)
    have sl : (⟨⟨[47]⟩⟩ : ByteArray) = slash := rfl
    have s0 : p.size ≤ 1000000000 := hp
    have a0 : (cA p).size ≤ 1000000000 := Nat.le_trans (cA_size _) s0
    have s1 : (cB p).size ≤ 1000000000 := Nat.le_trans (cB_size _) s0
    have a1 : (cA (cB p)).size ≤ 1000000000 := Nat.le_trans (cA_size _) s1
    have s2 : (cB (cB p)).size ≤ 1000000000 := Nat.le_trans (cB_size _) s1
    have a2 : (cA (cB (cB p))).size ≤ 1000000000 := Nat.le_trans (cA_size _) s2
    have s3 : (cB (cB (cB p))).size ≤ 1000000000 := Nat.le_trans (cB_size _) s2
    have a3 : (cA (cB (cB (cB p)))).size ≤ 1000000000 := Nat.le_trans (cA_size _) s3
    have s4 : (cB (cB (cB (cB p)))).size ≤ 1000000000 := Nat.le_trans (cB_size _) s3
    have a4 : (cA (cB (cB (cB (cB p))))).size ≤ 1000000000 := Nat.le_trans (cA_size _) s4
    have s5 : (cB (cB (cB (cB (cB p))))).size ≤ 1000000000 := Nat.le_trans (cB_size _) s4
    have a5 : (cA (cB (cB (cB (cB (cB p)))))).size ≤ 1000000000 := Nat.le_trans (cA_size _) s5
    have s6 : (cB (cB (cB (cB (cB (cB p)))))).size ≤ 1000000000 := Nat.le_trans (cB_size _) s5
    cases p0 : partB (cA p)
    · exact go (o := (ff [0] false ++ ff [8] true)) (v := .int .i64 23) ⟨by rw [cb1]; simp [Owed, d96, sl, s0, a0, p0]⟩ (by simp [checkN, goodB, chkF, g96, p0])
    cases m0 : cM p
    · exact go (o := (ff [0, 8, 10] false ++ ff [] true)) (v := .int .i64 0) ⟨by rw [co1]; simp [Owed, d96, sl, s0, a0, p0, m0]⟩ (by simp [checkN, goodB, chkF, g96, p0, m0])
    cases p1 : partB (cA (cB p))
    · exact go (o := (ff [0, 8] false ++ ff [17, 10] true)) (v := .int .i64 23) ⟨by rw [cb2]; simp [Owed, d96, sl, s0, a0, p0, m0, s1, a1, p1]⟩ (by simp [checkN, goodB, chkF, g96, p0, m0, p1])
    cases m1 : cM (cB p)
    · exact go (o := (ff [0, 8, 17, 19] false ++ ff [10] true)) (v := .int .i64 0) ⟨by rw [co2]; simp [Owed, d96, sl, s0, a0, p0, m0, s1, a1, p1, m1]⟩ (by simp [checkN, goodB, chkF, g96, p0, m0, p1, m1])
    cases p2 : partB (cA (cB (cB p)))
    · exact go (o := (ff [0, 8, 17] false ++ ff [26, 10, 19] true)) (v := .int .i64 23) ⟨by rw [cb3]; simp [Owed, d96, sl, s0, a0, p0, m0, s1, a1, p1, m1, s2, a2, p2]⟩ (by simp [checkN, goodB, chkF, g96, p0, m0, p1, m1, p2])
    cases m2 : cM (cB (cB p))
    · exact go (o := (ff [0, 8, 17, 26, 28] false ++ ff [10, 19] true)) (v := .int .i64 0) ⟨by rw [co3]; simp [Owed, d96, sl, s0, a0, p0, m0, s1, a1, p1, m1, s2, a2, p2, m2]⟩ (by simp [checkN, goodB, chkF, g96, p0, m0, p1, m1, p2, m2])
    cases p3 : partB (cA (cB (cB (cB p))))
    · exact go (o := (ff [0, 8, 17, 26] false ++ ff [35, 10, 19, 28] true)) (v := .int .i64 23) ⟨by rw [cb4]; simp [Owed, d96, sl, s0, a0, p0, m0, s1, a1, p1, m1, s2, a2, p2, m2, s3, a3, p3]⟩ (by simp [checkN, goodB, chkF, g96, p0, m0, p1, m1, p2, m2, p3])
    cases m3 : cM (cB (cB (cB p)))
    · exact go (o := (ff [0, 8, 17, 26, 35, 37] false ++ ff [10, 19, 28] true)) (v := .int .i64 0) ⟨by rw [co4]; simp [Owed, d96, sl, s0, a0, p0, m0, s1, a1, p1, m1, s2, a2, p2, m2, s3, a3, p3, m3]⟩ (by simp [checkN, goodB, chkF, g96, p0, m0, p1, m1, p2, m2, p3, m3])
    cases p4 : partB (cA (cB (cB (cB (cB p)))))
    · exact go (o := (ff [0, 8, 17, 26, 35] false ++ ff [44, 10, 19, 28, 37] true)) (v := .int .i64 23) ⟨by rw [cb5]; simp [Owed, d96, sl, s0, a0, p0, m0, s1, a1, p1, m1, s2, a2, p2, m2, s3, a3, p3, m3, s4, a4, p4]⟩ (by simp [checkN, goodB, chkF, g96, p0, m0, p1, m1, p2, m2, p3, m3, p4])
    cases m4 : cM (cB (cB (cB (cB p))))
    · exact go (o := (ff [0, 8, 17, 26, 35, 44, 46] false ++ ff [10, 19, 28, 37] true)) (v := .int .i64 0) ⟨by rw [co5]; simp [Owed, d96, sl, s0, a0, p0, m0, s1, a1, p1, m1, s2, a2, p2, m2, s3, a3, p3, m3, s4, a4, p4, m4]⟩ (by simp [checkN, goodB, chkF, g96, p0, m0, p1, m1, p2, m2, p3, m3, p4, m4])
    cases p5 : partB (cA (cB (cB (cB (cB (cB p))))))
    · exact go (o := (ff [0, 8, 17, 26, 35, 44] false ++ ff [53, 10, 19, 28, 37, 46] true)) (v := .int .i64 23) ⟨by rw [cb6]; simp [Owed, d96, sl, s0, a0, p0, m0, s1, a1, p1, m1, s2, a2, p2, m2, s3, a3, p3, m3, s4, a4, p4, m4, s5, a5, p5]⟩ (by simp [checkN, goodB, chkF, g96, p0, m0, p1, m1, p2, m2, p3, m3, p4, m4, p5])
    cases m5 : cM (cB (cB (cB (cB (cB p)))))
    · exact go (o := (ff [0, 8, 17, 26, 35, 44, 53, 55] false ++ ff [10, 19, 28, 37, 46] true)) (v := .int .i64 0) ⟨by rw [co6]; simp [Owed, d96, sl, s0, a0, p0, m0, s1, a1, p1, m1, s2, a2, p2, m2, s3, a3, p3, m3, s4, a4, p4, m4, s5, a5, p5, m5]⟩ (by simp [checkN, goodB, chkF, g96, p0, m0, p1, m1, p2, m2, p3, m3, p4, m4, p5, m5])
    exact go (o := (ff [0, 8, 17, 26, 35, 44, 53] false ++ ff [10, 19, 28, 37, 46, 55] true)) (v := .int .i64 23) ⟨by rw [cd]; simp [Owed, d96, sl, s0, a0, p0, m0, s1, a1, p1, m1, s2, a2, p2, m2, s3, a3, p3, m3, s4, a4, p4, m4, s5, a5, p5, m5, s6]⟩ (by simp [checkN, goodB, chkF, g96, p0, m0, p1, m1, p2, m2, p3, m3, p4, m4, p5, m5])
  · cases h
theorem checkN_ne (p : ByteArray) (h : checkN p = 0) : p.size ≠ 0 := by
  intro e
  have hp : p = ⟨#[]⟩ := of_list (l := []) (by have : p.data.toList.length = 0 := by simpa using e
                                               exact List.length_eq_zero_iff.1 this)
  subst hp
  have h1 : cA ⟨#[]⟩ = ⟨#[]⟩ := cA_nil
  have h2 : partB ⟨#[]⟩ = false := by simp [partB]
  simp [checkN, goodB, chkF, h1, h2] at h
noncomputable def EU : Env := EP [(51, checkPS)] []
theorem u0 (p : ByteArray) (v : Value) : endsV EU 27 300 (entE EU 27 [.v (.string p)]) (ff [0, 1, 2, 3, 4, 5, 6] false) v = [
  Value.bool false = v,
  (checkN p == (0 : Int)) = false,
  (checkN p == (0 : Int)) = false,
  (checkN p == (0 : Int)) = false,
  (checkN p == (0 : Int)) = false,
  p.size.le (1000000000 : Nat)] := by kernel_rfl
theorem u1 (p : ByteArray) (v : Value) : endsV EU 27 300 (entE EU 27 [.v (.string p)]) (ff [0, 1, 2, 3, 4, 5, 6] true) v = [
  (Value.bool !(↑(p.data.getD (0 : Nat) (0 : UInt8)).toNat : Int) == (126 : Int)) = v,
  (checkN p == (0 : Int)) = true,
  (checkN p == (0 : Int)) = true,
  inRange (0 : Int) p.size = true,
  (checkN p == (0 : Int)) = true,
  (checkN p == (0 : Int)) = true,
  p.size.le (1000000000 : Nat)] := by kernel_rfl
/-- Is a text a user's path? -/
def userB (p : ByteArray) : Bool := checkN p == 0 && !(p.data.getD 0 0 == 126)
def userPS : PS := fun args => match args with | [.string p] => some (.bool (userB p), p.size ≤ 1000000000) | _ => none
theorem KU {w0 : World} (h : MX w0) : Facts EU (layOwn [] []) w0 := factsP (X := MX) (fun r hr => by
  simp only [List.mem_cons, List.not_mem_nil, or_false] at hr
  subst hr
  exact check_ok) fun ν s w hr _ => h.keep fun k hk => hr.frame k hk (not_laid k)
theorem user_ok : PureOK Tryz.prog MX (27, userPS) := by
  refine .mk ⟨_, Tryz.func27, by kernel_rfl, by kernel_rfl⟩ fun args v p h hp w hX => ?_
  dsimp only [userPS] at h
  split at h
  · rename_i p
    cases h
    have go : ∀ {o v}, Due (endsV EU 27 300 (entE EU 27 [.v (.string p)]) o v) → v = .bool (userB p) → Calls Tryz.prog 27 #[.string p] w fun e w' => Below w.heap.size w w' ∧ e = .returned (.bool (userB p)) := fun h e =>
      e ▸ calls_endsV (E := EU) (args := [.v (.string p)]) rfl rfl (KU hX) (by kernel_rfl) (VRL.cons (VR.v_iff.2 rfl) VRL.nil) h
    by_cases h0 : checkN p = 0
    · have hs := checkN_ne p h0
      refine go (o := ff [0, 1, 2, 3, 4, 5, 6] true) (v := .bool (userB p)) ⟨?_⟩ rfl
      rw [u1]
      have hr : inRange 0 p.size = true := by unfold inRange; exact decide_eq_true (by omega)
      have hc : (((p.data.getD 0 0).toNat : Int) == 126) = (p.data.getD 0 0 == 126) := by
        by_cases e : p.data.getD 0 0 = 126
        · rw [e]; rfl
        · have : ¬ ((p.data.getD 0 0).toNat : Int) = 126 := fun h => e (UInt8.toNat_inj.1 (show (p.data.getD 0 0).toNat = 126 by omega))
          rw [beq_eq_false_iff_ne.2 e, beq_eq_false_iff_ne.2 this]
      refine ⟨⟨⟨⟨⟨⟨⟨trivial, hp⟩, ?_⟩, ?_⟩, hr⟩, ?_⟩, ?_⟩, ?_⟩ <;> first | (rw [h0]; rfl) | (rw [hc]; simp [userB, h0])
    · have hz : (checkN p == 0) = false := beq_eq_false_iff_ne.2 h0
      refine go (o := ff [0, 1, 2, 3, 4, 5, 6] false) (v := .bool false) ⟨?_⟩ (by simp [userB, hz])
      rw [u0]
      exact ⟨⟨⟨⟨⟨⟨trivial, hp⟩, hz⟩, hz⟩, hz⟩, hz⟩, rfl⟩
  · cases h
end paths
end Go.Proofs.YtgbampboehgcjaaGreatDoor
namespace Go.Proofs.YtgbampboehgcjaaGreatDoor
open Go Go.Rx Go.RowKit Go.Shelf Go.Sort Go.Lib Go.Proofs
set_option linter.unusedVariables false
set_option linter.unusedSimpArgs false
set_option maxRecDepth 100000
namespace fmtU
def laysND_ren : Go.Shelf.Ren := ⟨fun | 284 => 86 | 129 => 101 | 317 => 100 | 318 => 102 | n => n, fun | 53 => 22 | 3 => 3 | 212 => 166 | 0 => 0 | 4 => 4 | 46 => 170 | 5 => 5 | 9 => 9 | n => n, fun | 17 => 1 | n => n⟩
theorem laysND : Go.Proofs.LaysM.n284 Tryz.prog laysND_ren where
  mixed := by kernel_rfl
  f129 := Tryz.func101.trans (congrArg some (by kernel_rfl))
  f284 := Tryz.func86.trans (congrArg some (by kernel_rfl))
  f317 := Tryz.func100.trans (congrArg some (by kernel_rfl))
  f318 := Tryz.func102.trans (congrArg some (by kernel_rfl))
  t0 := Tryz.underlying0
  a0 := Tryz.isAgg0
  z0 := Tryz.sizeOf0
  v0 := Tryz.zeroValue0
  t3 := Tryz.underlying3
  a3 := Tryz.isAgg3
  z3 := Tryz.sizeOf3
  v3 := Tryz.zeroValue3
  t4 := Tryz.underlying4
  a4 := Tryz.isAgg4
  z4 := Tryz.sizeOf4
  v4 := Tryz.zeroValue4
  t5 := Tryz.underlying5
  a5 := Tryz.isAgg5
  z5 := Tryz.sizeOf5
  v5 := Tryz.zeroValue5
  t9 := Tryz.underlying9
  a9 := Tryz.isAgg9
  z9 := Tryz.sizeOf9
  v9 := Tryz.zeroValue9
  t46 := Tryz.underlying170
  a46 := Tryz.isAgg170
  z46 := Tryz.sizeOf170
  v46 := Tryz.zeroValue170
  t53 := Tryz.underlying22
  a53 := Tryz.isAgg22
  z53 := Tryz.sizeOf22
  v53 := Tryz.zeroValue22
  t212 := Tryz.underlying166
  a212 := Tryz.isAgg166
  z212 := Tryz.sizeOf166
  v212 := Tryz.zeroValue166
  g17 := by kernel_rfl
  i0 := by kernel_rfl
  i3 := by kernel_rfl
  i4 := by kernel_rfl
  i5 := by kernel_rfl
  i9 := by kernel_rfl
  i46 := by kernel_rfl
  i53 := by kernel_rfl
  i212 := by kernel_rfl
  m17 := by kernel_rfl

def laysFB_ren : Go.Shelf.Ren := ⟨fun | 285 => 87 | n => n, fun | 37 => 23 | 53 => 22 | 3 => 3 | 4 => 4 | 51 => 167 | 9 => 9 | 5 => 5 | 0 => 0 | n => n, fun | n => n⟩
theorem laysFB : Go.Proofs.Lays.n285 Tryz.prog laysFB_ren where
  mixed := by kernel_rfl
  f285 := Tryz.func87.trans (congrArg some (by kernel_rfl))
  t0 := Tryz.underlying0
  a0 := Tryz.isAgg0
  z0 := Tryz.sizeOf0
  v0 := Tryz.zeroValue0
  t3 := Tryz.underlying3
  a3 := Tryz.isAgg3
  z3 := Tryz.sizeOf3
  v3 := Tryz.zeroValue3
  t4 := Tryz.underlying4
  a4 := Tryz.isAgg4
  z4 := Tryz.sizeOf4
  v4 := Tryz.zeroValue4
  t5 := Tryz.underlying5
  a5 := Tryz.isAgg5
  z5 := Tryz.sizeOf5
  v5 := Tryz.zeroValue5
  t9 := Tryz.underlying9
  a9 := Tryz.isAgg9
  z9 := Tryz.sizeOf9
  v9 := Tryz.zeroValue9
  t37 := Tryz.underlying23
  a37 := Tryz.isAgg23
  z37 := Tryz.sizeOf23
  v37 := Tryz.zeroValue23
  t51 := Tryz.underlying167
  a51 := Tryz.isAgg167
  z51 := Tryz.sizeOf167
  v51 := Tryz.zeroValue167
  t53 := Tryz.underlying22
  a53 := Tryz.isAgg22
  z53 := Tryz.sizeOf22
  v53 := Tryz.zeroValue22

def laysSM_ren : Go.Shelf.Ren := ⟨fun | 283 => 85 | n => n, fun | 3 => 3 | 9 => 9 | 4 => 4 | n => n, fun | n => n⟩
theorem laysSM : Go.Proofs.Lays.n283 Tryz.prog laysSM_ren where
  mixed := by kernel_rfl
  f283 := Tryz.func85.trans (congrArg some (by kernel_rfl))
  t3 := Tryz.underlying3
  a3 := Tryz.isAgg3
  z3 := Tryz.sizeOf3
  v3 := Tryz.zeroValue3
  t4 := Tryz.underlying4
  a4 := Tryz.isAgg4
  z4 := Tryz.sizeOf4
  v4 := Tryz.zeroValue4
  t9 := Tryz.underlying9
  a9 := Tryz.isAgg9
  z9 := Tryz.sizeOf9
  v9 := Tryz.zeroValue9


/-- The new block's bytes are a row of zeros. -/
theorem holds_zero0 (w : World) (T : TypeId) (nd : Nat) (hs : nd ≤ 24) : Holds (fun (b : UInt8) => Value.int .u8 (b.toNat : Int)) (w.alloc (.cells zeros24 T)) w.heap.size 0 (Array.replicate nd (0 : UInt8)) := fun j hj => by
  have hj' : j < nd := by simpa using hj
  refine ⟨?_, World.frozen?_alloc_new _ _ _ _⟩
  rw [World.cell?_alloc_new, zeros24_at _ (by omega), getElem!_pos _ j hj]
  simp
theorem fin0 (w : World) (o : Obj) (dk : Array UInt8) (k : Nat) : ∃ os, (putRow (fun (b : UInt8) => Value.int .u8 (b.toNat : Int)) (w.alloc o) w.heap.size 0 dk).drewN k = grow (w.drewN k) os := by
  rw [alloc_eq_grow]
  obtain ⟨os', _, e⟩ := putRow_grow_new (fun (b : UInt8) => Value.int .u8 (b.toNat : Int)) w #[o] w.heap.size 0 dk (Nat.le_refl _)
  exact ⟨os', by rw [e]; rfl⟩
set_option maxHeartbeats 6400000 in
theorem inner_ok (u : Nat) (hu64 : u < 18446744073709551616) (w : World) (htab : Lib.TabIs Tryz.prog w "internal/strconv.uint64pow10" .u64 Lib.pow10Tab) :
    Calls Tryz.prog 61 #[.int .u64 u, .int .i64 10] w fun e w' => e = .returned (.string ⟨(Lib.decDigits u).toArray⟩) ∧ ∃ k os, w' = grow (w.drewN k) os := by
  by_cases hs : u < 100
  · have hw : IntKind.i64.wrap (u : Int) = u := IntWalk.i64_in _ (by omega)
    go_enter Tryz.func61, Tryz.ntmps61
    go_wp2_with (go_at_call 85; refine (Any.internal_strconv_small laysSM u hs _).mono ?_; rintro e w' ⟨rfl, rfl⟩)

    go_ret
    exact ⟨rfl, 0, #[], by simp [World.drewN_zero]⟩
  · have hu1 : 1 ≤ u := by omega
    have hnd20 : Lib.nDigits u ≤ 20 := by have := Lib.numDigits_eq u hu1 hu64; split at this <;> omega
    have hal : Tryz.prog.arrayLen 133 = 24 := by simp [Program.arrayLen, Tryz.underlying133]
    have hsl1 : ∀ W, (Instr.sliceAt 133 (.pointer (some ⟨w.heap.size, 0, none⟩)) none (some (.int .i64 (Lib.nDigits u : Int))) none).run Tryz.prog W = .ok (.slice (some ⟨w.heap.size, 0, none⟩) (Lib.nDigits u) 24) W := fun W => by
      rw [run_sliceAt_array_h W 133 ⟨w.heap.size, 0, none⟩ (by simp [Program.arrayLen, Program.elem, Tryz.underlying133]) .i64 (Lib.nDigits u : Int) (by omega) (by rw [hal]; omega)]
      go_simp
    have hH0 := holds_zero0 w 133 (Lib.nDigits u) (by omega)
    have hfmt := Any.internal_strconv_formatBase10 laysFB w.heap.size 0 24 u (Array.replicate (Lib.nDigits u) 0) (w.alloc (.cells Lib.zeros24 133)) hH0 (by rw [Array.size_replicate]; exact Lib.lt_pow_nDigits u) hu64 (by rw [Array.size_replicate]; omega)
    rw [Array.size_replicate] at hfmt
    have HH0 := Lib.hid hH0
    clear hH0 hal
    go_enter Tryz.func61, Tryz.ntmps61
    go_wp2_with (first
      | (go_at_call 86; refine (Any.internal_strconv_numDigits laysND u hu1 hu64 _ (Lib.tabIs_alloc htab _)).mono ?_; rintro e w' ⟨rfl, rfl⟩))

    go_at_call 87
    refine hfmt.mono ?_
    rintro e w' ⟨rfl, k, v', dk, rfl, hF⟩
    have hcv : (convert 23 9 (.slice (some ⟨w.heap.size, 0, none⟩) (Lib.nDigits u) 24)).run Tryz.prog ((putRow (fun (b : UInt8) => Value.int .u8 (b.toNat : Int)) (w.alloc (.cells Lib.zeros24 133)) w.heap.size 0 dk).drewN k) = .ok (.string ⟨(Lib.decDigits u).toArray⟩) ((putRow (fun (b : UInt8) => Value.int .u8 (b.toNat : Int)) (w.alloc (.cells Lib.zeros24 133)) w.heap.size 0 dk).drewN k) := by
      have h := run_convert_bytes_back (P := Tryz.prog) ((putRow (fun (b : UInt8) => Value.int .u8 (b.toNat : Int)) (w.alloc (.cells Lib.zeros24 133)) w.heap.size 0 dk).drewN k) 23 9 5 ⟨w.heap.size, 0, none⟩ 24 (Lib.decDigits u) Tryz.underlying23 Tryz.underlying5 Tryz.underlying9 (fun j hj => by
        rw [Lib.row_is_numeral hF j hj, Lib.add_plain, World.cell?_drewN]
        exact cell?_putRow (fun (b : UInt8) => Value.int .u8 (b.toNat : Int)) _ w.heap.size 0 _ dk HH0.out (by rw [hF.size, Array.size_replicate]) j (by rw [hF.size]; rw [Lib.decDigits_length] at hj; exact hj))
      rw [Lib.decDigits_length] at h
      exact h
    go_wp2
    go_ret
    obtain ⟨os, eo⟩ := fin0 w (.cells Lib.zeros24 133) dk k
    exact ⟨rfl, k, os, eo⟩
end fmtU
end Go.Proofs.YtgbampboehgcjaaGreatDoor
namespace Go.Proofs.YtgbampboehgcjaaGreatDoor
open Go Go.Rx Go.RowKit Go.Proofs
set_option linter.unusedVariables false
set_option linter.unusedSimpArgs false
set_option maxRecDepth 100000
namespace paths
def laysBE_ren : Go.Shelf.Ren := ⟨fun | 115 => 49 | n => n, fun | 37 => 23 | 4 => 4 | 9 => 9 | 5 => 5 | n => n, fun | n => n⟩
theorem laysBE : Go.Proofs.Lays.nb115 Tryz.prog laysBE_ren where
  mixed := by kernel_rfl
  f115 := Tryz.func49.trans (congrArg some (by kernel_rfl))
  t4 := Tryz.underlying4
  a4 := Tryz.isAgg4
  z4 := Tryz.sizeOf4
  v4 := Tryz.zeroValue4
  t9 := Tryz.underlying9
  a9 := Tryz.isAgg9
  z9 := Tryz.sizeOf9
  v9 := Tryz.zeroValue9
  t37 := Tryz.underlying23
  a37 := Tryz.isAgg23
  z37 := Tryz.sizeOf23
  v37 := Tryz.zeroValue23
  t5 := Tryz.underlying5
  a5 := Tryz.isAgg5
  z5 := Tryz.sizeOf5
  v5 := Tryz.zeroValue5

def byteV (n : Int) : List Value := [.int .u8 n]
section
variable {H : Type} {enc : TypeId × Value → H} {P : Program} {W : World} {base : Nat} {spare : Nat → Bool} {held : Bool}
theorem trod_sub {t ft : TypeId} {i o k n : Nat} {cs : List Value} {x : DataW H × List MemPlace} (h : DataW.trod enc P W base spare held n t cs = some x) (hs : P.underlying t = some (.struct (structFields P t))) (hf : (structFields P t)[i]? = some (fieldAt P t i))
    (ho : (fieldAt P t i).offset = o) (hty : (fieldAt P t i).type = ft) (hk : P.cellsOf ft = k) : ∃ n' y, DataW.trod enc P W base spare held n' ft ((cs.drop o).take k) = some y := by
  subst ho hty hk
  obtain ⟨xs, n', _, _, _, hlen, hg⟩ := DataW.trod_struct hs h
  have hi : i < xs.length := by rw [hlen]; exact (Array.getElem?_eq_some_iff.1 hf).1
  have := hg i _ hf
  rw [List.getElem?_eq_getElem hi] at this
  exact ⟨n', _, this⟩
theorem bytes_rows {t e : TypeId} {a : Option Addr} {l c n : Nat} {x : DataW H × List MemPlace} (ht : P.underlying t = some (.slice e)) (he : P.underlying e = some (.int .u8)) (hC : P.cellsOf e = 1) (hd : DataW.trod enc P W base spare held n t [.slice a l c] = some x) : ElemsIn byteV W a l c :=
  slice_rows (C := 1) (by decide) (fun _ => rfl) (fun _ _ _ h => by
    obtain ⟨n1, hn1, _⟩ := DataW.trod_int he h
    exact ⟨n1, hn1⟩) ht hC hd
end
theorem bytes_in {W w : World} {a : Option Addr} {l c : Nat} (h : ElemsIn byteV W a l c) (hk : ∀ k, k < W.heap.size → w.heap[k]? = W.heap[k]?) : ∃ ys : List Int, ys.length = l ∧ Lib.BytesIn w a l ys := by
  obtain ⟨_, rfl | ⟨b, off, xs, cs, e, fz, rfl, rfl, hh, hoff, hc⟩⟩ := h
  · exact ⟨[], rfl, Lib.BytesIn.nil _ _ _⟩
  · refine ⟨xs, rfl, Lib.BytesIn.of_cells fun i hi => ?_⟩
    have hlt := (Array.getElem?_eq_some_iff.1 hh).1
    have h2 : w.heap[b]? = some (.cells cs e fz) := by rw [hk b hlt]; exact hh
    have h3 : (xs.flatMap byteV)[i]? = some (.int .u8 (xs.getD i 0)) := by
      have := flatMap_put (h := byteV) (C := 1) (fun _ => rfl) (xs := xs) (i := i) (x := xs.getD i 0) (by simp [hi]) (j := 0) (by decide)
      rw [Nat.mul_one, Nat.add_zero] at this
      rw [this]; rfl
    have h4 := hc i _ h3
    rw [addr_add, cell_at h2]; exact h4
/-- bytes.Equal of no bytes and those that came in. -/
def eqPS (a0 : Option Addr) (l0 c0 : Nat) : PS := fun args => match args with
  | [.slice none 0 0, .slice a l c] => some (.bool (l == 0), a = a0 ∧ l = l0 ∧ c = c0)
  | _ => none
theorem eq_ok {W : World} {a0 : Option Addr} {l0 c0 : Nat} (h0 : ElemsIn byteV W a0 l0 c0) : PureOK Tryz.prog (fun w => ∀ k, k < W.heap.size → w.heap[k]? = W.heap[k]?) (49, eqPS a0 l0 c0) := by
  refine .mk ⟨_, Tryz.func49, by kernel_rfl, by kernel_rfl⟩ fun args v p h hp w hX => ?_
  dsimp only [eqPS] at h
  split at h
  · rename_i a l c
    cases h
    obtain ⟨rfl, rfl, rfl⟩ := hp
    obtain ⟨ys, hy, hin⟩ := bytes_in h0 hX
    refine (Any.bytes_Equal_all laysBE none a 0 0 l c [] ys w rfl hy (Lib.BytesIn.nil _ _ _) hin).mono fun e w' ⟨he, hw⟩ => ⟨by rw [hw]; exact Below.refl _ _, ?_⟩
    rw [he]
    congr 2
    cases ys with
    | nil => subst hy; rfl
    | cons y ys =>
      obtain rfl : ys.length + 1 = l := by simpa using hy
      have : (Lib.bytesOf ([] : List Int) == Lib.bytesOf (y :: ys)) = false := by
        rw [beq_eq_false_iff_ne]; intro e
        have := congrArg List.length e
        simp [Lib.bytesOf] at this
      rw [this]; simp
  · cases h
/-- leaf.Same of nothing and what came in. -/
def samePS (a0 : Option Addr) (l0 c0 : Nat) : PS := fun args => match args with
  | [.agg x, .agg y] => match x.toList, y.toList with
    | [.int .i64 0, .slice none 0 0], [.int .i64 k, .slice a l c] => some (.bool ((k == 0) && (l == 0)), a = a0 ∧ l = l0 ∧ c = c0)
    | _, _ => none
  | _ => none
noncomputable def EQ1 (a0 : Option Addr) (l0 c0 : Nat) : Env := EP [(49, eqPS a0 l0 c0)] []
theorem s0 (k : Int) (a0 : Option Addr) (l0 c0 : Nat) (v : Value) : endsV (EQ1 a0 l0 c0) 23 300 (entE (EQ1 a0 l0 c0) 23 [.v (.agg #[.int .i64 0, .slice none 0 0]), .v (.agg #[.int .i64 k, .slice a0 l0 c0])]) (ff [0, 1, 2, 3, 4, 5, 6] false) v = [
  Value.bool false = v,
  ((0 : Int) == k) = false,
  ((0 : Int) == k) = false,
  ((0 : Int) == k) = false,
  ((0 : Int) == k) = false,
  ((0 : Int) == k) = false,
  ((0 : Int) == k) = false] := by kernel_rfl
theorem s1 (k : Int) (a0 : Option Addr) (l0 c0 : Nat) (v : Value) : endsV (EQ1 a0 l0 c0) 23 300 (entE (EQ1 a0 l0 c0) 23 [.v (.agg #[.int .i64 0, .slice none 0 0]), .v (.agg #[.int .i64 k, .slice a0 l0 c0])]) (ff [0, 1, 2, 3, 4, 5, 6] true) v = [
  Value.bool (l0 == (0 : Nat)) = v,
  ((0 : Int) == k) = true,
  a0 = a0 ∧ l0 = l0 ∧ c0 = c0,
  ((0 : Int) == k) = true,
  ((0 : Int) == k) = true,
  ((0 : Int) == k) = true,
  ((0 : Int) == k) = true,
  ((0 : Int) == k) = true] := by kernel_rfl
theorem same_ok {W : World} {a0 : Option Addr} {l0 c0 : Nat} (h0 : ElemsIn byteV W a0 l0 c0) : PureOK Tryz.prog (fun w => ∀ k, k < W.heap.size → w.heap[k]? = W.heap[k]?) (23, samePS a0 l0 c0) := by
  refine .mk ⟨_, Tryz.func23, by kernel_rfl, by kernel_rfl⟩ fun args v p h hp w hX => ?_
  dsimp only [samePS] at h
  split at h
  · rename_i x y
    split at h
    · rename_i k a l c hx hy
      cases h
      obtain ⟨rfl, rfl, rfl⟩ := hp
      obtain rfl : x = #[.int .i64 0, .slice none 0 0] := by cases x; simpa using hx
      obtain rfl : y = #[.int .i64 k, .slice a l c] := by cases y; simpa using hy
      have K : Facts (EQ1 a l c) (layOwn [] []) w := factsP (X := fun w' => ∀ k, k < W.heap.size → w'.heap[k]? = W.heap[k]?) (fun r hr => by
        rw [show r = (49, eqPS a l c) from List.mem_singleton.1 hr]
        exact eq_ok h0) fun ν s w' hr _ i hi => (hr.frame i (by
          have := hX i hi
          rcases Nat.lt_or_ge i w.heap.size with h | h
          · exact h
          · rw [Array.getElem?_eq_none h, Array.getElem?_eq_getElem hi] at this; cases this) (not_laid i)).trans (hX i hi)
      have go : ∀ {o v}, Due (endsV (EQ1 a l c) 23 300 (entE (EQ1 a l c) 23 [.v (.agg #[.int .i64 0, .slice none 0 0]), .v (.agg #[.int .i64 k, .slice a l c])]) o v) → v = .bool ((k == 0) && (l == 0)) → Calls Tryz.prog 23 #[.agg #[.int .i64 0, .slice none 0 0], .agg #[.int .i64 k, .slice a l c]] w fun e w' => Below w.heap.size w w' ∧ e = .returned (.bool ((k == 0) && (l == 0))) := fun h e =>
        e ▸ calls_endsV (E := EQ1 a l c) (args := [.v (.agg #[.int .i64 0, .slice none 0 0]), .v (.agg #[.int .i64 k, .slice a l c])]) (a := [.agg #[.int .i64 0, .slice none 0 0], .agg #[.int .i64 k, .slice a l c]]) rfl rfl K (by kernel_rfl) (VRL.cons (VR.v_iff.2 rfl) (VRL.cons (VR.v_iff.2 rfl) VRL.nil)) h
      by_cases hk : k = 0
      · subst hk
        refine go (o := ff [0, 1, 2, 3, 4, 5, 6] true) (v := .bool (l == 0)) ⟨?_⟩ (by simp)
        rw [s1]; simp [Owed]
      · have hz : ((0 : Int) == k) = false := beq_eq_false_iff_ne.2 fun e => hk e.symm
        refine go (o := ff [0, 1, 2, 3, 4, 5, 6] false) (v := .bool false) ⟨?_⟩ (by simp [hk])
        rw [s0]; simp [Owed, hz]
    · cases h
  · cases h
end paths
end Go.Proofs.YtgbampboehgcjaaGreatDoor
