/- tale's words taken as an outcome (tale.parsed): its contract. By an AI agent. -/
import Derived.Test.YtagegnclcengjaaDoorTaleG
import Derived.Test.YtagegnclcengjaaDoorRyO
import Derived.Shelf.Strconv.AtoiErr
import Derived.Shelf.Strconv.Atoi
namespace Go.Proofs.YtagegnclcengjaaDoor
open Go Go.Rx Go.RowKit
set_option linter.unusedVariables false
set_option linter.unusedSimpArgs false
set_option maxRecDepth 100000
namespace words
def unB (l : List UInt8) : Bool := decide (l ≠ [] ∧ pathL (unL l) = l)
def unS (l : List UInt8) : ByteArray := if unB l = true then mkS (unL l) else ⟨#[]⟩
theorem resU_eq (l : List UInt8) : resU l (unL l) = .tuple #[.string (unS l), .bool (unB l)] := by
  unfold resU unS unB; split <;> simp_all
def unPS2 : PS := fun args => match args with | [.string p] => some (.tuple #[.string (unS p.data.toList), .bool (unB p.data.toList)], p.size ≤ 1000000000) | _ => none
theorem un_ok2 : PureOK Tryd.prog (fun _ => True) (8, unPS2) := by
  refine ⟨unpath_ok.1, fun args v p h hp w hX => ?_⟩
  dsimp only [unPS2] at h
  split at h
  · rename_i q
    cases h
    exact unpath_ok.2 [.string q] _ (q.size ≤ 1000000000) (by dsimp only [unPS]; rw [resU_eq]) hp w trivial
  · cases h
/-- What Atoi is told to give: a number, or an error. -/
def atoiSum (n : Option Int) : Sum := fun args s => match args with
  | [.v (.string b)] => match n with
    | some n => some (.v (.tuple #[.int .i64 n, .nilIface]), s.owe (Lib.atoi b.data.toList = some n ∧ b.size ≤ 18))
    | none => some (.tup [.junk, .iface 77 .junk], s.owe (Lib.atoi b.data.toList = none ∧ b.size ≤ 18))
  | _ => none
def lQ (n : Option Int) : List (FuncId × Sum) := [(8, pureSum unPS2), (33, atoiSum n)]
noncomputable def EQ' (n : Option Int) : Env := { EP [] [] with sums := fun f => (lQ n).lookup f }
def wsC (ws : List ByteArray) : List SV := ws.map fun b => .v (.string b)
noncomputable def entQ (n : Option Int) (ws : List ByteArray) (l c : Nat) : SM := (enterS (EQ' n) 25 [.sl 0 0 l (some c)] (memOf 6 1 0 [some (.look (wsC ws), false)])).getD noSM
theorem g1 (a : ByteArray) (c : Nat) (v : Value) : endsV (EQ' none) 25 900 (entQ none [a] 1 c) [(1000, .b true)] v = [
  Value.agg
   {
   toList :=
   [Value.string { data := { toList := [] : Array UInt8 } : ByteArray }, Value.int IntKind.i64 (0 : Int),
   Value.int IntKind.i64 (0 : Int)] :
   Array Value } =
   v,
  true = true,
  true = true,
  true = true,
  true = true,
  true = true,
  true = true,
  true = true] := by kernel_rfl
theorem gm0 (a b : ByteArray) (r : List ByteArray) (l c : Nat) (v : Value) : endsV (EQ' none) 25 1200 (entQ none (a :: b :: r) l c) (ff [24, 37, 50, 63, 76, 89] false ++ ff [] true ++ ff [2, 3, 4, 14, 15, 16, 27, 28, 29, 40, 41, 42, 53, 54, 55, 66, 67, 68, 79, 80, 81, 91] true ++ ff [94, 95, 96, 97, 98, 99] false) v = [
  Value.agg
   { toList := [Value.string (unS b.data.toList), Value.int IntKind.i64 (0 : Int), Value.int IntKind.i64 (0 : Int)] :
   Array Value } =
   v,
  ((↑l : Int) == (3 : Int)) = false,
  ((↑l : Int) == (3 : Int)) = false,
  ((↑l : Int) == (3 : Int)) = false,
  ((↑l : Int) == (3 : Int)) = false,
  ((↑l : Int) == (3 : Int)) = false,
  ((↑l : Int) == (3 : Int)) = false,
  b.size.le (1000000000 : Nat),
  inRange (1 : Int) l = true,
  decide ((↑l : Int) > (1 : Int)) = true,
  (a.toList ==
   {
   data :=
   {
   toList :=
   [(117 : UInt8), (110 : UInt8), (115 : UInt8), (101 : UInt8), (116 : UInt8), (116 : UInt8), (108 : UInt8),
   (101 : UInt8), (100 : UInt8)] :
   Array UInt8 } :
   ByteArray }.toList) =
   false,
  inRange (0 : Int) l = true,
  decide ((↑l : Int) > (1 : Int)) = true,
  decide ((↑l : Int) > (1 : Int)) = true,
  decide ((↑l : Int) > (1 : Int)) = true,
  true = true,
  (a.toList ==
   {
   data :=
   { toList := [(102 : UInt8), (97 : UInt8), (105 : UInt8), (108 : UInt8), (101 : UInt8), (100 : UInt8)] :
   Array UInt8 } :
   ByteArray }.toList) =
   false,
  inRange (0 : Int) l = true,
  decide ((↑l : Int) > (1 : Int)) = true,
  decide ((↑l : Int) > (1 : Int)) = true,
  decide ((↑l : Int) > (1 : Int)) = true,
  true = true,
  (a.toList ==
   { data := { toList := [(99 : UInt8), (108 : UInt8), (97 : UInt8), (115 : UInt8), (104 : UInt8)] : Array UInt8 } :
   ByteArray }.toList) =
   false,
  inRange (0 : Int) l = true,
  decide ((↑l : Int) > (1 : Int)) = true,
  decide ((↑l : Int) > (1 : Int)) = true,
  decide ((↑l : Int) > (1 : Int)) = true,
  true = true,
  (a.toList ==
   {
   data :=
   { toList := [(97 : UInt8), (103 : UInt8), (114 : UInt8), (101 : UInt8), (101 : UInt8), (100 : UInt8)] :
   Array UInt8 } :
   ByteArray }.toList) =
   false,
  inRange (0 : Int) l = true,
  decide ((↑l : Int) > (1 : Int)) = true,
  decide ((↑l : Int) > (1 : Int)) = true,
  decide ((↑l : Int) > (1 : Int)) = true,
  true = true,
  (a.toList ==
   {
   data :=
   { toList := [(112 : UInt8), (117 : UInt8), (108 : UInt8), (108 : UInt8), (101 : UInt8), (100 : UInt8)] :
   Array UInt8 } :
   ByteArray }.toList) =
   false,
  inRange (0 : Int) l = true,
  decide ((↑l : Int) > (1 : Int)) = true,
  decide ((↑l : Int) > (1 : Int)) = true,
  decide ((↑l : Int) > (1 : Int)) = true,
  true = true,
  (a.toList ==
   {
   data :=
   { toList := [(112 : UInt8), (117 : UInt8), (115 : UInt8), (104 : UInt8), (101 : UInt8), (100 : UInt8)] :
   Array UInt8 } :
   ByteArray }.toList) =
   false,
  inRange (0 : Int) l = true,
  decide ((↑l : Int) > (1 : Int)) = true,
  decide ((↑l : Int) > (1 : Int)) = true,
  decide ((↑l : Int) > (1 : Int)) = true,
  true = true,
  decide ((↑l : Int) > (1 : Int)) = true,
  decide ((↑l : Int) > (1 : Int)) = true,
  decide ((↑l : Int) > (1 : Int)) = true,
  true = true] := by kernel_rfl
theorem g0a (a b d : ByteArray) (c : Nat) (v : Value) : endsV (EQ' none) 25 1200 (entQ none [a, b, d] 3 c) (ff [24, 37, 50, 63, 76, 89] false ++ ff [] true ++ [(101, .b false)]) v = [
  Value.agg
   { toList := [Value.string (unS b.data.toList), Value.int IntKind.i64 (0 : Int), Value.int IntKind.i64 (0 : Int)] :
   Array Value } =
   v,
  decide ((↑d.size : Int) ≤ (9 : Int)) = false,
  true = true,
  b.size.le (1000000000 : Nat),
  true = true,
  (a.toList ==
   {
   data :=
   {
   toList :=
   [(117 : UInt8), (110 : UInt8), (115 : UInt8), (101 : UInt8), (116 : UInt8), (116 : UInt8), (108 : UInt8),
   (101 : UInt8), (100 : UInt8)] :
   Array UInt8 } :
   ByteArray }.toList) =
   false,
  true = true,
  true = true,
  (a.toList ==
   {
   data :=
   { toList := [(102 : UInt8), (97 : UInt8), (105 : UInt8), (108 : UInt8), (101 : UInt8), (100 : UInt8)] :
   Array UInt8 } :
   ByteArray }.toList) =
   false,
  true = true,
  true = true,
  (a.toList ==
   { data := { toList := [(99 : UInt8), (108 : UInt8), (97 : UInt8), (115 : UInt8), (104 : UInt8)] : Array UInt8 } :
   ByteArray }.toList) =
   false,
  true = true,
  true = true,
  (a.toList ==
   {
   data :=
   { toList := [(97 : UInt8), (103 : UInt8), (114 : UInt8), (101 : UInt8), (101 : UInt8), (100 : UInt8)] :
   Array UInt8 } :
   ByteArray }.toList) =
   false,
  true = true,
  true = true,
  (a.toList ==
   {
   data :=
   { toList := [(112 : UInt8), (117 : UInt8), (108 : UInt8), (108 : UInt8), (101 : UInt8), (100 : UInt8)] :
   Array UInt8 } :
   ByteArray }.toList) =
   false,
  true = true,
  true = true,
  (a.toList ==
   {
   data :=
   { toList := [(112 : UInt8), (117 : UInt8), (115 : UInt8), (104 : UInt8), (101 : UInt8), (100 : UInt8)] :
   Array UInt8 } :
   ByteArray }.toList) =
   false,
  true = true,
  true = true,
  true = true] := by kernel_rfl
theorem g0b (a b d : ByteArray) (c : Nat) (v : Value) : endsV (EQ' none) 25 1200 (entQ none [a, b, d] 3 c) (ff [24, 37, 50, 63, 76, 89] false ++ ff [] true ++ [(101, .b true)]) v = [
  Value.agg
   { toList := [Value.string (unS b.data.toList), Value.int IntKind.i64 (0 : Int), Value.int IntKind.i64 (0 : Int)] :
   Array Value } =
   v,
  Lib.atoi d.data.toList = none ∧ d.size ≤ (18 : Nat),
  true = true,
  decide ((↑d.size : Int) ≤ (9 : Int)) = true,
  true = true,
  b.size.le (1000000000 : Nat),
  true = true,
  (a.toList ==
   {
   data :=
   {
   toList :=
   [(117 : UInt8), (110 : UInt8), (115 : UInt8), (101 : UInt8), (116 : UInt8), (116 : UInt8), (108 : UInt8),
   (101 : UInt8), (100 : UInt8)] :
   Array UInt8 } :
   ByteArray }.toList) =
   false,
  true = true,
  true = true,
  (a.toList ==
   {
   data :=
   { toList := [(102 : UInt8), (97 : UInt8), (105 : UInt8), (108 : UInt8), (101 : UInt8), (100 : UInt8)] :
   Array UInt8 } :
   ByteArray }.toList) =
   false,
  true = true,
  true = true,
  (a.toList ==
   { data := { toList := [(99 : UInt8), (108 : UInt8), (97 : UInt8), (115 : UInt8), (104 : UInt8)] : Array UInt8 } :
   ByteArray }.toList) =
   false,
  true = true,
  true = true,
  (a.toList ==
   {
   data :=
   { toList := [(97 : UInt8), (103 : UInt8), (114 : UInt8), (101 : UInt8), (101 : UInt8), (100 : UInt8)] :
   Array UInt8 } :
   ByteArray }.toList) =
   false,
  true = true,
  true = true,
  (a.toList ==
   {
   data :=
   { toList := [(112 : UInt8), (117 : UInt8), (108 : UInt8), (108 : UInt8), (101 : UInt8), (100 : UInt8)] :
   Array UInt8 } :
   ByteArray }.toList) =
   false,
  true = true,
  true = true,
  (a.toList ==
   {
   data :=
   { toList := [(112 : UInt8), (117 : UInt8), (115 : UInt8), (104 : UInt8), (101 : UInt8), (100 : UInt8)] :
   Array UInt8 } :
   ByteArray }.toList) =
   false,
  true = true,
  true = true,
  true = true] := by kernel_rfl
theorem g0c (a b d : ByteArray) (n : Int) (c : Nat) (v : Value) : endsV (EQ' (some n)) 25 1200 (entQ (some n) [a, b, d] 3 c) (ff [24, 37, 50, 63, 76, 89] false ++ ff [] true ++ [(101, .b true), (107, .b true)]) v = [
  Value.agg
   { toList := [Value.string (unS b.data.toList), Value.int IntKind.i64 (0 : Int), Value.int IntKind.i64 n] :
   Array Value } =
   v,
  decide (n ≥ (0 : Int)) = true,
  Lib.atoi d.data.toList = some n ∧ d.size ≤ (18 : Nat),
  true = true,
  decide ((↑d.size : Int) ≤ (9 : Int)) = true,
  true = true,
  b.size.le (1000000000 : Nat),
  true = true,
  (a.toList ==
   {
   data :=
   {
   toList :=
   [(117 : UInt8), (110 : UInt8), (115 : UInt8), (101 : UInt8), (116 : UInt8), (116 : UInt8), (108 : UInt8),
   (101 : UInt8), (100 : UInt8)] :
   Array UInt8 } :
   ByteArray }.toList) =
   false,
  true = true,
  true = true,
  (a.toList ==
   {
   data :=
   { toList := [(102 : UInt8), (97 : UInt8), (105 : UInt8), (108 : UInt8), (101 : UInt8), (100 : UInt8)] :
   Array UInt8 } :
   ByteArray }.toList) =
   false,
  true = true,
  true = true,
  (a.toList ==
   { data := { toList := [(99 : UInt8), (108 : UInt8), (97 : UInt8), (115 : UInt8), (104 : UInt8)] : Array UInt8 } :
   ByteArray }.toList) =
   false,
  true = true,
  true = true,
  (a.toList ==
   {
   data :=
   { toList := [(97 : UInt8), (103 : UInt8), (114 : UInt8), (101 : UInt8), (101 : UInt8), (100 : UInt8)] :
   Array UInt8 } :
   ByteArray }.toList) =
   false,
  true = true,
  true = true,
  (a.toList ==
   {
   data :=
   { toList := [(112 : UInt8), (117 : UInt8), (108 : UInt8), (108 : UInt8), (101 : UInt8), (100 : UInt8)] :
   Array UInt8 } :
   ByteArray }.toList) =
   false,
  true = true,
  true = true,
  (a.toList ==
   {
   data :=
   { toList := [(112 : UInt8), (117 : UInt8), (115 : UInt8), (104 : UInt8), (101 : UInt8), (100 : UInt8)] :
   Array UInt8 } :
   ByteArray }.toList) =
   false,
  true = true,
  true = true,
  true = true] := by kernel_rfl
theorem g0d (a b d : ByteArray) (n : Int) (c : Nat) (v : Value) : endsV (EQ' (some n)) 25 1200 (entQ (some n) [a, b, d] 3 c) (ff [24, 37, 50, 63, 76, 89] false ++ ff [] true ++ [(101, .b true), (107, .b false)]) v = [
  Value.agg
   { toList := [Value.string (unS b.data.toList), Value.int IntKind.i64 (0 : Int), Value.int IntKind.i64 (0 : Int)] :
   Array Value } =
   v,
  decide (n ≥ (0 : Int)) = false,
  Lib.atoi d.data.toList = some n ∧ d.size ≤ (18 : Nat),
  true = true,
  decide ((↑d.size : Int) ≤ (9 : Int)) = true,
  true = true,
  b.size.le (1000000000 : Nat),
  true = true,
  (a.toList ==
   {
   data :=
   {
   toList :=
   [(117 : UInt8), (110 : UInt8), (115 : UInt8), (101 : UInt8), (116 : UInt8), (116 : UInt8), (108 : UInt8),
   (101 : UInt8), (100 : UInt8)] :
   Array UInt8 } :
   ByteArray }.toList) =
   false,
  true = true,
  true = true,
  (a.toList ==
   {
   data :=
   { toList := [(102 : UInt8), (97 : UInt8), (105 : UInt8), (108 : UInt8), (101 : UInt8), (100 : UInt8)] :
   Array UInt8 } :
   ByteArray }.toList) =
   false,
  true = true,
  true = true,
  (a.toList ==
   { data := { toList := [(99 : UInt8), (108 : UInt8), (97 : UInt8), (115 : UInt8), (104 : UInt8)] : Array UInt8 } :
   ByteArray }.toList) =
   false,
  true = true,
  true = true,
  (a.toList ==
   {
   data :=
   { toList := [(97 : UInt8), (103 : UInt8), (114 : UInt8), (101 : UInt8), (101 : UInt8), (100 : UInt8)] :
   Array UInt8 } :
   ByteArray }.toList) =
   false,
  true = true,
  true = true,
  (a.toList ==
   {
   data :=
   { toList := [(112 : UInt8), (117 : UInt8), (108 : UInt8), (108 : UInt8), (101 : UInt8), (100 : UInt8)] :
   Array UInt8 } :
   ByteArray }.toList) =
   false,
  true = true,
  true = true,
  (a.toList ==
   {
   data :=
   { toList := [(112 : UInt8), (117 : UInt8), (115 : UInt8), (104 : UInt8), (101 : UInt8), (100 : UInt8)] :
   Array UInt8 } :
   ByteArray }.toList) =
   false,
  true = true,
  true = true,
  true = true] := by kernel_rfl
theorem gm1 (a b : ByteArray) (r : List ByteArray) (l c : Nat) (v : Value) : endsV (EQ' none) 25 1200 (entQ none (a :: b :: r) l c) (ff [37, 50, 63, 76, 89] false ++ ff [24] true ++ ff [2, 3, 4, 14, 15, 16, 27, 28, 29, 40, 41, 42, 53, 54, 55, 66, 67, 68, 79, 80, 81, 91] true ++ ff [94, 95, 96, 97, 98, 99] false) v = [
  Value.agg
   {
   toList :=
   [Value.string (unS b.data.toList), Value.int IntKind.i64 (IntKind.i64.wrap ((0 : Int) + (1 : Int))),
   Value.int IntKind.i64 (0 : Int)] :
   Array Value } =
   v,
  ((↑l : Int) == (3 : Int)) = false,
  ((↑l : Int) == (3 : Int)) = false,
  ((↑l : Int) == (3 : Int)) = false,
  ((↑l : Int) == (3 : Int)) = false,
  ((↑l : Int) == (3 : Int)) = false,
  ((↑l : Int) == (3 : Int)) = false,
  b.size.le (1000000000 : Nat),
  inRange (1 : Int) l = true,
  decide ((↑l : Int) > (1 : Int)) = true,
  (a.toList ==
   {
   data :=
   {
   toList :=
   [(117 : UInt8), (110 : UInt8), (115 : UInt8), (101 : UInt8), (116 : UInt8), (116 : UInt8), (108 : UInt8),
   (101 : UInt8), (100 : UInt8)] :
   Array UInt8 } :
   ByteArray }.toList) =
   false,
  inRange (0 : Int) l = true,
  decide ((↑l : Int) > (1 : Int)) = true,
  decide ((↑l : Int) > (1 : Int)) = true,
  decide ((↑l : Int) > (1 : Int)) = true,
  true = true,
  (a.toList ==
   {
   data :=
   { toList := [(102 : UInt8), (97 : UInt8), (105 : UInt8), (108 : UInt8), (101 : UInt8), (100 : UInt8)] :
   Array UInt8 } :
   ByteArray }.toList) =
   false,
  inRange (0 : Int) l = true,
  decide ((↑l : Int) > (1 : Int)) = true,
  decide ((↑l : Int) > (1 : Int)) = true,
  decide ((↑l : Int) > (1 : Int)) = true,
  true = true,
  (a.toList ==
   { data := { toList := [(99 : UInt8), (108 : UInt8), (97 : UInt8), (115 : UInt8), (104 : UInt8)] : Array UInt8 } :
   ByteArray }.toList) =
   false,
  inRange (0 : Int) l = true,
  decide ((↑l : Int) > (1 : Int)) = true,
  decide ((↑l : Int) > (1 : Int)) = true,
  decide ((↑l : Int) > (1 : Int)) = true,
  true = true,
  (a.toList ==
   {
   data :=
   { toList := [(97 : UInt8), (103 : UInt8), (114 : UInt8), (101 : UInt8), (101 : UInt8), (100 : UInt8)] :
   Array UInt8 } :
   ByteArray }.toList) =
   false,
  inRange (0 : Int) l = true,
  decide ((↑l : Int) > (1 : Int)) = true,
  decide ((↑l : Int) > (1 : Int)) = true,
  decide ((↑l : Int) > (1 : Int)) = true,
  true = true,
  (a.toList ==
   {
   data :=
   { toList := [(112 : UInt8), (117 : UInt8), (108 : UInt8), (108 : UInt8), (101 : UInt8), (100 : UInt8)] :
   Array UInt8 } :
   ByteArray }.toList) =
   false,
  inRange (0 : Int) l = true,
  decide ((↑l : Int) > (1 : Int)) = true,
  decide ((↑l : Int) > (1 : Int)) = true,
  decide ((↑l : Int) > (1 : Int)) = true,
  true = true,
  (a.toList ==
   {
   data :=
   { toList := [(112 : UInt8), (117 : UInt8), (115 : UInt8), (104 : UInt8), (101 : UInt8), (100 : UInt8)] :
   Array UInt8 } :
   ByteArray }.toList) =
   true,
  inRange (0 : Int) l = true,
  decide ((↑l : Int) > (1 : Int)) = true,
  decide ((↑l : Int) > (1 : Int)) = true,
  decide ((↑l : Int) > (1 : Int)) = true,
  true = true,
  decide ((↑l : Int) > (1 : Int)) = true,
  decide ((↑l : Int) > (1 : Int)) = true,
  decide ((↑l : Int) > (1 : Int)) = true,
  true = true] := by kernel_rfl
theorem g1a (a b d : ByteArray) (c : Nat) (v : Value) : endsV (EQ' none) 25 1200 (entQ none [a, b, d] 3 c) (ff [37, 50, 63, 76, 89] false ++ ff [24] true ++ [(101, .b false)]) v = [
  Value.agg
   {
   toList :=
   [Value.string (unS b.data.toList), Value.int IntKind.i64 (IntKind.i64.wrap ((0 : Int) + (1 : Int))),
   Value.int IntKind.i64 (0 : Int)] :
   Array Value } =
   v,
  decide ((↑d.size : Int) ≤ (9 : Int)) = false,
  true = true,
  b.size.le (1000000000 : Nat),
  true = true,
  (a.toList ==
   {
   data :=
   {
   toList :=
   [(117 : UInt8), (110 : UInt8), (115 : UInt8), (101 : UInt8), (116 : UInt8), (116 : UInt8), (108 : UInt8),
   (101 : UInt8), (100 : UInt8)] :
   Array UInt8 } :
   ByteArray }.toList) =
   false,
  true = true,
  true = true,
  (a.toList ==
   {
   data :=
   { toList := [(102 : UInt8), (97 : UInt8), (105 : UInt8), (108 : UInt8), (101 : UInt8), (100 : UInt8)] :
   Array UInt8 } :
   ByteArray }.toList) =
   false,
  true = true,
  true = true,
  (a.toList ==
   { data := { toList := [(99 : UInt8), (108 : UInt8), (97 : UInt8), (115 : UInt8), (104 : UInt8)] : Array UInt8 } :
   ByteArray }.toList) =
   false,
  true = true,
  true = true,
  (a.toList ==
   {
   data :=
   { toList := [(97 : UInt8), (103 : UInt8), (114 : UInt8), (101 : UInt8), (101 : UInt8), (100 : UInt8)] :
   Array UInt8 } :
   ByteArray }.toList) =
   false,
  true = true,
  true = true,
  (a.toList ==
   {
   data :=
   { toList := [(112 : UInt8), (117 : UInt8), (108 : UInt8), (108 : UInt8), (101 : UInt8), (100 : UInt8)] :
   Array UInt8 } :
   ByteArray }.toList) =
   false,
  true = true,
  true = true,
  (a.toList ==
   {
   data :=
   { toList := [(112 : UInt8), (117 : UInt8), (115 : UInt8), (104 : UInt8), (101 : UInt8), (100 : UInt8)] :
   Array UInt8 } :
   ByteArray }.toList) =
   true,
  true = true,
  true = true,
  true = true] := by kernel_rfl
theorem g1b (a b d : ByteArray) (c : Nat) (v : Value) : endsV (EQ' none) 25 1200 (entQ none [a, b, d] 3 c) (ff [37, 50, 63, 76, 89] false ++ ff [24] true ++ [(101, .b true)]) v = [
  Value.agg
   {
   toList :=
   [Value.string (unS b.data.toList), Value.int IntKind.i64 (IntKind.i64.wrap ((0 : Int) + (1 : Int))),
   Value.int IntKind.i64 (0 : Int)] :
   Array Value } =
   v,
  Lib.atoi d.data.toList = none ∧ d.size ≤ (18 : Nat),
  true = true,
  decide ((↑d.size : Int) ≤ (9 : Int)) = true,
  true = true,
  b.size.le (1000000000 : Nat),
  true = true,
  (a.toList ==
   {
   data :=
   {
   toList :=
   [(117 : UInt8), (110 : UInt8), (115 : UInt8), (101 : UInt8), (116 : UInt8), (116 : UInt8), (108 : UInt8),
   (101 : UInt8), (100 : UInt8)] :
   Array UInt8 } :
   ByteArray }.toList) =
   false,
  true = true,
  true = true,
  (a.toList ==
   {
   data :=
   { toList := [(102 : UInt8), (97 : UInt8), (105 : UInt8), (108 : UInt8), (101 : UInt8), (100 : UInt8)] :
   Array UInt8 } :
   ByteArray }.toList) =
   false,
  true = true,
  true = true,
  (a.toList ==
   { data := { toList := [(99 : UInt8), (108 : UInt8), (97 : UInt8), (115 : UInt8), (104 : UInt8)] : Array UInt8 } :
   ByteArray }.toList) =
   false,
  true = true,
  true = true,
  (a.toList ==
   {
   data :=
   { toList := [(97 : UInt8), (103 : UInt8), (114 : UInt8), (101 : UInt8), (101 : UInt8), (100 : UInt8)] :
   Array UInt8 } :
   ByteArray }.toList) =
   false,
  true = true,
  true = true,
  (a.toList ==
   {
   data :=
   { toList := [(112 : UInt8), (117 : UInt8), (108 : UInt8), (108 : UInt8), (101 : UInt8), (100 : UInt8)] :
   Array UInt8 } :
   ByteArray }.toList) =
   false,
  true = true,
  true = true,
  (a.toList ==
   {
   data :=
   { toList := [(112 : UInt8), (117 : UInt8), (115 : UInt8), (104 : UInt8), (101 : UInt8), (100 : UInt8)] :
   Array UInt8 } :
   ByteArray }.toList) =
   true,
  true = true,
  true = true,
  true = true] := by kernel_rfl
theorem g1c (a b d : ByteArray) (n : Int) (c : Nat) (v : Value) : endsV (EQ' (some n)) 25 1200 (entQ (some n) [a, b, d] 3 c) (ff [37, 50, 63, 76, 89] false ++ ff [24] true ++ [(101, .b true), (107, .b true)]) v = [
  Value.agg
   {
   toList :=
   [Value.string (unS b.data.toList), Value.int IntKind.i64 (IntKind.i64.wrap ((0 : Int) + (1 : Int))),
   Value.int IntKind.i64 n] :
   Array Value } =
   v,
  decide (n ≥ (0 : Int)) = true,
  Lib.atoi d.data.toList = some n ∧ d.size ≤ (18 : Nat),
  true = true,
  decide ((↑d.size : Int) ≤ (9 : Int)) = true,
  true = true,
  b.size.le (1000000000 : Nat),
  true = true,
  (a.toList ==
   {
   data :=
   {
   toList :=
   [(117 : UInt8), (110 : UInt8), (115 : UInt8), (101 : UInt8), (116 : UInt8), (116 : UInt8), (108 : UInt8),
   (101 : UInt8), (100 : UInt8)] :
   Array UInt8 } :
   ByteArray }.toList) =
   false,
  true = true,
  true = true,
  (a.toList ==
   {
   data :=
   { toList := [(102 : UInt8), (97 : UInt8), (105 : UInt8), (108 : UInt8), (101 : UInt8), (100 : UInt8)] :
   Array UInt8 } :
   ByteArray }.toList) =
   false,
  true = true,
  true = true,
  (a.toList ==
   { data := { toList := [(99 : UInt8), (108 : UInt8), (97 : UInt8), (115 : UInt8), (104 : UInt8)] : Array UInt8 } :
   ByteArray }.toList) =
   false,
  true = true,
  true = true,
  (a.toList ==
   {
   data :=
   { toList := [(97 : UInt8), (103 : UInt8), (114 : UInt8), (101 : UInt8), (101 : UInt8), (100 : UInt8)] :
   Array UInt8 } :
   ByteArray }.toList) =
   false,
  true = true,
  true = true,
  (a.toList ==
   {
   data :=
   { toList := [(112 : UInt8), (117 : UInt8), (108 : UInt8), (108 : UInt8), (101 : UInt8), (100 : UInt8)] :
   Array UInt8 } :
   ByteArray }.toList) =
   false,
  true = true,
  true = true,
  (a.toList ==
   {
   data :=
   { toList := [(112 : UInt8), (117 : UInt8), (115 : UInt8), (104 : UInt8), (101 : UInt8), (100 : UInt8)] :
   Array UInt8 } :
   ByteArray }.toList) =
   true,
  true = true,
  true = true,
  true = true] := by kernel_rfl
theorem g1d (a b d : ByteArray) (n : Int) (c : Nat) (v : Value) : endsV (EQ' (some n)) 25 1200 (entQ (some n) [a, b, d] 3 c) (ff [37, 50, 63, 76, 89] false ++ ff [24] true ++ [(101, .b true), (107, .b false)]) v = [
  Value.agg
   {
   toList :=
   [Value.string (unS b.data.toList), Value.int IntKind.i64 (IntKind.i64.wrap ((0 : Int) + (1 : Int))),
   Value.int IntKind.i64 (0 : Int)] :
   Array Value } =
   v,
  decide (n ≥ (0 : Int)) = false,
  Lib.atoi d.data.toList = some n ∧ d.size ≤ (18 : Nat),
  true = true,
  decide ((↑d.size : Int) ≤ (9 : Int)) = true,
  true = true,
  b.size.le (1000000000 : Nat),
  true = true,
  (a.toList ==
   {
   data :=
   {
   toList :=
   [(117 : UInt8), (110 : UInt8), (115 : UInt8), (101 : UInt8), (116 : UInt8), (116 : UInt8), (108 : UInt8),
   (101 : UInt8), (100 : UInt8)] :
   Array UInt8 } :
   ByteArray }.toList) =
   false,
  true = true,
  true = true,
  (a.toList ==
   {
   data :=
   { toList := [(102 : UInt8), (97 : UInt8), (105 : UInt8), (108 : UInt8), (101 : UInt8), (100 : UInt8)] :
   Array UInt8 } :
   ByteArray }.toList) =
   false,
  true = true,
  true = true,
  (a.toList ==
   { data := { toList := [(99 : UInt8), (108 : UInt8), (97 : UInt8), (115 : UInt8), (104 : UInt8)] : Array UInt8 } :
   ByteArray }.toList) =
   false,
  true = true,
  true = true,
  (a.toList ==
   {
   data :=
   { toList := [(97 : UInt8), (103 : UInt8), (114 : UInt8), (101 : UInt8), (101 : UInt8), (100 : UInt8)] :
   Array UInt8 } :
   ByteArray }.toList) =
   false,
  true = true,
  true = true,
  (a.toList ==
   {
   data :=
   { toList := [(112 : UInt8), (117 : UInt8), (108 : UInt8), (108 : UInt8), (101 : UInt8), (100 : UInt8)] :
   Array UInt8 } :
   ByteArray }.toList) =
   false,
  true = true,
  true = true,
  (a.toList ==
   {
   data :=
   { toList := [(112 : UInt8), (117 : UInt8), (115 : UInt8), (104 : UInt8), (101 : UInt8), (100 : UInt8)] :
   Array UInt8 } :
   ByteArray }.toList) =
   true,
  true = true,
  true = true,
  true = true] := by kernel_rfl
theorem gm2 (a b : ByteArray) (r : List ByteArray) (l c : Nat) (v : Value) : endsV (EQ' none) 25 1200 (entQ none (a :: b :: r) l c) (ff [24, 50, 63, 76, 89] false ++ ff [37] true ++ ff [2, 3, 4, 14, 15, 16, 27, 28, 29, 40, 41, 42, 53, 54, 55, 66, 67, 68, 79, 80, 81, 91] true ++ ff [94, 95, 96, 97, 98, 99] false) v = [
  Value.agg
   {
   toList :=
   [Value.string (unS b.data.toList),
   Value.int IntKind.i64 (IntKind.i64.wrap (IntKind.i64.wrap ((0 : Int) + (1 : Int)) + (1 : Int))),
   Value.int IntKind.i64 (0 : Int)] :
   Array Value } =
   v,
  ((↑l : Int) == (3 : Int)) = false,
  ((↑l : Int) == (3 : Int)) = false,
  ((↑l : Int) == (3 : Int)) = false,
  ((↑l : Int) == (3 : Int)) = false,
  ((↑l : Int) == (3 : Int)) = false,
  ((↑l : Int) == (3 : Int)) = false,
  b.size.le (1000000000 : Nat),
  inRange (1 : Int) l = true,
  decide ((↑l : Int) > (1 : Int)) = true,
  (a.toList ==
   {
   data :=
   {
   toList :=
   [(117 : UInt8), (110 : UInt8), (115 : UInt8), (101 : UInt8), (116 : UInt8), (116 : UInt8), (108 : UInt8),
   (101 : UInt8), (100 : UInt8)] :
   Array UInt8 } :
   ByteArray }.toList) =
   false,
  inRange (0 : Int) l = true,
  decide ((↑l : Int) > (1 : Int)) = true,
  decide ((↑l : Int) > (1 : Int)) = true,
  decide ((↑l : Int) > (1 : Int)) = true,
  true = true,
  (a.toList ==
   {
   data :=
   { toList := [(102 : UInt8), (97 : UInt8), (105 : UInt8), (108 : UInt8), (101 : UInt8), (100 : UInt8)] :
   Array UInt8 } :
   ByteArray }.toList) =
   false,
  inRange (0 : Int) l = true,
  decide ((↑l : Int) > (1 : Int)) = true,
  decide ((↑l : Int) > (1 : Int)) = true,
  decide ((↑l : Int) > (1 : Int)) = true,
  true = true,
  (a.toList ==
   { data := { toList := [(99 : UInt8), (108 : UInt8), (97 : UInt8), (115 : UInt8), (104 : UInt8)] : Array UInt8 } :
   ByteArray }.toList) =
   false,
  inRange (0 : Int) l = true,
  decide ((↑l : Int) > (1 : Int)) = true,
  decide ((↑l : Int) > (1 : Int)) = true,
  decide ((↑l : Int) > (1 : Int)) = true,
  true = true,
  (a.toList ==
   {
   data :=
   { toList := [(97 : UInt8), (103 : UInt8), (114 : UInt8), (101 : UInt8), (101 : UInt8), (100 : UInt8)] :
   Array UInt8 } :
   ByteArray }.toList) =
   false,
  inRange (0 : Int) l = true,
  decide ((↑l : Int) > (1 : Int)) = true,
  decide ((↑l : Int) > (1 : Int)) = true,
  decide ((↑l : Int) > (1 : Int)) = true,
  true = true,
  (a.toList ==
   {
   data :=
   { toList := [(112 : UInt8), (117 : UInt8), (108 : UInt8), (108 : UInt8), (101 : UInt8), (100 : UInt8)] :
   Array UInt8 } :
   ByteArray }.toList) =
   true,
  inRange (0 : Int) l = true,
  decide ((↑l : Int) > (1 : Int)) = true,
  decide ((↑l : Int) > (1 : Int)) = true,
  decide ((↑l : Int) > (1 : Int)) = true,
  true = true,
  (a.toList ==
   {
   data :=
   { toList := [(112 : UInt8), (117 : UInt8), (115 : UInt8), (104 : UInt8), (101 : UInt8), (100 : UInt8)] :
   Array UInt8 } :
   ByteArray }.toList) =
   false,
  inRange (0 : Int) l = true,
  decide ((↑l : Int) > (1 : Int)) = true,
  decide ((↑l : Int) > (1 : Int)) = true,
  decide ((↑l : Int) > (1 : Int)) = true,
  true = true,
  decide ((↑l : Int) > (1 : Int)) = true,
  decide ((↑l : Int) > (1 : Int)) = true,
  decide ((↑l : Int) > (1 : Int)) = true,
  true = true] := by kernel_rfl
theorem g2a (a b d : ByteArray) (c : Nat) (v : Value) : endsV (EQ' none) 25 1200 (entQ none [a, b, d] 3 c) (ff [24, 50, 63, 76, 89] false ++ ff [37] true ++ [(101, .b false)]) v = [
  Value.agg
   {
   toList :=
   [Value.string (unS b.data.toList),
   Value.int IntKind.i64 (IntKind.i64.wrap (IntKind.i64.wrap ((0 : Int) + (1 : Int)) + (1 : Int))),
   Value.int IntKind.i64 (0 : Int)] :
   Array Value } =
   v,
  decide ((↑d.size : Int) ≤ (9 : Int)) = false,
  true = true,
  b.size.le (1000000000 : Nat),
  true = true,
  (a.toList ==
   {
   data :=
   {
   toList :=
   [(117 : UInt8), (110 : UInt8), (115 : UInt8), (101 : UInt8), (116 : UInt8), (116 : UInt8), (108 : UInt8),
   (101 : UInt8), (100 : UInt8)] :
   Array UInt8 } :
   ByteArray }.toList) =
   false,
  true = true,
  true = true,
  (a.toList ==
   {
   data :=
   { toList := [(102 : UInt8), (97 : UInt8), (105 : UInt8), (108 : UInt8), (101 : UInt8), (100 : UInt8)] :
   Array UInt8 } :
   ByteArray }.toList) =
   false,
  true = true,
  true = true,
  (a.toList ==
   { data := { toList := [(99 : UInt8), (108 : UInt8), (97 : UInt8), (115 : UInt8), (104 : UInt8)] : Array UInt8 } :
   ByteArray }.toList) =
   false,
  true = true,
  true = true,
  (a.toList ==
   {
   data :=
   { toList := [(97 : UInt8), (103 : UInt8), (114 : UInt8), (101 : UInt8), (101 : UInt8), (100 : UInt8)] :
   Array UInt8 } :
   ByteArray }.toList) =
   false,
  true = true,
  true = true,
  (a.toList ==
   {
   data :=
   { toList := [(112 : UInt8), (117 : UInt8), (108 : UInt8), (108 : UInt8), (101 : UInt8), (100 : UInt8)] :
   Array UInt8 } :
   ByteArray }.toList) =
   true,
  true = true,
  true = true,
  (a.toList ==
   {
   data :=
   { toList := [(112 : UInt8), (117 : UInt8), (115 : UInt8), (104 : UInt8), (101 : UInt8), (100 : UInt8)] :
   Array UInt8 } :
   ByteArray }.toList) =
   false,
  true = true,
  true = true,
  true = true] := by kernel_rfl
theorem g2b (a b d : ByteArray) (c : Nat) (v : Value) : endsV (EQ' none) 25 1200 (entQ none [a, b, d] 3 c) (ff [24, 50, 63, 76, 89] false ++ ff [37] true ++ [(101, .b true)]) v = [
  Value.agg
   {
   toList :=
   [Value.string (unS b.data.toList),
   Value.int IntKind.i64 (IntKind.i64.wrap (IntKind.i64.wrap ((0 : Int) + (1 : Int)) + (1 : Int))),
   Value.int IntKind.i64 (0 : Int)] :
   Array Value } =
   v,
  Lib.atoi d.data.toList = none ∧ d.size ≤ (18 : Nat),
  true = true,
  decide ((↑d.size : Int) ≤ (9 : Int)) = true,
  true = true,
  b.size.le (1000000000 : Nat),
  true = true,
  (a.toList ==
   {
   data :=
   {
   toList :=
   [(117 : UInt8), (110 : UInt8), (115 : UInt8), (101 : UInt8), (116 : UInt8), (116 : UInt8), (108 : UInt8),
   (101 : UInt8), (100 : UInt8)] :
   Array UInt8 } :
   ByteArray }.toList) =
   false,
  true = true,
  true = true,
  (a.toList ==
   {
   data :=
   { toList := [(102 : UInt8), (97 : UInt8), (105 : UInt8), (108 : UInt8), (101 : UInt8), (100 : UInt8)] :
   Array UInt8 } :
   ByteArray }.toList) =
   false,
  true = true,
  true = true,
  (a.toList ==
   { data := { toList := [(99 : UInt8), (108 : UInt8), (97 : UInt8), (115 : UInt8), (104 : UInt8)] : Array UInt8 } :
   ByteArray }.toList) =
   false,
  true = true,
  true = true,
  (a.toList ==
   {
   data :=
   { toList := [(97 : UInt8), (103 : UInt8), (114 : UInt8), (101 : UInt8), (101 : UInt8), (100 : UInt8)] :
   Array UInt8 } :
   ByteArray }.toList) =
   false,
  true = true,
  true = true,
  (a.toList ==
   {
   data :=
   { toList := [(112 : UInt8), (117 : UInt8), (108 : UInt8), (108 : UInt8), (101 : UInt8), (100 : UInt8)] :
   Array UInt8 } :
   ByteArray }.toList) =
   true,
  true = true,
  true = true,
  (a.toList ==
   {
   data :=
   { toList := [(112 : UInt8), (117 : UInt8), (115 : UInt8), (104 : UInt8), (101 : UInt8), (100 : UInt8)] :
   Array UInt8 } :
   ByteArray }.toList) =
   false,
  true = true,
  true = true,
  true = true] := by kernel_rfl
theorem g2c (a b d : ByteArray) (n : Int) (c : Nat) (v : Value) : endsV (EQ' (some n)) 25 1200 (entQ (some n) [a, b, d] 3 c) (ff [24, 50, 63, 76, 89] false ++ ff [37] true ++ [(101, .b true), (107, .b true)]) v = [
  Value.agg
   {
   toList :=
   [Value.string (unS b.data.toList),
   Value.int IntKind.i64 (IntKind.i64.wrap (IntKind.i64.wrap ((0 : Int) + (1 : Int)) + (1 : Int))),
   Value.int IntKind.i64 n] :
   Array Value } =
   v,
  decide (n ≥ (0 : Int)) = true,
  Lib.atoi d.data.toList = some n ∧ d.size ≤ (18 : Nat),
  true = true,
  decide ((↑d.size : Int) ≤ (9 : Int)) = true,
  true = true,
  b.size.le (1000000000 : Nat),
  true = true,
  (a.toList ==
   {
   data :=
   {
   toList :=
   [(117 : UInt8), (110 : UInt8), (115 : UInt8), (101 : UInt8), (116 : UInt8), (116 : UInt8), (108 : UInt8),
   (101 : UInt8), (100 : UInt8)] :
   Array UInt8 } :
   ByteArray }.toList) =
   false,
  true = true,
  true = true,
  (a.toList ==
   {
   data :=
   { toList := [(102 : UInt8), (97 : UInt8), (105 : UInt8), (108 : UInt8), (101 : UInt8), (100 : UInt8)] :
   Array UInt8 } :
   ByteArray }.toList) =
   false,
  true = true,
  true = true,
  (a.toList ==
   { data := { toList := [(99 : UInt8), (108 : UInt8), (97 : UInt8), (115 : UInt8), (104 : UInt8)] : Array UInt8 } :
   ByteArray }.toList) =
   false,
  true = true,
  true = true,
  (a.toList ==
   {
   data :=
   { toList := [(97 : UInt8), (103 : UInt8), (114 : UInt8), (101 : UInt8), (101 : UInt8), (100 : UInt8)] :
   Array UInt8 } :
   ByteArray }.toList) =
   false,
  true = true,
  true = true,
  (a.toList ==
   {
   data :=
   { toList := [(112 : UInt8), (117 : UInt8), (108 : UInt8), (108 : UInt8), (101 : UInt8), (100 : UInt8)] :
   Array UInt8 } :
   ByteArray }.toList) =
   true,
  true = true,
  true = true,
  (a.toList ==
   {
   data :=
   { toList := [(112 : UInt8), (117 : UInt8), (115 : UInt8), (104 : UInt8), (101 : UInt8), (100 : UInt8)] :
   Array UInt8 } :
   ByteArray }.toList) =
   false,
  true = true,
  true = true,
  true = true] := by kernel_rfl
theorem g2d (a b d : ByteArray) (n : Int) (c : Nat) (v : Value) : endsV (EQ' (some n)) 25 1200 (entQ (some n) [a, b, d] 3 c) (ff [24, 50, 63, 76, 89] false ++ ff [37] true ++ [(101, .b true), (107, .b false)]) v = [
  Value.agg
   {
   toList :=
   [Value.string (unS b.data.toList),
   Value.int IntKind.i64 (IntKind.i64.wrap (IntKind.i64.wrap ((0 : Int) + (1 : Int)) + (1 : Int))),
   Value.int IntKind.i64 (0 : Int)] :
   Array Value } =
   v,
  decide (n ≥ (0 : Int)) = false,
  Lib.atoi d.data.toList = some n ∧ d.size ≤ (18 : Nat),
  true = true,
  decide ((↑d.size : Int) ≤ (9 : Int)) = true,
  true = true,
  b.size.le (1000000000 : Nat),
  true = true,
  (a.toList ==
   {
   data :=
   {
   toList :=
   [(117 : UInt8), (110 : UInt8), (115 : UInt8), (101 : UInt8), (116 : UInt8), (116 : UInt8), (108 : UInt8),
   (101 : UInt8), (100 : UInt8)] :
   Array UInt8 } :
   ByteArray }.toList) =
   false,
  true = true,
  true = true,
  (a.toList ==
   {
   data :=
   { toList := [(102 : UInt8), (97 : UInt8), (105 : UInt8), (108 : UInt8), (101 : UInt8), (100 : UInt8)] :
   Array UInt8 } :
   ByteArray }.toList) =
   false,
  true = true,
  true = true,
  (a.toList ==
   { data := { toList := [(99 : UInt8), (108 : UInt8), (97 : UInt8), (115 : UInt8), (104 : UInt8)] : Array UInt8 } :
   ByteArray }.toList) =
   false,
  true = true,
  true = true,
  (a.toList ==
   {
   data :=
   { toList := [(97 : UInt8), (103 : UInt8), (114 : UInt8), (101 : UInt8), (101 : UInt8), (100 : UInt8)] :
   Array UInt8 } :
   ByteArray }.toList) =
   false,
  true = true,
  true = true,
  (a.toList ==
   {
   data :=
   { toList := [(112 : UInt8), (117 : UInt8), (108 : UInt8), (108 : UInt8), (101 : UInt8), (100 : UInt8)] :
   Array UInt8 } :
   ByteArray }.toList) =
   true,
  true = true,
  true = true,
  (a.toList ==
   {
   data :=
   { toList := [(112 : UInt8), (117 : UInt8), (115 : UInt8), (104 : UInt8), (101 : UInt8), (100 : UInt8)] :
   Array UInt8 } :
   ByteArray }.toList) =
   false,
  true = true,
  true = true,
  true = true] := by kernel_rfl
theorem gm3 (a b : ByteArray) (r : List ByteArray) (l c : Nat) (v : Value) : endsV (EQ' none) 25 1200 (entQ none (a :: b :: r) l c) (ff [24, 37, 63, 76, 89] false ++ ff [50] true ++ ff [2, 3, 4, 14, 15, 16, 27, 28, 29, 40, 41, 42, 53, 54, 55, 66, 67, 68, 79, 80, 81, 91] true ++ ff [94, 95, 96, 97, 98, 99] false) v = [
  Value.agg
   {
   toList :=
   [Value.string (unS b.data.toList),
   Value.int IntKind.i64
   (IntKind.i64.wrap (IntKind.i64.wrap (IntKind.i64.wrap ((0 : Int) + (1 : Int)) + (1 : Int)) + (1 : Int))),
   Value.int IntKind.i64 (0 : Int)] :
   Array Value } =
   v,
  ((↑l : Int) == (3 : Int)) = false,
  ((↑l : Int) == (3 : Int)) = false,
  ((↑l : Int) == (3 : Int)) = false,
  ((↑l : Int) == (3 : Int)) = false,
  ((↑l : Int) == (3 : Int)) = false,
  ((↑l : Int) == (3 : Int)) = false,
  b.size.le (1000000000 : Nat),
  inRange (1 : Int) l = true,
  decide ((↑l : Int) > (1 : Int)) = true,
  (a.toList ==
   {
   data :=
   {
   toList :=
   [(117 : UInt8), (110 : UInt8), (115 : UInt8), (101 : UInt8), (116 : UInt8), (116 : UInt8), (108 : UInt8),
   (101 : UInt8), (100 : UInt8)] :
   Array UInt8 } :
   ByteArray }.toList) =
   false,
  inRange (0 : Int) l = true,
  decide ((↑l : Int) > (1 : Int)) = true,
  decide ((↑l : Int) > (1 : Int)) = true,
  decide ((↑l : Int) > (1 : Int)) = true,
  true = true,
  (a.toList ==
   {
   data :=
   { toList := [(102 : UInt8), (97 : UInt8), (105 : UInt8), (108 : UInt8), (101 : UInt8), (100 : UInt8)] :
   Array UInt8 } :
   ByteArray }.toList) =
   false,
  inRange (0 : Int) l = true,
  decide ((↑l : Int) > (1 : Int)) = true,
  decide ((↑l : Int) > (1 : Int)) = true,
  decide ((↑l : Int) > (1 : Int)) = true,
  true = true,
  (a.toList ==
   { data := { toList := [(99 : UInt8), (108 : UInt8), (97 : UInt8), (115 : UInt8), (104 : UInt8)] : Array UInt8 } :
   ByteArray }.toList) =
   false,
  inRange (0 : Int) l = true,
  decide ((↑l : Int) > (1 : Int)) = true,
  decide ((↑l : Int) > (1 : Int)) = true,
  decide ((↑l : Int) > (1 : Int)) = true,
  true = true,
  (a.toList ==
   {
   data :=
   { toList := [(97 : UInt8), (103 : UInt8), (114 : UInt8), (101 : UInt8), (101 : UInt8), (100 : UInt8)] :
   Array UInt8 } :
   ByteArray }.toList) =
   true,
  inRange (0 : Int) l = true,
  decide ((↑l : Int) > (1 : Int)) = true,
  decide ((↑l : Int) > (1 : Int)) = true,
  decide ((↑l : Int) > (1 : Int)) = true,
  true = true,
  (a.toList ==
   {
   data :=
   { toList := [(112 : UInt8), (117 : UInt8), (108 : UInt8), (108 : UInt8), (101 : UInt8), (100 : UInt8)] :
   Array UInt8 } :
   ByteArray }.toList) =
   false,
  inRange (0 : Int) l = true,
  decide ((↑l : Int) > (1 : Int)) = true,
  decide ((↑l : Int) > (1 : Int)) = true,
  decide ((↑l : Int) > (1 : Int)) = true,
  true = true,
  (a.toList ==
   {
   data :=
   { toList := [(112 : UInt8), (117 : UInt8), (115 : UInt8), (104 : UInt8), (101 : UInt8), (100 : UInt8)] :
   Array UInt8 } :
   ByteArray }.toList) =
   false,
  inRange (0 : Int) l = true,
  decide ((↑l : Int) > (1 : Int)) = true,
  decide ((↑l : Int) > (1 : Int)) = true,
  decide ((↑l : Int) > (1 : Int)) = true,
  true = true,
  decide ((↑l : Int) > (1 : Int)) = true,
  decide ((↑l : Int) > (1 : Int)) = true,
  decide ((↑l : Int) > (1 : Int)) = true,
  true = true] := by kernel_rfl
theorem g3a (a b d : ByteArray) (c : Nat) (v : Value) : endsV (EQ' none) 25 1200 (entQ none [a, b, d] 3 c) (ff [24, 37, 63, 76, 89] false ++ ff [50] true ++ [(101, .b false)]) v = [
  Value.agg
   {
   toList :=
   [Value.string (unS b.data.toList),
   Value.int IntKind.i64
   (IntKind.i64.wrap (IntKind.i64.wrap (IntKind.i64.wrap ((0 : Int) + (1 : Int)) + (1 : Int)) + (1 : Int))),
   Value.int IntKind.i64 (0 : Int)] :
   Array Value } =
   v,
  decide ((↑d.size : Int) ≤ (9 : Int)) = false,
  true = true,
  b.size.le (1000000000 : Nat),
  true = true,
  (a.toList ==
   {
   data :=
   {
   toList :=
   [(117 : UInt8), (110 : UInt8), (115 : UInt8), (101 : UInt8), (116 : UInt8), (116 : UInt8), (108 : UInt8),
   (101 : UInt8), (100 : UInt8)] :
   Array UInt8 } :
   ByteArray }.toList) =
   false,
  true = true,
  true = true,
  (a.toList ==
   {
   data :=
   { toList := [(102 : UInt8), (97 : UInt8), (105 : UInt8), (108 : UInt8), (101 : UInt8), (100 : UInt8)] :
   Array UInt8 } :
   ByteArray }.toList) =
   false,
  true = true,
  true = true,
  (a.toList ==
   { data := { toList := [(99 : UInt8), (108 : UInt8), (97 : UInt8), (115 : UInt8), (104 : UInt8)] : Array UInt8 } :
   ByteArray }.toList) =
   false,
  true = true,
  true = true,
  (a.toList ==
   {
   data :=
   { toList := [(97 : UInt8), (103 : UInt8), (114 : UInt8), (101 : UInt8), (101 : UInt8), (100 : UInt8)] :
   Array UInt8 } :
   ByteArray }.toList) =
   true,
  true = true,
  true = true,
  (a.toList ==
   {
   data :=
   { toList := [(112 : UInt8), (117 : UInt8), (108 : UInt8), (108 : UInt8), (101 : UInt8), (100 : UInt8)] :
   Array UInt8 } :
   ByteArray }.toList) =
   false,
  true = true,
  true = true,
  (a.toList ==
   {
   data :=
   { toList := [(112 : UInt8), (117 : UInt8), (115 : UInt8), (104 : UInt8), (101 : UInt8), (100 : UInt8)] :
   Array UInt8 } :
   ByteArray }.toList) =
   false,
  true = true,
  true = true,
  true = true] := by kernel_rfl
theorem g3b (a b d : ByteArray) (c : Nat) (v : Value) : endsV (EQ' none) 25 1200 (entQ none [a, b, d] 3 c) (ff [24, 37, 63, 76, 89] false ++ ff [50] true ++ [(101, .b true)]) v = [
  Value.agg
   {
   toList :=
   [Value.string (unS b.data.toList),
   Value.int IntKind.i64
   (IntKind.i64.wrap (IntKind.i64.wrap (IntKind.i64.wrap ((0 : Int) + (1 : Int)) + (1 : Int)) + (1 : Int))),
   Value.int IntKind.i64 (0 : Int)] :
   Array Value } =
   v,
  Lib.atoi d.data.toList = none ∧ d.size ≤ (18 : Nat),
  true = true,
  decide ((↑d.size : Int) ≤ (9 : Int)) = true,
  true = true,
  b.size.le (1000000000 : Nat),
  true = true,
  (a.toList ==
   {
   data :=
   {
   toList :=
   [(117 : UInt8), (110 : UInt8), (115 : UInt8), (101 : UInt8), (116 : UInt8), (116 : UInt8), (108 : UInt8),
   (101 : UInt8), (100 : UInt8)] :
   Array UInt8 } :
   ByteArray }.toList) =
   false,
  true = true,
  true = true,
  (a.toList ==
   {
   data :=
   { toList := [(102 : UInt8), (97 : UInt8), (105 : UInt8), (108 : UInt8), (101 : UInt8), (100 : UInt8)] :
   Array UInt8 } :
   ByteArray }.toList) =
   false,
  true = true,
  true = true,
  (a.toList ==
   { data := { toList := [(99 : UInt8), (108 : UInt8), (97 : UInt8), (115 : UInt8), (104 : UInt8)] : Array UInt8 } :
   ByteArray }.toList) =
   false,
  true = true,
  true = true,
  (a.toList ==
   {
   data :=
   { toList := [(97 : UInt8), (103 : UInt8), (114 : UInt8), (101 : UInt8), (101 : UInt8), (100 : UInt8)] :
   Array UInt8 } :
   ByteArray }.toList) =
   true,
  true = true,
  true = true,
  (a.toList ==
   {
   data :=
   { toList := [(112 : UInt8), (117 : UInt8), (108 : UInt8), (108 : UInt8), (101 : UInt8), (100 : UInt8)] :
   Array UInt8 } :
   ByteArray }.toList) =
   false,
  true = true,
  true = true,
  (a.toList ==
   {
   data :=
   { toList := [(112 : UInt8), (117 : UInt8), (115 : UInt8), (104 : UInt8), (101 : UInt8), (100 : UInt8)] :
   Array UInt8 } :
   ByteArray }.toList) =
   false,
  true = true,
  true = true,
  true = true] := by kernel_rfl
theorem g3c (a b d : ByteArray) (n : Int) (c : Nat) (v : Value) : endsV (EQ' (some n)) 25 1200 (entQ (some n) [a, b, d] 3 c) (ff [24, 37, 63, 76, 89] false ++ ff [50] true ++ [(101, .b true), (107, .b true)]) v = [
  Value.agg
   {
   toList :=
   [Value.string (unS b.data.toList),
   Value.int IntKind.i64
   (IntKind.i64.wrap (IntKind.i64.wrap (IntKind.i64.wrap ((0 : Int) + (1 : Int)) + (1 : Int)) + (1 : Int))),
   Value.int IntKind.i64 n] :
   Array Value } =
   v,
  decide (n ≥ (0 : Int)) = true,
  Lib.atoi d.data.toList = some n ∧ d.size ≤ (18 : Nat),
  true = true,
  decide ((↑d.size : Int) ≤ (9 : Int)) = true,
  true = true,
  b.size.le (1000000000 : Nat),
  true = true,
  (a.toList ==
   {
   data :=
   {
   toList :=
   [(117 : UInt8), (110 : UInt8), (115 : UInt8), (101 : UInt8), (116 : UInt8), (116 : UInt8), (108 : UInt8),
   (101 : UInt8), (100 : UInt8)] :
   Array UInt8 } :
   ByteArray }.toList) =
   false,
  true = true,
  true = true,
  (a.toList ==
   {
   data :=
   { toList := [(102 : UInt8), (97 : UInt8), (105 : UInt8), (108 : UInt8), (101 : UInt8), (100 : UInt8)] :
   Array UInt8 } :
   ByteArray }.toList) =
   false,
  true = true,
  true = true,
  (a.toList ==
   { data := { toList := [(99 : UInt8), (108 : UInt8), (97 : UInt8), (115 : UInt8), (104 : UInt8)] : Array UInt8 } :
   ByteArray }.toList) =
   false,
  true = true,
  true = true,
  (a.toList ==
   {
   data :=
   { toList := [(97 : UInt8), (103 : UInt8), (114 : UInt8), (101 : UInt8), (101 : UInt8), (100 : UInt8)] :
   Array UInt8 } :
   ByteArray }.toList) =
   true,
  true = true,
  true = true,
  (a.toList ==
   {
   data :=
   { toList := [(112 : UInt8), (117 : UInt8), (108 : UInt8), (108 : UInt8), (101 : UInt8), (100 : UInt8)] :
   Array UInt8 } :
   ByteArray }.toList) =
   false,
  true = true,
  true = true,
  (a.toList ==
   {
   data :=
   { toList := [(112 : UInt8), (117 : UInt8), (115 : UInt8), (104 : UInt8), (101 : UInt8), (100 : UInt8)] :
   Array UInt8 } :
   ByteArray }.toList) =
   false,
  true = true,
  true = true,
  true = true] := by kernel_rfl
theorem g3d (a b d : ByteArray) (n : Int) (c : Nat) (v : Value) : endsV (EQ' (some n)) 25 1200 (entQ (some n) [a, b, d] 3 c) (ff [24, 37, 63, 76, 89] false ++ ff [50] true ++ [(101, .b true), (107, .b false)]) v = [
  Value.agg
   {
   toList :=
   [Value.string (unS b.data.toList),
   Value.int IntKind.i64
   (IntKind.i64.wrap (IntKind.i64.wrap (IntKind.i64.wrap ((0 : Int) + (1 : Int)) + (1 : Int)) + (1 : Int))),
   Value.int IntKind.i64 (0 : Int)] :
   Array Value } =
   v,
  decide (n ≥ (0 : Int)) = false,
  Lib.atoi d.data.toList = some n ∧ d.size ≤ (18 : Nat),
  true = true,
  decide ((↑d.size : Int) ≤ (9 : Int)) = true,
  true = true,
  b.size.le (1000000000 : Nat),
  true = true,
  (a.toList ==
   {
   data :=
   {
   toList :=
   [(117 : UInt8), (110 : UInt8), (115 : UInt8), (101 : UInt8), (116 : UInt8), (116 : UInt8), (108 : UInt8),
   (101 : UInt8), (100 : UInt8)] :
   Array UInt8 } :
   ByteArray }.toList) =
   false,
  true = true,
  true = true,
  (a.toList ==
   {
   data :=
   { toList := [(102 : UInt8), (97 : UInt8), (105 : UInt8), (108 : UInt8), (101 : UInt8), (100 : UInt8)] :
   Array UInt8 } :
   ByteArray }.toList) =
   false,
  true = true,
  true = true,
  (a.toList ==
   { data := { toList := [(99 : UInt8), (108 : UInt8), (97 : UInt8), (115 : UInt8), (104 : UInt8)] : Array UInt8 } :
   ByteArray }.toList) =
   false,
  true = true,
  true = true,
  (a.toList ==
   {
   data :=
   { toList := [(97 : UInt8), (103 : UInt8), (114 : UInt8), (101 : UInt8), (101 : UInt8), (100 : UInt8)] :
   Array UInt8 } :
   ByteArray }.toList) =
   true,
  true = true,
  true = true,
  (a.toList ==
   {
   data :=
   { toList := [(112 : UInt8), (117 : UInt8), (108 : UInt8), (108 : UInt8), (101 : UInt8), (100 : UInt8)] :
   Array UInt8 } :
   ByteArray }.toList) =
   false,
  true = true,
  true = true,
  (a.toList ==
   {
   data :=
   { toList := [(112 : UInt8), (117 : UInt8), (115 : UInt8), (104 : UInt8), (101 : UInt8), (100 : UInt8)] :
   Array UInt8 } :
   ByteArray }.toList) =
   false,
  true = true,
  true = true,
  true = true] := by kernel_rfl
theorem gm4 (a b : ByteArray) (r : List ByteArray) (l c : Nat) (v : Value) : endsV (EQ' none) 25 1200 (entQ none (a :: b :: r) l c) (ff [24, 37, 50, 76, 89] false ++ ff [63] true ++ ff [2, 3, 4, 14, 15, 16, 27, 28, 29, 40, 41, 42, 53, 54, 55, 66, 67, 68, 79, 80, 81, 91] true ++ ff [94, 95, 96, 97, 98, 99] false) v = [
  Value.agg
   {
   toList :=
   [Value.string (unS b.data.toList),
   Value.int IntKind.i64
   (IntKind.i64.wrap
   (IntKind.i64.wrap (IntKind.i64.wrap (IntKind.i64.wrap ((0 : Int) + (1 : Int)) + (1 : Int)) + (1 : Int)) +
   (1 : Int))),
   Value.int IntKind.i64 (0 : Int)] :
   Array Value } =
   v,
  ((↑l : Int) == (3 : Int)) = false,
  ((↑l : Int) == (3 : Int)) = false,
  ((↑l : Int) == (3 : Int)) = false,
  ((↑l : Int) == (3 : Int)) = false,
  ((↑l : Int) == (3 : Int)) = false,
  ((↑l : Int) == (3 : Int)) = false,
  b.size.le (1000000000 : Nat),
  inRange (1 : Int) l = true,
  decide ((↑l : Int) > (1 : Int)) = true,
  (a.toList ==
   {
   data :=
   {
   toList :=
   [(117 : UInt8), (110 : UInt8), (115 : UInt8), (101 : UInt8), (116 : UInt8), (116 : UInt8), (108 : UInt8),
   (101 : UInt8), (100 : UInt8)] :
   Array UInt8 } :
   ByteArray }.toList) =
   false,
  inRange (0 : Int) l = true,
  decide ((↑l : Int) > (1 : Int)) = true,
  decide ((↑l : Int) > (1 : Int)) = true,
  decide ((↑l : Int) > (1 : Int)) = true,
  true = true,
  (a.toList ==
   {
   data :=
   { toList := [(102 : UInt8), (97 : UInt8), (105 : UInt8), (108 : UInt8), (101 : UInt8), (100 : UInt8)] :
   Array UInt8 } :
   ByteArray }.toList) =
   false,
  inRange (0 : Int) l = true,
  decide ((↑l : Int) > (1 : Int)) = true,
  decide ((↑l : Int) > (1 : Int)) = true,
  decide ((↑l : Int) > (1 : Int)) = true,
  true = true,
  (a.toList ==
   { data := { toList := [(99 : UInt8), (108 : UInt8), (97 : UInt8), (115 : UInt8), (104 : UInt8)] : Array UInt8 } :
   ByteArray }.toList) =
   true,
  inRange (0 : Int) l = true,
  decide ((↑l : Int) > (1 : Int)) = true,
  decide ((↑l : Int) > (1 : Int)) = true,
  decide ((↑l : Int) > (1 : Int)) = true,
  true = true,
  (a.toList ==
   {
   data :=
   { toList := [(97 : UInt8), (103 : UInt8), (114 : UInt8), (101 : UInt8), (101 : UInt8), (100 : UInt8)] :
   Array UInt8 } :
   ByteArray }.toList) =
   false,
  inRange (0 : Int) l = true,
  decide ((↑l : Int) > (1 : Int)) = true,
  decide ((↑l : Int) > (1 : Int)) = true,
  decide ((↑l : Int) > (1 : Int)) = true,
  true = true,
  (a.toList ==
   {
   data :=
   { toList := [(112 : UInt8), (117 : UInt8), (108 : UInt8), (108 : UInt8), (101 : UInt8), (100 : UInt8)] :
   Array UInt8 } :
   ByteArray }.toList) =
   false,
  inRange (0 : Int) l = true,
  decide ((↑l : Int) > (1 : Int)) = true,
  decide ((↑l : Int) > (1 : Int)) = true,
  decide ((↑l : Int) > (1 : Int)) = true,
  true = true,
  (a.toList ==
   {
   data :=
   { toList := [(112 : UInt8), (117 : UInt8), (115 : UInt8), (104 : UInt8), (101 : UInt8), (100 : UInt8)] :
   Array UInt8 } :
   ByteArray }.toList) =
   false,
  inRange (0 : Int) l = true,
  decide ((↑l : Int) > (1 : Int)) = true,
  decide ((↑l : Int) > (1 : Int)) = true,
  decide ((↑l : Int) > (1 : Int)) = true,
  true = true,
  decide ((↑l : Int) > (1 : Int)) = true,
  decide ((↑l : Int) > (1 : Int)) = true,
  decide ((↑l : Int) > (1 : Int)) = true,
  true = true] := by kernel_rfl
theorem g4a (a b d : ByteArray) (c : Nat) (v : Value) : endsV (EQ' none) 25 1200 (entQ none [a, b, d] 3 c) (ff [24, 37, 50, 76, 89] false ++ ff [63] true ++ [(101, .b false)]) v = [
  Value.agg
   {
   toList :=
   [Value.string (unS b.data.toList),
   Value.int IntKind.i64
   (IntKind.i64.wrap
   (IntKind.i64.wrap (IntKind.i64.wrap (IntKind.i64.wrap ((0 : Int) + (1 : Int)) + (1 : Int)) + (1 : Int)) +
   (1 : Int))),
   Value.int IntKind.i64 (0 : Int)] :
   Array Value } =
   v,
  decide ((↑d.size : Int) ≤ (9 : Int)) = false,
  true = true,
  b.size.le (1000000000 : Nat),
  true = true,
  (a.toList ==
   {
   data :=
   {
   toList :=
   [(117 : UInt8), (110 : UInt8), (115 : UInt8), (101 : UInt8), (116 : UInt8), (116 : UInt8), (108 : UInt8),
   (101 : UInt8), (100 : UInt8)] :
   Array UInt8 } :
   ByteArray }.toList) =
   false,
  true = true,
  true = true,
  (a.toList ==
   {
   data :=
   { toList := [(102 : UInt8), (97 : UInt8), (105 : UInt8), (108 : UInt8), (101 : UInt8), (100 : UInt8)] :
   Array UInt8 } :
   ByteArray }.toList) =
   false,
  true = true,
  true = true,
  (a.toList ==
   { data := { toList := [(99 : UInt8), (108 : UInt8), (97 : UInt8), (115 : UInt8), (104 : UInt8)] : Array UInt8 } :
   ByteArray }.toList) =
   true,
  true = true,
  true = true,
  (a.toList ==
   {
   data :=
   { toList := [(97 : UInt8), (103 : UInt8), (114 : UInt8), (101 : UInt8), (101 : UInt8), (100 : UInt8)] :
   Array UInt8 } :
   ByteArray }.toList) =
   false,
  true = true,
  true = true,
  (a.toList ==
   {
   data :=
   { toList := [(112 : UInt8), (117 : UInt8), (108 : UInt8), (108 : UInt8), (101 : UInt8), (100 : UInt8)] :
   Array UInt8 } :
   ByteArray }.toList) =
   false,
  true = true,
  true = true,
  (a.toList ==
   {
   data :=
   { toList := [(112 : UInt8), (117 : UInt8), (115 : UInt8), (104 : UInt8), (101 : UInt8), (100 : UInt8)] :
   Array UInt8 } :
   ByteArray }.toList) =
   false,
  true = true,
  true = true,
  true = true] := by kernel_rfl
theorem g4b (a b d : ByteArray) (c : Nat) (v : Value) : endsV (EQ' none) 25 1200 (entQ none [a, b, d] 3 c) (ff [24, 37, 50, 76, 89] false ++ ff [63] true ++ [(101, .b true)]) v = [
  Value.agg
   {
   toList :=
   [Value.string (unS b.data.toList),
   Value.int IntKind.i64
   (IntKind.i64.wrap
   (IntKind.i64.wrap (IntKind.i64.wrap (IntKind.i64.wrap ((0 : Int) + (1 : Int)) + (1 : Int)) + (1 : Int)) +
   (1 : Int))),
   Value.int IntKind.i64 (0 : Int)] :
   Array Value } =
   v,
  Lib.atoi d.data.toList = none ∧ d.size ≤ (18 : Nat),
  true = true,
  decide ((↑d.size : Int) ≤ (9 : Int)) = true,
  true = true,
  b.size.le (1000000000 : Nat),
  true = true,
  (a.toList ==
   {
   data :=
   {
   toList :=
   [(117 : UInt8), (110 : UInt8), (115 : UInt8), (101 : UInt8), (116 : UInt8), (116 : UInt8), (108 : UInt8),
   (101 : UInt8), (100 : UInt8)] :
   Array UInt8 } :
   ByteArray }.toList) =
   false,
  true = true,
  true = true,
  (a.toList ==
   {
   data :=
   { toList := [(102 : UInt8), (97 : UInt8), (105 : UInt8), (108 : UInt8), (101 : UInt8), (100 : UInt8)] :
   Array UInt8 } :
   ByteArray }.toList) =
   false,
  true = true,
  true = true,
  (a.toList ==
   { data := { toList := [(99 : UInt8), (108 : UInt8), (97 : UInt8), (115 : UInt8), (104 : UInt8)] : Array UInt8 } :
   ByteArray }.toList) =
   true,
  true = true,
  true = true,
  (a.toList ==
   {
   data :=
   { toList := [(97 : UInt8), (103 : UInt8), (114 : UInt8), (101 : UInt8), (101 : UInt8), (100 : UInt8)] :
   Array UInt8 } :
   ByteArray }.toList) =
   false,
  true = true,
  true = true,
  (a.toList ==
   {
   data :=
   { toList := [(112 : UInt8), (117 : UInt8), (108 : UInt8), (108 : UInt8), (101 : UInt8), (100 : UInt8)] :
   Array UInt8 } :
   ByteArray }.toList) =
   false,
  true = true,
  true = true,
  (a.toList ==
   {
   data :=
   { toList := [(112 : UInt8), (117 : UInt8), (115 : UInt8), (104 : UInt8), (101 : UInt8), (100 : UInt8)] :
   Array UInt8 } :
   ByteArray }.toList) =
   false,
  true = true,
  true = true,
  true = true] := by kernel_rfl
theorem g4c (a b d : ByteArray) (n : Int) (c : Nat) (v : Value) : endsV (EQ' (some n)) 25 1200 (entQ (some n) [a, b, d] 3 c) (ff [24, 37, 50, 76, 89] false ++ ff [63] true ++ [(101, .b true), (107, .b true)]) v = [
  Value.agg
   {
   toList :=
   [Value.string (unS b.data.toList),
   Value.int IntKind.i64
   (IntKind.i64.wrap
   (IntKind.i64.wrap (IntKind.i64.wrap (IntKind.i64.wrap ((0 : Int) + (1 : Int)) + (1 : Int)) + (1 : Int)) +
   (1 : Int))),
   Value.int IntKind.i64 n] :
   Array Value } =
   v,
  decide (n ≥ (0 : Int)) = true,
  Lib.atoi d.data.toList = some n ∧ d.size ≤ (18 : Nat),
  true = true,
  decide ((↑d.size : Int) ≤ (9 : Int)) = true,
  true = true,
  b.size.le (1000000000 : Nat),
  true = true,
  (a.toList ==
   {
   data :=
   {
   toList :=
   [(117 : UInt8), (110 : UInt8), (115 : UInt8), (101 : UInt8), (116 : UInt8), (116 : UInt8), (108 : UInt8),
   (101 : UInt8), (100 : UInt8)] :
   Array UInt8 } :
   ByteArray }.toList) =
   false,
  true = true,
  true = true,
  (a.toList ==
   {
   data :=
   { toList := [(102 : UInt8), (97 : UInt8), (105 : UInt8), (108 : UInt8), (101 : UInt8), (100 : UInt8)] :
   Array UInt8 } :
   ByteArray }.toList) =
   false,
  true = true,
  true = true,
  (a.toList ==
   { data := { toList := [(99 : UInt8), (108 : UInt8), (97 : UInt8), (115 : UInt8), (104 : UInt8)] : Array UInt8 } :
   ByteArray }.toList) =
   true,
  true = true,
  true = true,
  (a.toList ==
   {
   data :=
   { toList := [(97 : UInt8), (103 : UInt8), (114 : UInt8), (101 : UInt8), (101 : UInt8), (100 : UInt8)] :
   Array UInt8 } :
   ByteArray }.toList) =
   false,
  true = true,
  true = true,
  (a.toList ==
   {
   data :=
   { toList := [(112 : UInt8), (117 : UInt8), (108 : UInt8), (108 : UInt8), (101 : UInt8), (100 : UInt8)] :
   Array UInt8 } :
   ByteArray }.toList) =
   false,
  true = true,
  true = true,
  (a.toList ==
   {
   data :=
   { toList := [(112 : UInt8), (117 : UInt8), (115 : UInt8), (104 : UInt8), (101 : UInt8), (100 : UInt8)] :
   Array UInt8 } :
   ByteArray }.toList) =
   false,
  true = true,
  true = true,
  true = true] := by kernel_rfl
theorem g4d (a b d : ByteArray) (n : Int) (c : Nat) (v : Value) : endsV (EQ' (some n)) 25 1200 (entQ (some n) [a, b, d] 3 c) (ff [24, 37, 50, 76, 89] false ++ ff [63] true ++ [(101, .b true), (107, .b false)]) v = [
  Value.agg
   {
   toList :=
   [Value.string (unS b.data.toList),
   Value.int IntKind.i64
   (IntKind.i64.wrap
   (IntKind.i64.wrap (IntKind.i64.wrap (IntKind.i64.wrap ((0 : Int) + (1 : Int)) + (1 : Int)) + (1 : Int)) +
   (1 : Int))),
   Value.int IntKind.i64 (0 : Int)] :
   Array Value } =
   v,
  decide (n ≥ (0 : Int)) = false,
  Lib.atoi d.data.toList = some n ∧ d.size ≤ (18 : Nat),
  true = true,
  decide ((↑d.size : Int) ≤ (9 : Int)) = true,
  true = true,
  b.size.le (1000000000 : Nat),
  true = true,
  (a.toList ==
   {
   data :=
   {
   toList :=
   [(117 : UInt8), (110 : UInt8), (115 : UInt8), (101 : UInt8), (116 : UInt8), (116 : UInt8), (108 : UInt8),
   (101 : UInt8), (100 : UInt8)] :
   Array UInt8 } :
   ByteArray }.toList) =
   false,
  true = true,
  true = true,
  (a.toList ==
   {
   data :=
   { toList := [(102 : UInt8), (97 : UInt8), (105 : UInt8), (108 : UInt8), (101 : UInt8), (100 : UInt8)] :
   Array UInt8 } :
   ByteArray }.toList) =
   false,
  true = true,
  true = true,
  (a.toList ==
   { data := { toList := [(99 : UInt8), (108 : UInt8), (97 : UInt8), (115 : UInt8), (104 : UInt8)] : Array UInt8 } :
   ByteArray }.toList) =
   true,
  true = true,
  true = true,
  (a.toList ==
   {
   data :=
   { toList := [(97 : UInt8), (103 : UInt8), (114 : UInt8), (101 : UInt8), (101 : UInt8), (100 : UInt8)] :
   Array UInt8 } :
   ByteArray }.toList) =
   false,
  true = true,
  true = true,
  (a.toList ==
   {
   data :=
   { toList := [(112 : UInt8), (117 : UInt8), (108 : UInt8), (108 : UInt8), (101 : UInt8), (100 : UInt8)] :
   Array UInt8 } :
   ByteArray }.toList) =
   false,
  true = true,
  true = true,
  (a.toList ==
   {
   data :=
   { toList := [(112 : UInt8), (117 : UInt8), (115 : UInt8), (104 : UInt8), (101 : UInt8), (100 : UInt8)] :
   Array UInt8 } :
   ByteArray }.toList) =
   false,
  true = true,
  true = true,
  true = true] := by kernel_rfl
theorem gm5 (a b : ByteArray) (r : List ByteArray) (l c : Nat) (v : Value) : endsV (EQ' none) 25 1200 (entQ none (a :: b :: r) l c) (ff [24, 37, 50, 63, 89] false ++ ff [76] true ++ ff [2, 3, 4, 14, 15, 16, 27, 28, 29, 40, 41, 42, 53, 54, 55, 66, 67, 68, 79, 80, 81, 91] true ++ ff [94, 95, 96, 97, 98, 99] false) v = [
  Value.agg
   {
   toList :=
   [Value.string (unS b.data.toList),
   Value.int IntKind.i64
   (IntKind.i64.wrap
   (IntKind.i64.wrap
   (IntKind.i64.wrap
   (IntKind.i64.wrap (IntKind.i64.wrap ((0 : Int) + (1 : Int)) + (1 : Int)) + (1 : Int)) +
   (1 : Int)) +
   (1 : Int))),
   Value.int IntKind.i64 (0 : Int)] :
   Array Value } =
   v,
  ((↑l : Int) == (3 : Int)) = false,
  ((↑l : Int) == (3 : Int)) = false,
  ((↑l : Int) == (3 : Int)) = false,
  ((↑l : Int) == (3 : Int)) = false,
  ((↑l : Int) == (3 : Int)) = false,
  ((↑l : Int) == (3 : Int)) = false,
  b.size.le (1000000000 : Nat),
  inRange (1 : Int) l = true,
  decide ((↑l : Int) > (1 : Int)) = true,
  (a.toList ==
   {
   data :=
   {
   toList :=
   [(117 : UInt8), (110 : UInt8), (115 : UInt8), (101 : UInt8), (116 : UInt8), (116 : UInt8), (108 : UInt8),
   (101 : UInt8), (100 : UInt8)] :
   Array UInt8 } :
   ByteArray }.toList) =
   false,
  inRange (0 : Int) l = true,
  decide ((↑l : Int) > (1 : Int)) = true,
  decide ((↑l : Int) > (1 : Int)) = true,
  decide ((↑l : Int) > (1 : Int)) = true,
  true = true,
  (a.toList ==
   {
   data :=
   { toList := [(102 : UInt8), (97 : UInt8), (105 : UInt8), (108 : UInt8), (101 : UInt8), (100 : UInt8)] :
   Array UInt8 } :
   ByteArray }.toList) =
   true,
  inRange (0 : Int) l = true,
  decide ((↑l : Int) > (1 : Int)) = true,
  decide ((↑l : Int) > (1 : Int)) = true,
  decide ((↑l : Int) > (1 : Int)) = true,
  true = true,
  (a.toList ==
   { data := { toList := [(99 : UInt8), (108 : UInt8), (97 : UInt8), (115 : UInt8), (104 : UInt8)] : Array UInt8 } :
   ByteArray }.toList) =
   false,
  inRange (0 : Int) l = true,
  decide ((↑l : Int) > (1 : Int)) = true,
  decide ((↑l : Int) > (1 : Int)) = true,
  decide ((↑l : Int) > (1 : Int)) = true,
  true = true,
  (a.toList ==
   {
   data :=
   { toList := [(97 : UInt8), (103 : UInt8), (114 : UInt8), (101 : UInt8), (101 : UInt8), (100 : UInt8)] :
   Array UInt8 } :
   ByteArray }.toList) =
   false,
  inRange (0 : Int) l = true,
  decide ((↑l : Int) > (1 : Int)) = true,
  decide ((↑l : Int) > (1 : Int)) = true,
  decide ((↑l : Int) > (1 : Int)) = true,
  true = true,
  (a.toList ==
   {
   data :=
   { toList := [(112 : UInt8), (117 : UInt8), (108 : UInt8), (108 : UInt8), (101 : UInt8), (100 : UInt8)] :
   Array UInt8 } :
   ByteArray }.toList) =
   false,
  inRange (0 : Int) l = true,
  decide ((↑l : Int) > (1 : Int)) = true,
  decide ((↑l : Int) > (1 : Int)) = true,
  decide ((↑l : Int) > (1 : Int)) = true,
  true = true,
  (a.toList ==
   {
   data :=
   { toList := [(112 : UInt8), (117 : UInt8), (115 : UInt8), (104 : UInt8), (101 : UInt8), (100 : UInt8)] :
   Array UInt8 } :
   ByteArray }.toList) =
   false,
  inRange (0 : Int) l = true,
  decide ((↑l : Int) > (1 : Int)) = true,
  decide ((↑l : Int) > (1 : Int)) = true,
  decide ((↑l : Int) > (1 : Int)) = true,
  true = true,
  decide ((↑l : Int) > (1 : Int)) = true,
  decide ((↑l : Int) > (1 : Int)) = true,
  decide ((↑l : Int) > (1 : Int)) = true,
  true = true] := by kernel_rfl
theorem g5a (a b d : ByteArray) (c : Nat) (v : Value) : endsV (EQ' none) 25 1200 (entQ none [a, b, d] 3 c) (ff [24, 37, 50, 63, 89] false ++ ff [76] true ++ [(101, .b false)]) v = [
  Value.agg
   {
   toList :=
   [Value.string (unS b.data.toList),
   Value.int IntKind.i64
   (IntKind.i64.wrap
   (IntKind.i64.wrap
   (IntKind.i64.wrap
   (IntKind.i64.wrap (IntKind.i64.wrap ((0 : Int) + (1 : Int)) + (1 : Int)) + (1 : Int)) +
   (1 : Int)) +
   (1 : Int))),
   Value.int IntKind.i64 (0 : Int)] :
   Array Value } =
   v,
  decide ((↑d.size : Int) ≤ (9 : Int)) = false,
  true = true,
  b.size.le (1000000000 : Nat),
  true = true,
  (a.toList ==
   {
   data :=
   {
   toList :=
   [(117 : UInt8), (110 : UInt8), (115 : UInt8), (101 : UInt8), (116 : UInt8), (116 : UInt8), (108 : UInt8),
   (101 : UInt8), (100 : UInt8)] :
   Array UInt8 } :
   ByteArray }.toList) =
   false,
  true = true,
  true = true,
  (a.toList ==
   {
   data :=
   { toList := [(102 : UInt8), (97 : UInt8), (105 : UInt8), (108 : UInt8), (101 : UInt8), (100 : UInt8)] :
   Array UInt8 } :
   ByteArray }.toList) =
   true,
  true = true,
  true = true,
  (a.toList ==
   { data := { toList := [(99 : UInt8), (108 : UInt8), (97 : UInt8), (115 : UInt8), (104 : UInt8)] : Array UInt8 } :
   ByteArray }.toList) =
   false,
  true = true,
  true = true,
  (a.toList ==
   {
   data :=
   { toList := [(97 : UInt8), (103 : UInt8), (114 : UInt8), (101 : UInt8), (101 : UInt8), (100 : UInt8)] :
   Array UInt8 } :
   ByteArray }.toList) =
   false,
  true = true,
  true = true,
  (a.toList ==
   {
   data :=
   { toList := [(112 : UInt8), (117 : UInt8), (108 : UInt8), (108 : UInt8), (101 : UInt8), (100 : UInt8)] :
   Array UInt8 } :
   ByteArray }.toList) =
   false,
  true = true,
  true = true,
  (a.toList ==
   {
   data :=
   { toList := [(112 : UInt8), (117 : UInt8), (115 : UInt8), (104 : UInt8), (101 : UInt8), (100 : UInt8)] :
   Array UInt8 } :
   ByteArray }.toList) =
   false,
  true = true,
  true = true,
  true = true] := by kernel_rfl
theorem g5b (a b d : ByteArray) (c : Nat) (v : Value) : endsV (EQ' none) 25 1200 (entQ none [a, b, d] 3 c) (ff [24, 37, 50, 63, 89] false ++ ff [76] true ++ [(101, .b true)]) v = [
  Value.agg
   {
   toList :=
   [Value.string (unS b.data.toList),
   Value.int IntKind.i64
   (IntKind.i64.wrap
   (IntKind.i64.wrap
   (IntKind.i64.wrap
   (IntKind.i64.wrap (IntKind.i64.wrap ((0 : Int) + (1 : Int)) + (1 : Int)) + (1 : Int)) +
   (1 : Int)) +
   (1 : Int))),
   Value.int IntKind.i64 (0 : Int)] :
   Array Value } =
   v,
  Lib.atoi d.data.toList = none ∧ d.size ≤ (18 : Nat),
  true = true,
  decide ((↑d.size : Int) ≤ (9 : Int)) = true,
  true = true,
  b.size.le (1000000000 : Nat),
  true = true,
  (a.toList ==
   {
   data :=
   {
   toList :=
   [(117 : UInt8), (110 : UInt8), (115 : UInt8), (101 : UInt8), (116 : UInt8), (116 : UInt8), (108 : UInt8),
   (101 : UInt8), (100 : UInt8)] :
   Array UInt8 } :
   ByteArray }.toList) =
   false,
  true = true,
  true = true,
  (a.toList ==
   {
   data :=
   { toList := [(102 : UInt8), (97 : UInt8), (105 : UInt8), (108 : UInt8), (101 : UInt8), (100 : UInt8)] :
   Array UInt8 } :
   ByteArray }.toList) =
   true,
  true = true,
  true = true,
  (a.toList ==
   { data := { toList := [(99 : UInt8), (108 : UInt8), (97 : UInt8), (115 : UInt8), (104 : UInt8)] : Array UInt8 } :
   ByteArray }.toList) =
   false,
  true = true,
  true = true,
  (a.toList ==
   {
   data :=
   { toList := [(97 : UInt8), (103 : UInt8), (114 : UInt8), (101 : UInt8), (101 : UInt8), (100 : UInt8)] :
   Array UInt8 } :
   ByteArray }.toList) =
   false,
  true = true,
  true = true,
  (a.toList ==
   {
   data :=
   { toList := [(112 : UInt8), (117 : UInt8), (108 : UInt8), (108 : UInt8), (101 : UInt8), (100 : UInt8)] :
   Array UInt8 } :
   ByteArray }.toList) =
   false,
  true = true,
  true = true,
  (a.toList ==
   {
   data :=
   { toList := [(112 : UInt8), (117 : UInt8), (115 : UInt8), (104 : UInt8), (101 : UInt8), (100 : UInt8)] :
   Array UInt8 } :
   ByteArray }.toList) =
   false,
  true = true,
  true = true,
  true = true] := by kernel_rfl
theorem g5c (a b d : ByteArray) (n : Int) (c : Nat) (v : Value) : endsV (EQ' (some n)) 25 1200 (entQ (some n) [a, b, d] 3 c) (ff [24, 37, 50, 63, 89] false ++ ff [76] true ++ [(101, .b true), (107, .b true)]) v = [
  Value.agg
   {
   toList :=
   [Value.string (unS b.data.toList),
   Value.int IntKind.i64
   (IntKind.i64.wrap
   (IntKind.i64.wrap
   (IntKind.i64.wrap
   (IntKind.i64.wrap (IntKind.i64.wrap ((0 : Int) + (1 : Int)) + (1 : Int)) + (1 : Int)) +
   (1 : Int)) +
   (1 : Int))),
   Value.int IntKind.i64 n] :
   Array Value } =
   v,
  decide (n ≥ (0 : Int)) = true,
  Lib.atoi d.data.toList = some n ∧ d.size ≤ (18 : Nat),
  true = true,
  decide ((↑d.size : Int) ≤ (9 : Int)) = true,
  true = true,
  b.size.le (1000000000 : Nat),
  true = true,
  (a.toList ==
   {
   data :=
   {
   toList :=
   [(117 : UInt8), (110 : UInt8), (115 : UInt8), (101 : UInt8), (116 : UInt8), (116 : UInt8), (108 : UInt8),
   (101 : UInt8), (100 : UInt8)] :
   Array UInt8 } :
   ByteArray }.toList) =
   false,
  true = true,
  true = true,
  (a.toList ==
   {
   data :=
   { toList := [(102 : UInt8), (97 : UInt8), (105 : UInt8), (108 : UInt8), (101 : UInt8), (100 : UInt8)] :
   Array UInt8 } :
   ByteArray }.toList) =
   true,
  true = true,
  true = true,
  (a.toList ==
   { data := { toList := [(99 : UInt8), (108 : UInt8), (97 : UInt8), (115 : UInt8), (104 : UInt8)] : Array UInt8 } :
   ByteArray }.toList) =
   false,
  true = true,
  true = true,
  (a.toList ==
   {
   data :=
   { toList := [(97 : UInt8), (103 : UInt8), (114 : UInt8), (101 : UInt8), (101 : UInt8), (100 : UInt8)] :
   Array UInt8 } :
   ByteArray }.toList) =
   false,
  true = true,
  true = true,
  (a.toList ==
   {
   data :=
   { toList := [(112 : UInt8), (117 : UInt8), (108 : UInt8), (108 : UInt8), (101 : UInt8), (100 : UInt8)] :
   Array UInt8 } :
   ByteArray }.toList) =
   false,
  true = true,
  true = true,
  (a.toList ==
   {
   data :=
   { toList := [(112 : UInt8), (117 : UInt8), (115 : UInt8), (104 : UInt8), (101 : UInt8), (100 : UInt8)] :
   Array UInt8 } :
   ByteArray }.toList) =
   false,
  true = true,
  true = true,
  true = true] := by kernel_rfl
theorem g5d (a b d : ByteArray) (n : Int) (c : Nat) (v : Value) : endsV (EQ' (some n)) 25 1200 (entQ (some n) [a, b, d] 3 c) (ff [24, 37, 50, 63, 89] false ++ ff [76] true ++ [(101, .b true), (107, .b false)]) v = [
  Value.agg
   {
   toList :=
   [Value.string (unS b.data.toList),
   Value.int IntKind.i64
   (IntKind.i64.wrap
   (IntKind.i64.wrap
   (IntKind.i64.wrap
   (IntKind.i64.wrap (IntKind.i64.wrap ((0 : Int) + (1 : Int)) + (1 : Int)) + (1 : Int)) +
   (1 : Int)) +
   (1 : Int))),
   Value.int IntKind.i64 (0 : Int)] :
   Array Value } =
   v,
  decide (n ≥ (0 : Int)) = false,
  Lib.atoi d.data.toList = some n ∧ d.size ≤ (18 : Nat),
  true = true,
  decide ((↑d.size : Int) ≤ (9 : Int)) = true,
  true = true,
  b.size.le (1000000000 : Nat),
  true = true,
  (a.toList ==
   {
   data :=
   {
   toList :=
   [(117 : UInt8), (110 : UInt8), (115 : UInt8), (101 : UInt8), (116 : UInt8), (116 : UInt8), (108 : UInt8),
   (101 : UInt8), (100 : UInt8)] :
   Array UInt8 } :
   ByteArray }.toList) =
   false,
  true = true,
  true = true,
  (a.toList ==
   {
   data :=
   { toList := [(102 : UInt8), (97 : UInt8), (105 : UInt8), (108 : UInt8), (101 : UInt8), (100 : UInt8)] :
   Array UInt8 } :
   ByteArray }.toList) =
   true,
  true = true,
  true = true,
  (a.toList ==
   { data := { toList := [(99 : UInt8), (108 : UInt8), (97 : UInt8), (115 : UInt8), (104 : UInt8)] : Array UInt8 } :
   ByteArray }.toList) =
   false,
  true = true,
  true = true,
  (a.toList ==
   {
   data :=
   { toList := [(97 : UInt8), (103 : UInt8), (114 : UInt8), (101 : UInt8), (101 : UInt8), (100 : UInt8)] :
   Array UInt8 } :
   ByteArray }.toList) =
   false,
  true = true,
  true = true,
  (a.toList ==
   {
   data :=
   { toList := [(112 : UInt8), (117 : UInt8), (108 : UInt8), (108 : UInt8), (101 : UInt8), (100 : UInt8)] :
   Array UInt8 } :
   ByteArray }.toList) =
   false,
  true = true,
  true = true,
  (a.toList ==
   {
   data :=
   { toList := [(112 : UInt8), (117 : UInt8), (115 : UInt8), (104 : UInt8), (101 : UInt8), (100 : UInt8)] :
   Array UInt8 } :
   ByteArray }.toList) =
   false,
  true = true,
  true = true,
  true = true] := by kernel_rfl
theorem gm6 (a b : ByteArray) (r : List ByteArray) (l c : Nat) (v : Value) : endsV (EQ' none) 25 1200 (entQ none (a :: b :: r) l c) (ff [24, 37, 50, 63, 76] false ++ ff [89] true ++ ff [2, 3, 4, 14, 15, 16, 27, 28, 29, 40, 41, 42, 53, 54, 55, 66, 67, 68, 79, 80, 81, 91] true ++ ff [94, 95, 96, 97, 98, 99] false) v = [
  Value.agg
   {
   toList :=
   [Value.string (unS b.data.toList),
   Value.int IntKind.i64
   (IntKind.i64.wrap
   (IntKind.i64.wrap
   (IntKind.i64.wrap
   (IntKind.i64.wrap
   (IntKind.i64.wrap (IntKind.i64.wrap ((0 : Int) + (1 : Int)) + (1 : Int)) + (1 : Int)) +
   (1 : Int)) +
   (1 : Int)) +
   (1 : Int))),
   Value.int IntKind.i64 (0 : Int)] :
   Array Value } =
   v,
  ((↑l : Int) == (3 : Int)) = false,
  ((↑l : Int) == (3 : Int)) = false,
  ((↑l : Int) == (3 : Int)) = false,
  ((↑l : Int) == (3 : Int)) = false,
  ((↑l : Int) == (3 : Int)) = false,
  ((↑l : Int) == (3 : Int)) = false,
  b.size.le (1000000000 : Nat),
  inRange (1 : Int) l = true,
  decide ((↑l : Int) > (1 : Int)) = true,
  (a.toList ==
   {
   data :=
   {
   toList :=
   [(117 : UInt8), (110 : UInt8), (115 : UInt8), (101 : UInt8), (116 : UInt8), (116 : UInt8), (108 : UInt8),
   (101 : UInt8), (100 : UInt8)] :
   Array UInt8 } :
   ByteArray }.toList) =
   true,
  inRange (0 : Int) l = true,
  decide ((↑l : Int) > (1 : Int)) = true,
  decide ((↑l : Int) > (1 : Int)) = true,
  decide ((↑l : Int) > (1 : Int)) = true,
  true = true,
  (a.toList ==
   {
   data :=
   { toList := [(102 : UInt8), (97 : UInt8), (105 : UInt8), (108 : UInt8), (101 : UInt8), (100 : UInt8)] :
   Array UInt8 } :
   ByteArray }.toList) =
   false,
  inRange (0 : Int) l = true,
  decide ((↑l : Int) > (1 : Int)) = true,
  decide ((↑l : Int) > (1 : Int)) = true,
  decide ((↑l : Int) > (1 : Int)) = true,
  true = true,
  (a.toList ==
   { data := { toList := [(99 : UInt8), (108 : UInt8), (97 : UInt8), (115 : UInt8), (104 : UInt8)] : Array UInt8 } :
   ByteArray }.toList) =
   false,
  inRange (0 : Int) l = true,
  decide ((↑l : Int) > (1 : Int)) = true,
  decide ((↑l : Int) > (1 : Int)) = true,
  decide ((↑l : Int) > (1 : Int)) = true,
  true = true,
  (a.toList ==
   {
   data :=
   { toList := [(97 : UInt8), (103 : UInt8), (114 : UInt8), (101 : UInt8), (101 : UInt8), (100 : UInt8)] :
   Array UInt8 } :
   ByteArray }.toList) =
   false,
  inRange (0 : Int) l = true,
  decide ((↑l : Int) > (1 : Int)) = true,
  decide ((↑l : Int) > (1 : Int)) = true,
  decide ((↑l : Int) > (1 : Int)) = true,
  true = true,
  (a.toList ==
   {
   data :=
   { toList := [(112 : UInt8), (117 : UInt8), (108 : UInt8), (108 : UInt8), (101 : UInt8), (100 : UInt8)] :
   Array UInt8 } :
   ByteArray }.toList) =
   false,
  inRange (0 : Int) l = true,
  decide ((↑l : Int) > (1 : Int)) = true,
  decide ((↑l : Int) > (1 : Int)) = true,
  decide ((↑l : Int) > (1 : Int)) = true,
  true = true,
  (a.toList ==
   {
   data :=
   { toList := [(112 : UInt8), (117 : UInt8), (115 : UInt8), (104 : UInt8), (101 : UInt8), (100 : UInt8)] :
   Array UInt8 } :
   ByteArray }.toList) =
   false,
  inRange (0 : Int) l = true,
  decide ((↑l : Int) > (1 : Int)) = true,
  decide ((↑l : Int) > (1 : Int)) = true,
  decide ((↑l : Int) > (1 : Int)) = true,
  true = true,
  decide ((↑l : Int) > (1 : Int)) = true,
  decide ((↑l : Int) > (1 : Int)) = true,
  decide ((↑l : Int) > (1 : Int)) = true,
  true = true] := by kernel_rfl
theorem g6a (a b d : ByteArray) (c : Nat) (v : Value) : endsV (EQ' none) 25 1200 (entQ none [a, b, d] 3 c) (ff [24, 37, 50, 63, 76] false ++ ff [89] true ++ [(101, .b false)]) v = [
  Value.agg
   {
   toList :=
   [Value.string (unS b.data.toList),
   Value.int IntKind.i64
   (IntKind.i64.wrap
   (IntKind.i64.wrap
   (IntKind.i64.wrap
   (IntKind.i64.wrap
   (IntKind.i64.wrap (IntKind.i64.wrap ((0 : Int) + (1 : Int)) + (1 : Int)) + (1 : Int)) +
   (1 : Int)) +
   (1 : Int)) +
   (1 : Int))),
   Value.int IntKind.i64 (0 : Int)] :
   Array Value } =
   v,
  decide ((↑d.size : Int) ≤ (9 : Int)) = false,
  true = true,
  b.size.le (1000000000 : Nat),
  true = true,
  (a.toList ==
   {
   data :=
   {
   toList :=
   [(117 : UInt8), (110 : UInt8), (115 : UInt8), (101 : UInt8), (116 : UInt8), (116 : UInt8), (108 : UInt8),
   (101 : UInt8), (100 : UInt8)] :
   Array UInt8 } :
   ByteArray }.toList) =
   true,
  true = true,
  true = true,
  (a.toList ==
   {
   data :=
   { toList := [(102 : UInt8), (97 : UInt8), (105 : UInt8), (108 : UInt8), (101 : UInt8), (100 : UInt8)] :
   Array UInt8 } :
   ByteArray }.toList) =
   false,
  true = true,
  true = true,
  (a.toList ==
   { data := { toList := [(99 : UInt8), (108 : UInt8), (97 : UInt8), (115 : UInt8), (104 : UInt8)] : Array UInt8 } :
   ByteArray }.toList) =
   false,
  true = true,
  true = true,
  (a.toList ==
   {
   data :=
   { toList := [(97 : UInt8), (103 : UInt8), (114 : UInt8), (101 : UInt8), (101 : UInt8), (100 : UInt8)] :
   Array UInt8 } :
   ByteArray }.toList) =
   false,
  true = true,
  true = true,
  (a.toList ==
   {
   data :=
   { toList := [(112 : UInt8), (117 : UInt8), (108 : UInt8), (108 : UInt8), (101 : UInt8), (100 : UInt8)] :
   Array UInt8 } :
   ByteArray }.toList) =
   false,
  true = true,
  true = true,
  (a.toList ==
   {
   data :=
   { toList := [(112 : UInt8), (117 : UInt8), (115 : UInt8), (104 : UInt8), (101 : UInt8), (100 : UInt8)] :
   Array UInt8 } :
   ByteArray }.toList) =
   false,
  true = true,
  true = true,
  true = true] := by kernel_rfl
theorem g6b (a b d : ByteArray) (c : Nat) (v : Value) : endsV (EQ' none) 25 1200 (entQ none [a, b, d] 3 c) (ff [24, 37, 50, 63, 76] false ++ ff [89] true ++ [(101, .b true)]) v = [
  Value.agg
   {
   toList :=
   [Value.string (unS b.data.toList),
   Value.int IntKind.i64
   (IntKind.i64.wrap
   (IntKind.i64.wrap
   (IntKind.i64.wrap
   (IntKind.i64.wrap
   (IntKind.i64.wrap (IntKind.i64.wrap ((0 : Int) + (1 : Int)) + (1 : Int)) + (1 : Int)) +
   (1 : Int)) +
   (1 : Int)) +
   (1 : Int))),
   Value.int IntKind.i64 (0 : Int)] :
   Array Value } =
   v,
  Lib.atoi d.data.toList = none ∧ d.size ≤ (18 : Nat),
  true = true,
  decide ((↑d.size : Int) ≤ (9 : Int)) = true,
  true = true,
  b.size.le (1000000000 : Nat),
  true = true,
  (a.toList ==
   {
   data :=
   {
   toList :=
   [(117 : UInt8), (110 : UInt8), (115 : UInt8), (101 : UInt8), (116 : UInt8), (116 : UInt8), (108 : UInt8),
   (101 : UInt8), (100 : UInt8)] :
   Array UInt8 } :
   ByteArray }.toList) =
   true,
  true = true,
  true = true,
  (a.toList ==
   {
   data :=
   { toList := [(102 : UInt8), (97 : UInt8), (105 : UInt8), (108 : UInt8), (101 : UInt8), (100 : UInt8)] :
   Array UInt8 } :
   ByteArray }.toList) =
   false,
  true = true,
  true = true,
  (a.toList ==
   { data := { toList := [(99 : UInt8), (108 : UInt8), (97 : UInt8), (115 : UInt8), (104 : UInt8)] : Array UInt8 } :
   ByteArray }.toList) =
   false,
  true = true,
  true = true,
  (a.toList ==
   {
   data :=
   { toList := [(97 : UInt8), (103 : UInt8), (114 : UInt8), (101 : UInt8), (101 : UInt8), (100 : UInt8)] :
   Array UInt8 } :
   ByteArray }.toList) =
   false,
  true = true,
  true = true,
  (a.toList ==
   {
   data :=
   { toList := [(112 : UInt8), (117 : UInt8), (108 : UInt8), (108 : UInt8), (101 : UInt8), (100 : UInt8)] :
   Array UInt8 } :
   ByteArray }.toList) =
   false,
  true = true,
  true = true,
  (a.toList ==
   {
   data :=
   { toList := [(112 : UInt8), (117 : UInt8), (115 : UInt8), (104 : UInt8), (101 : UInt8), (100 : UInt8)] :
   Array UInt8 } :
   ByteArray }.toList) =
   false,
  true = true,
  true = true,
  true = true] := by kernel_rfl
theorem g6c (a b d : ByteArray) (n : Int) (c : Nat) (v : Value) : endsV (EQ' (some n)) 25 1200 (entQ (some n) [a, b, d] 3 c) (ff [24, 37, 50, 63, 76] false ++ ff [89] true ++ [(101, .b true), (107, .b true)]) v = [
  Value.agg
   {
   toList :=
   [Value.string (unS b.data.toList),
   Value.int IntKind.i64
   (IntKind.i64.wrap
   (IntKind.i64.wrap
   (IntKind.i64.wrap
   (IntKind.i64.wrap
   (IntKind.i64.wrap (IntKind.i64.wrap ((0 : Int) + (1 : Int)) + (1 : Int)) + (1 : Int)) +
   (1 : Int)) +
   (1 : Int)) +
   (1 : Int))),
   Value.int IntKind.i64 n] :
   Array Value } =
   v,
  decide (n ≥ (0 : Int)) = true,
  Lib.atoi d.data.toList = some n ∧ d.size ≤ (18 : Nat),
  true = true,
  decide ((↑d.size : Int) ≤ (9 : Int)) = true,
  true = true,
  b.size.le (1000000000 : Nat),
  true = true,
  (a.toList ==
   {
   data :=
   {
   toList :=
   [(117 : UInt8), (110 : UInt8), (115 : UInt8), (101 : UInt8), (116 : UInt8), (116 : UInt8), (108 : UInt8),
   (101 : UInt8), (100 : UInt8)] :
   Array UInt8 } :
   ByteArray }.toList) =
   true,
  true = true,
  true = true,
  (a.toList ==
   {
   data :=
   { toList := [(102 : UInt8), (97 : UInt8), (105 : UInt8), (108 : UInt8), (101 : UInt8), (100 : UInt8)] :
   Array UInt8 } :
   ByteArray }.toList) =
   false,
  true = true,
  true = true,
  (a.toList ==
   { data := { toList := [(99 : UInt8), (108 : UInt8), (97 : UInt8), (115 : UInt8), (104 : UInt8)] : Array UInt8 } :
   ByteArray }.toList) =
   false,
  true = true,
  true = true,
  (a.toList ==
   {
   data :=
   { toList := [(97 : UInt8), (103 : UInt8), (114 : UInt8), (101 : UInt8), (101 : UInt8), (100 : UInt8)] :
   Array UInt8 } :
   ByteArray }.toList) =
   false,
  true = true,
  true = true,
  (a.toList ==
   {
   data :=
   { toList := [(112 : UInt8), (117 : UInt8), (108 : UInt8), (108 : UInt8), (101 : UInt8), (100 : UInt8)] :
   Array UInt8 } :
   ByteArray }.toList) =
   false,
  true = true,
  true = true,
  (a.toList ==
   {
   data :=
   { toList := [(112 : UInt8), (117 : UInt8), (115 : UInt8), (104 : UInt8), (101 : UInt8), (100 : UInt8)] :
   Array UInt8 } :
   ByteArray }.toList) =
   false,
  true = true,
  true = true,
  true = true] := by kernel_rfl
theorem g6d (a b d : ByteArray) (n : Int) (c : Nat) (v : Value) : endsV (EQ' (some n)) 25 1200 (entQ (some n) [a, b, d] 3 c) (ff [24, 37, 50, 63, 76] false ++ ff [89] true ++ [(101, .b true), (107, .b false)]) v = [
  Value.agg
   {
   toList :=
   [Value.string (unS b.data.toList),
   Value.int IntKind.i64
   (IntKind.i64.wrap
   (IntKind.i64.wrap
   (IntKind.i64.wrap
   (IntKind.i64.wrap
   (IntKind.i64.wrap (IntKind.i64.wrap ((0 : Int) + (1 : Int)) + (1 : Int)) + (1 : Int)) +
   (1 : Int)) +
   (1 : Int)) +
   (1 : Int))),
   Value.int IntKind.i64 (0 : Int)] :
   Array Value } =
   v,
  decide (n ≥ (0 : Int)) = false,
  Lib.atoi d.data.toList = some n ∧ d.size ≤ (18 : Nat),
  true = true,
  decide ((↑d.size : Int) ≤ (9 : Int)) = true,
  true = true,
  b.size.le (1000000000 : Nat),
  true = true,
  (a.toList ==
   {
   data :=
   {
   toList :=
   [(117 : UInt8), (110 : UInt8), (115 : UInt8), (101 : UInt8), (116 : UInt8), (116 : UInt8), (108 : UInt8),
   (101 : UInt8), (100 : UInt8)] :
   Array UInt8 } :
   ByteArray }.toList) =
   true,
  true = true,
  true = true,
  (a.toList ==
   {
   data :=
   { toList := [(102 : UInt8), (97 : UInt8), (105 : UInt8), (108 : UInt8), (101 : UInt8), (100 : UInt8)] :
   Array UInt8 } :
   ByteArray }.toList) =
   false,
  true = true,
  true = true,
  (a.toList ==
   { data := { toList := [(99 : UInt8), (108 : UInt8), (97 : UInt8), (115 : UInt8), (104 : UInt8)] : Array UInt8 } :
   ByteArray }.toList) =
   false,
  true = true,
  true = true,
  (a.toList ==
   {
   data :=
   { toList := [(97 : UInt8), (103 : UInt8), (114 : UInt8), (101 : UInt8), (101 : UInt8), (100 : UInt8)] :
   Array UInt8 } :
   ByteArray }.toList) =
   false,
  true = true,
  true = true,
  (a.toList ==
   {
   data :=
   { toList := [(112 : UInt8), (117 : UInt8), (108 : UInt8), (108 : UInt8), (101 : UInt8), (100 : UInt8)] :
   Array UInt8 } :
   ByteArray }.toList) =
   false,
  true = true,
  true = true,
  (a.toList ==
   {
   data :=
   { toList := [(112 : UInt8), (117 : UInt8), (115 : UInt8), (104 : UInt8), (101 : UInt8), (100 : UInt8)] :
   Array UInt8 } :
   ByteArray }.toList) =
   false,
  true = true,
  true = true,
  true = true] := by kernel_rfl
end words
end Go.Proofs.YtagegnclcengjaaDoor
