/- scan.Page: its runs. By an AI agent. -/
import Derived.Test.YtjhmpmhkppglnaaGreatNameH
namespace Go.Proofs.YtjhmpmhkppglnaaGreat
open Go Go.Rx Go.RowKit Go.Proofs
set_option linter.unusedVariables false
set_option linter.unusedSimpArgs false
set_option maxRecDepth 100000
namespace paths
abbrev RowT := ByteArray × Int × Int × Int × Int
def rowC (r : RowT) : List SV := [.v (.string r.1), .v (.int .i64 r.2.1), .v (.int .u64 r.2.2.1), .v (.int .u64 r.2.2.2.1), .v (.int .i64 r.2.2.2.2)]
def rowV (r : RowT) : List Value := [.string r.1, .int .i64 r.2.1, .int .u64 r.2.2.1, .int .u64 r.2.2.2.1, .int .i64 r.2.2.2.2]
theorem rowC_len (r : RowT) : (rowC r).length = 5 := rfl
theorem rowC_closed (r : RowT) : (rowC r).all closedSV = true := rfl
theorem rowCV (ν : Val) (r : RowT) : VRL ν (rowC r) (rowV r) := VRL.lits ν (rowV r)
noncomputable def EG : Env := EP [(14, cmpPS)] []
def look (off : Nat) (xs : List RowT) : Option (SO × Bool) := some (.look (rowsAt rowC off xs), false)
def rows (l : List SV) : Option (SO × Bool) := some (.row l 25 (0, 0) (some 5), true)
noncomputable def entG (off : Nat) (xs : List RowT) (l c : Nat) (s : ByteArray) (k : Int) : SM := (enterS EG 5 [.sl 0 off l (some c), .v (.string s), .v (.int .i64 k)] (memOf 6 1 0 [look off xs])).getD noSM
noncomputable def todoG : List SI := todoL EG 2 60 (entG 0 [] 0 0 ⟨#[]⟩ 0) [(1000, .b true)]
noncomputable def hdG (off L c : Nat) (s : ByteArray) (k : Int) (x : SV) (i : Int) : SF := { fn := 5, tm := tmOf 36 6 ([.junk, .v (.string s), .v (.int .i64 k), .junk, .junk, .junk, x, .junk, .junk, .junk, .sl 0 off L (some c), .v (.int .i64 L), .v (.int .i64 i)] ++ List.replicate 23 .junk), todo := todoG, defers := [], ret := false, kind := .normal, ro := none }
def nilS : SV := .v (.slice none 0 0)
theorem g0 (off L c : Nat) (xs : List RowT) (s : ByteArray) (k : Int) : reach EG 2 60 (entG off xs L c s k) [(1000, .b true)] [(0, 0)] [0] (hdG off L c s k nilS 0) 6 [look off xs] = [
  Value.string s = Value.string s,
  Value.int IntKind.i64 k = Value.int IntKind.i64 k,
  Value.slice none (0 : Nat) (0 : Nat) = Value.slice none (0 : Nat) (0 : Nat),
  off = off ∧ L = L ∧ some c = some c,
  Value.int IntKind.i64 (↑L : Int) = Value.int IntKind.i64 (↑L : Int),
  Value.int IntKind.i64 (0 : Int) = Value.int IntKind.i64 (0 : Int),
  rowsAt rowC off xs = rowsAt rowC off xs,
  (rowsAt rowC off xs).all closedSV = true] := by kernel_rfl
theorem g1 (off L c : Nat) (xs : List RowT) (s : ByteArray) (k i i' : Int) (r : RowT) : reach EG 2 100 (SM.at (hdG off L c s k nilS i) 6 [look off xs]) (ff [0, 1] true ++ [(2, .cells (rowC r))] ++ ff [3, 4, 5, 6, 8, 9, 10] true) [(0, 0)] [0] (hdG off L c s k nilS i') 6 [look off xs] = [
  Value.string s = Value.string s,
  Value.int IntKind.i64 k = Value.int IntKind.i64 k,
  Value.slice none (0 : Nat) (0 : Nat) = Value.slice none (0 : Nat) (0 : Nat),
  off = off ∧ L = L ∧ some c = some c,
  Value.int IntKind.i64 (↑L : Int) = Value.int IntKind.i64 (↑L : Int),
  Value.int IntKind.i64 (IntKind.i64.wrap (i + (1 : Int))) = Value.int IntKind.i64 i',
  rowsAt rowC off xs = rowsAt rowC off xs,
  (rowsAt rowC off xs).all closedSV = true,
  decide (cmpN r.1 s ≤ (0 : Int)) = true,
  (!s.toList == { data := { toList := [] : Array UInt8 } : ByteArray }.toList) = true,
  (!s.toList == { data := { toList := [] : Array UInt8 } : ByteArray }.toList) = true,
  r.1.size ≤ (1000000000 : Nat) ∧ s.size ≤ (1000000000 : Nat),
  (!s.toList == { data := { toList := [] : Array UInt8 } : ByteArray }.toList) = true,
  (!s.toList == { data := { toList := [] : Array UInt8 } : ByteArray }.toList) = true,
  (!s.toList == { data := { toList := [] : Array UInt8 } : ByteArray }.toList) = true,
  (!s.toList == { data := { toList := [] : Array UInt8 } : ByteArray }.toList) = true,
  List.take (5 : Nat) (List.drop (off + i.toNat * (5 : Nat)) (rowsAt rowC off xs)) = rowC r ∧ (rowC r).length = (5 : Nat),
  inRange i L = true,
  decide (i < (↑L : Int)) = true] := by kernel_rfl
theorem g2 (off L c : Nat) (xs : List RowT) (s : ByteArray) (k i i' : Int) (r : RowT) (l' : List SV) : reach EG 2 100 (SM.at (hdG off L c s k nilS i) 6 [look off xs]) (ff [0, 1] true ++ [(2, .cells (rowC r))] ++ ff [3, 4, 5, 6, 8, 9] true ++ ff [10, 11] false) [(0, 0), (1, 3)] [0, 1] (hdG off L c s k (.sl 1 0 1 none) i') 6 [look off xs, rows l'] = [
  Value.string s = Value.string s,
  Value.int IntKind.i64 k = Value.int IntKind.i64 k,
  (0 : Nat) = (0 : Nat) ∧ (1 : Nat) = (1 : Nat) ∧ (none : Option Nat) = none,
  off = off ∧ L = L ∧ some c = some c,
  Value.int IntKind.i64 (↑L : Int) = Value.int IntKind.i64 (↑L : Int),
  Value.int IntKind.i64 (IntKind.i64.wrap (i + (1 : Int))) = Value.int IntKind.i64 i',
  rowsAt rowC off xs = rowsAt rowC off xs,
  (rowsAt rowC off xs).all closedSV = true,
  [] ++
   List.take (5 : Nat)
   (List.drop (0 : Nat)
   (splice
   (List.replicate (1 : Nat)
   (List.map SV.v
   {
   toList :=
   [Value.string { data := { toList := [] : Array UInt8 } : ByteArray },
   Value.int IntKind.i64 (0 : Int), Value.int IntKind.u64 (0 : Int),
   Value.int IntKind.u64 (0 : Int), Value.int IntKind.i64 (0 : Int)] :
   Array Value }.toList)).flatten
   (0 : Nat)
   (List.take (5 : Nat)
   (List.drop (0 : Nat)
   (splice
   (List.map SV.v
   {
   toList :=
   [Value.string { data := { toList := [] : Array UInt8 } : ByteArray },
   Value.int IntKind.i64 (0 : Int), Value.int IntKind.u64 (0 : Int),
   Value.int IntKind.u64 (0 : Int), Value.int IntKind.i64 (0 : Int)] :
   Array Value }.toList)
   (0 : Nat) (rowC r)))))) =
   l',
  l'.all closedSV = true,
  decide ((↑(0 : Nat) : Int) ≥ k) = false,
  decide (cmpN r.1 s ≤ (0 : Int)) = false,
  (!s.toList == { data := { toList := [] : Array UInt8 } : ByteArray }.toList) = true,
  (!s.toList == { data := { toList := [] : Array UInt8 } : ByteArray }.toList) = true,
  r.1.size ≤ (1000000000 : Nat) ∧ s.size ≤ (1000000000 : Nat),
  (!s.toList == { data := { toList := [] : Array UInt8 } : ByteArray }.toList) = true,
  (!s.toList == { data := { toList := [] : Array UInt8 } : ByteArray }.toList) = true,
  (!s.toList == { data := { toList := [] : Array UInt8 } : ByteArray }.toList) = true,
  (!s.toList == { data := { toList := [] : Array UInt8 } : ByteArray }.toList) = true,
  List.take (5 : Nat) (List.drop (off + i.toNat * (5 : Nat)) (rowsAt rowC off xs)) = rowC r ∧ (rowC r).length = (5 : Nat),
  inRange i L = true,
  decide (i < (↑L : Int)) = true] := by kernel_rfl
theorem g3 (off L c : Nat) (xs : List RowT) (s : ByteArray) (k i i' : Int) (r : RowT) (l' : List SV) : reach EG 2 100 (SM.at (hdG off L c s k nilS i) 6 [look off xs]) (ff [0, 1] true ++ [(2, .cells (rowC r))] ++ ff [3, 4, 5, 6, 7, 8, 9, 10] false) [(0, 0), (1, 3)] [0, 1] (hdG off L c s k (.sl 1 0 1 none) i') 6 [look off xs, rows l'] = [
  Value.string s = Value.string s,
  Value.int IntKind.i64 k = Value.int IntKind.i64 k,
  (0 : Nat) = (0 : Nat) ∧ (1 : Nat) = (1 : Nat) ∧ (none : Option Nat) = none,
  off = off ∧ L = L ∧ some c = some c,
  Value.int IntKind.i64 (↑L : Int) = Value.int IntKind.i64 (↑L : Int),
  Value.int IntKind.i64 (IntKind.i64.wrap (i + (1 : Int))) = Value.int IntKind.i64 i',
  rowsAt rowC off xs = rowsAt rowC off xs,
  (rowsAt rowC off xs).all closedSV = true,
  [] ++
   List.take (5 : Nat)
   (List.drop (0 : Nat)
   (splice
   (List.replicate (1 : Nat)
   (List.map SV.v
   {
   toList :=
   [Value.string { data := { toList := [] : Array UInt8 } : ByteArray },
   Value.int IntKind.i64 (0 : Int), Value.int IntKind.u64 (0 : Int),
   Value.int IntKind.u64 (0 : Int), Value.int IntKind.i64 (0 : Int)] :
   Array Value }.toList)).flatten
   (0 : Nat)
   (List.take (5 : Nat)
   (List.drop (0 : Nat)
   (splice
   (List.map SV.v
   {
   toList :=
   [Value.string { data := { toList := [] : Array UInt8 } : ByteArray },
   Value.int IntKind.i64 (0 : Int), Value.int IntKind.u64 (0 : Int),
   Value.int IntKind.u64 (0 : Int), Value.int IntKind.i64 (0 : Int)] :
   Array Value }.toList)
   (0 : Nat) (rowC r)))))) =
   l',
  l'.all closedSV = true,
  decide ((↑(0 : Nat) : Int) ≥ k) = false,
  false = false,
  (!s.toList == { data := { toList := [] : Array UInt8 } : ByteArray }.toList) = false,
  (!s.toList == { data := { toList := [] : Array UInt8 } : ByteArray }.toList) = false,
  (!s.toList == { data := { toList := [] : Array UInt8 } : ByteArray }.toList) = false,
  (!s.toList == { data := { toList := [] : Array UInt8 } : ByteArray }.toList) = false,
  (!s.toList == { data := { toList := [] : Array UInt8 } : ByteArray }.toList) = false,
  (!s.toList == { data := { toList := [] : Array UInt8 } : ByteArray }.toList) = false,
  List.take (5 : Nat) (List.drop (off + i.toNat * (5 : Nat)) (rowsAt rowC off xs)) = rowC r ∧ (rowC r).length = (5 : Nat),
  inRange i L = true,
  decide (i < (↑L : Int)) = true] := by kernel_rfl
theorem g4 (off L c : Nat) (xs : List RowT) (s : ByteArray) (k i : Int) (r : RowT) (v : Value) : endsV EG 5 100 (SM.at (hdG off L c s k nilS i) 6 [look off xs]) (ff [0, 1] true ++ [(2, .cells (rowC r))] ++ ff [3, 4, 5, 6, 8, 9] true ++ ff [10] false ++ ff [11] true) v = [
  Value.tuple { toList := [Value.slice none (0 : Nat) (0 : Nat), Value.bool true] : Array Value } = v,
  decide ((↑(0 : Nat) : Int) ≥ k) = true,
  decide (cmpN r.1 s ≤ (0 : Int)) = false,
  (!s.toList == { data := { toList := [] : Array UInt8 } : ByteArray }.toList) = true,
  (!s.toList == { data := { toList := [] : Array UInt8 } : ByteArray }.toList) = true,
  r.1.size ≤ (1000000000 : Nat) ∧ s.size ≤ (1000000000 : Nat),
  (!s.toList == { data := { toList := [] : Array UInt8 } : ByteArray }.toList) = true,
  (!s.toList == { data := { toList := [] : Array UInt8 } : ByteArray }.toList) = true,
  (!s.toList == { data := { toList := [] : Array UInt8 } : ByteArray }.toList) = true,
  (!s.toList == { data := { toList := [] : Array UInt8 } : ByteArray }.toList) = true,
  List.take (5 : Nat) (List.drop (off + i.toNat * (5 : Nat)) (rowsAt rowC off xs)) = rowC r ∧ (rowC r).length = (5 : Nat),
  inRange i L = true,
  decide (i < (↑L : Int)) = true] := by kernel_rfl
theorem g5 (off L c : Nat) (xs : List RowT) (s : ByteArray) (k i : Int) (r : RowT) (v : Value) : endsV EG 5 100 (SM.at (hdG off L c s k nilS i) 6 [look off xs]) (ff [0, 1] true ++ [(2, .cells (rowC r))] ++ ff [3, 4, 5, 6, 7, 8, 9] false ++ ff [10] true) v = [
  Value.tuple { toList := [Value.slice none (0 : Nat) (0 : Nat), Value.bool true] : Array Value } = v,
  decide ((↑(0 : Nat) : Int) ≥ k) = true,
  false = false,
  (!s.toList == { data := { toList := [] : Array UInt8 } : ByteArray }.toList) = false,
  (!s.toList == { data := { toList := [] : Array UInt8 } : ByteArray }.toList) = false,
  (!s.toList == { data := { toList := [] : Array UInt8 } : ByteArray }.toList) = false,
  (!s.toList == { data := { toList := [] : Array UInt8 } : ByteArray }.toList) = false,
  (!s.toList == { data := { toList := [] : Array UInt8 } : ByteArray }.toList) = false,
  (!s.toList == { data := { toList := [] : Array UInt8 } : ByteArray }.toList) = false,
  List.take (5 : Nat) (List.drop (off + i.toNat * (5 : Nat)) (rowsAt rowC off xs)) = rowC r ∧ (rowC r).length = (5 : Nat),
  inRange i L = true,
  decide (i < (↑L : Int)) = true] := by kernel_rfl
theorem g6 (off L c : Nat) (xs : List RowT) (s : ByteArray) (k i : Int) (v : Value) : endsV EG 5 100 (SM.at (hdG off L c s k nilS i) 6 [look off xs]) (ff [0] false) v = [
  Value.tuple { toList := [Value.slice none (0 : Nat) (0 : Nat), Value.bool false] : Array Value } = v,
  decide (i < (↑L : Int)) = false] := by kernel_rfl
theorem g7 (off L c : Nat) (xs : List RowT) (s : ByteArray) (k i i' : Int) (r : RowT) (m : Nat) (l : List SV) : reach EG 2 100 (SM.at (hdG off L c s k (.sl 1 0 m none) i) 6 [look off xs, rows l]) (ff [0, 1] true ++ [(2, .cells (rowC r))] ++ ff [3, 4, 5, 6, 8, 9, 10] true) [(0, 0), (1, 1)] [0, 1] (hdG off L c s k (.sl 1 0 m none) i') 6 [look off xs, rows l] = [
  Value.string s = Value.string s,
  Value.int IntKind.i64 k = Value.int IntKind.i64 k,
  (0 : Nat) = (0 : Nat) ∧ m = m ∧ (none : Option Nat) = none,
  off = off ∧ L = L ∧ some c = some c,
  Value.int IntKind.i64 (↑L : Int) = Value.int IntKind.i64 (↑L : Int),
  Value.int IntKind.i64 (IntKind.i64.wrap (i + (1 : Int))) = Value.int IntKind.i64 i',
  rowsAt rowC off xs = rowsAt rowC off xs,
  (rowsAt rowC off xs).all closedSV = true,
  l = l,
  l.all closedSV = true,
  decide (cmpN r.1 s ≤ (0 : Int)) = true,
  (!s.toList == { data := { toList := [] : Array UInt8 } : ByteArray }.toList) = true,
  (!s.toList == { data := { toList := [] : Array UInt8 } : ByteArray }.toList) = true,
  r.1.size ≤ (1000000000 : Nat) ∧ s.size ≤ (1000000000 : Nat),
  (!s.toList == { data := { toList := [] : Array UInt8 } : ByteArray }.toList) = true,
  (!s.toList == { data := { toList := [] : Array UInt8 } : ByteArray }.toList) = true,
  (!s.toList == { data := { toList := [] : Array UInt8 } : ByteArray }.toList) = true,
  (!s.toList == { data := { toList := [] : Array UInt8 } : ByteArray }.toList) = true,
  List.take (5 : Nat) (List.drop (off + i.toNat * (5 : Nat)) (rowsAt rowC off xs)) = rowC r ∧ (rowC r).length = (5 : Nat),
  inRange i L = true,
  decide (i < (↑L : Int)) = true] := by kernel_rfl
theorem g8 (off L c : Nat) (xs : List RowT) (s : ByteArray) (k i i' : Int) (r : RowT) (m : Nat) (l l' w : List SV) : reach EG 2 100 (SM.at (hdG off L c s k (.sl 1 0 m none) i) 6 [look off xs, rows l]) (ff [0, 1] true ++ [(2, .cells (rowC r))] ++ ff [3, 4, 5, 6, 8, 9] true ++ ff [10, 11] false ++ [(12, .app l w)]) [(0, 0), (1, 4)] [0, 1] (hdG off L c s k (.sl 1 0 (m + 1) none) i') 6 [look off xs, rows l'] = [
  Value.string s = Value.string s,
  Value.int IntKind.i64 k = Value.int IntKind.i64 k,
  (0 : Nat) = (0 : Nat) ∧ m + (1 : Nat) = m + (1 : Nat) ∧ (none : Option Nat) = none,
  off = off ∧ L = L ∧ some c = some c,
  Value.int IntKind.i64 (↑L : Int) = Value.int IntKind.i64 (↑L : Int),
  Value.int IntKind.i64 (IntKind.i64.wrap (i + (1 : Int))) = Value.int IntKind.i64 i',
  rowsAt rowC off xs = rowsAt rowC off xs,
  (rowsAt rowC off xs).all closedSV = true,
  l ++ w = l',
  l'.all closedSV = true,
  ((List.take (5 : Nat)
   (List.drop (0 : Nat)
   (splice
   (List.replicate (1 : Nat)
   (List.map SV.v
   {
   toList :=
   [Value.string { data := { toList := [] : Array UInt8 } : ByteArray },
   Value.int IntKind.i64 (0 : Int), Value.int IntKind.u64 (0 : Int),
   Value.int IntKind.u64 (0 : Int), Value.int IntKind.i64 (0 : Int)] :
   Array Value }.toList)).flatten
   (0 : Nat)
   (List.take (5 : Nat)
   (List.drop (0 : Nat)
   (splice
   (List.map SV.v
   {
   toList :=
   [Value.string { data := { toList := [] : Array UInt8 } : ByteArray },
   Value.int IntKind.i64 (0 : Int), Value.int IntKind.u64 (0 : Int),
   Value.int IntKind.u64 (0 : Int), Value.int IntKind.i64 (0 : Int)] :
   Array Value }.toList)
   (0 : Nat) (rowC r)))))) =
   w ∧
   w.length = (1 : Nat) * (5 : Nat)) ∧
   (1 : Nat) ≠ (0 : Nat) ∧ ((2 : Nat) * (m + (1 : Nat)) + (1024 : Nat)) * (48 : Nat) ≤ (140737488355328 : Nat)) ∧
   List.take (m * (5 : Nat)) l = l ∧ l.length = m * (5 : Nat) ∧ w.all SV.flat = true,
  decide ((↑m : Int) ≥ k) = false,
  decide (cmpN r.1 s ≤ (0 : Int)) = false,
  (!s.toList == { data := { toList := [] : Array UInt8 } : ByteArray }.toList) = true,
  (!s.toList == { data := { toList := [] : Array UInt8 } : ByteArray }.toList) = true,
  r.1.size ≤ (1000000000 : Nat) ∧ s.size ≤ (1000000000 : Nat),
  (!s.toList == { data := { toList := [] : Array UInt8 } : ByteArray }.toList) = true,
  (!s.toList == { data := { toList := [] : Array UInt8 } : ByteArray }.toList) = true,
  (!s.toList == { data := { toList := [] : Array UInt8 } : ByteArray }.toList) = true,
  (!s.toList == { data := { toList := [] : Array UInt8 } : ByteArray }.toList) = true,
  List.take (5 : Nat) (List.drop (off + i.toNat * (5 : Nat)) (rowsAt rowC off xs)) = rowC r ∧ (rowC r).length = (5 : Nat),
  inRange i L = true,
  decide (i < (↑L : Int)) = true] := by kernel_rfl
theorem g9 (off L c : Nat) (xs : List RowT) (s : ByteArray) (k i i' : Int) (r : RowT) (m : Nat) (l l' w : List SV) : reach EG 2 100 (SM.at (hdG off L c s k (.sl 1 0 m none) i) 6 [look off xs, rows l]) (ff [0, 1] true ++ [(2, .cells (rowC r))] ++ ff [3, 4, 5, 6, 7, 8, 9, 10] false ++ [(11, .app l w)]) [(0, 0), (1, 4)] [0, 1] (hdG off L c s k (.sl 1 0 (m + 1) none) i') 6 [look off xs, rows l'] = [
  Value.string s = Value.string s,
  Value.int IntKind.i64 k = Value.int IntKind.i64 k,
  (0 : Nat) = (0 : Nat) ∧ m + (1 : Nat) = m + (1 : Nat) ∧ (none : Option Nat) = none,
  off = off ∧ L = L ∧ some c = some c,
  Value.int IntKind.i64 (↑L : Int) = Value.int IntKind.i64 (↑L : Int),
  Value.int IntKind.i64 (IntKind.i64.wrap (i + (1 : Int))) = Value.int IntKind.i64 i',
  rowsAt rowC off xs = rowsAt rowC off xs,
  (rowsAt rowC off xs).all closedSV = true,
  l ++ w = l',
  l'.all closedSV = true,
  ((List.take (5 : Nat)
   (List.drop (0 : Nat)
   (splice
   (List.replicate (1 : Nat)
   (List.map SV.v
   {
   toList :=
   [Value.string { data := { toList := [] : Array UInt8 } : ByteArray },
   Value.int IntKind.i64 (0 : Int), Value.int IntKind.u64 (0 : Int),
   Value.int IntKind.u64 (0 : Int), Value.int IntKind.i64 (0 : Int)] :
   Array Value }.toList)).flatten
   (0 : Nat)
   (List.take (5 : Nat)
   (List.drop (0 : Nat)
   (splice
   (List.map SV.v
   {
   toList :=
   [Value.string { data := { toList := [] : Array UInt8 } : ByteArray },
   Value.int IntKind.i64 (0 : Int), Value.int IntKind.u64 (0 : Int),
   Value.int IntKind.u64 (0 : Int), Value.int IntKind.i64 (0 : Int)] :
   Array Value }.toList)
   (0 : Nat) (rowC r)))))) =
   w ∧
   w.length = (1 : Nat) * (5 : Nat)) ∧
   (1 : Nat) ≠ (0 : Nat) ∧ ((2 : Nat) * (m + (1 : Nat)) + (1024 : Nat)) * (48 : Nat) ≤ (140737488355328 : Nat)) ∧
   List.take (m * (5 : Nat)) l = l ∧ l.length = m * (5 : Nat) ∧ w.all SV.flat = true,
  decide ((↑m : Int) ≥ k) = false,
  false = false,
  (!s.toList == { data := { toList := [] : Array UInt8 } : ByteArray }.toList) = false,
  (!s.toList == { data := { toList := [] : Array UInt8 } : ByteArray }.toList) = false,
  (!s.toList == { data := { toList := [] : Array UInt8 } : ByteArray }.toList) = false,
  (!s.toList == { data := { toList := [] : Array UInt8 } : ByteArray }.toList) = false,
  (!s.toList == { data := { toList := [] : Array UInt8 } : ByteArray }.toList) = false,
  (!s.toList == { data := { toList := [] : Array UInt8 } : ByteArray }.toList) = false,
  List.take (5 : Nat) (List.drop (off + i.toNat * (5 : Nat)) (rowsAt rowC off xs)) = rowC r ∧ (rowC r).length = (5 : Nat),
  inRange i L = true,
  decide (i < (↑L : Int)) = true] := by kernel_rfl
theorem g10 (off L c : Nat) (xs : List RowT) (s : ByteArray) (k i : Int) (r : RowT) (m : Nat) (l : List SV) (b : Bool) : endsO EG 5 100 (SM.at (hdG off L c s k (.sl 1 0 m none) i) 6 [look off xs, rows l]) (ff [0, 1] true ++ [(2, .cells (rowC r))] ++ ff [3, 4, 5, 6, 8, 9] true ++ ff [10] false ++ ff [11] true) (.tup [.sl 1 0 m none, .v (.bool b)]) 1 (.row l 25 (0, 0) (some 5)) = [
  (0 : Nat) = (0 : Nat) ∧ m = m ∧ (none : Option Nat) = none,
  Value.bool true = Value.bool b,
  l = l,
  l.all closedSV = true,
  decide ((↑m : Int) ≥ k) = true,
  decide (cmpN r.1 s ≤ (0 : Int)) = false,
  (!s.toList == { data := { toList := [] : Array UInt8 } : ByteArray }.toList) = true,
  (!s.toList == { data := { toList := [] : Array UInt8 } : ByteArray }.toList) = true,
  r.1.size ≤ (1000000000 : Nat) ∧ s.size ≤ (1000000000 : Nat),
  (!s.toList == { data := { toList := [] : Array UInt8 } : ByteArray }.toList) = true,
  (!s.toList == { data := { toList := [] : Array UInt8 } : ByteArray }.toList) = true,
  (!s.toList == { data := { toList := [] : Array UInt8 } : ByteArray }.toList) = true,
  (!s.toList == { data := { toList := [] : Array UInt8 } : ByteArray }.toList) = true,
  List.take (5 : Nat) (List.drop (off + i.toNat * (5 : Nat)) (rowsAt rowC off xs)) = rowC r ∧ (rowC r).length = (5 : Nat),
  inRange i L = true,
  decide (i < (↑L : Int)) = true] := by kernel_rfl
theorem g11 (off L c : Nat) (xs : List RowT) (s : ByteArray) (k i : Int) (r : RowT) (m : Nat) (l : List SV) (b : Bool) : endsO EG 5 100 (SM.at (hdG off L c s k (.sl 1 0 m none) i) 6 [look off xs, rows l]) (ff [0, 1] true ++ [(2, .cells (rowC r))] ++ ff [3, 4, 5, 6, 7, 8, 9] false ++ ff [10] true) (.tup [.sl 1 0 m none, .v (.bool b)]) 1 (.row l 25 (0, 0) (some 5)) = [
  (0 : Nat) = (0 : Nat) ∧ m = m ∧ (none : Option Nat) = none,
  Value.bool true = Value.bool b,
  l = l,
  l.all closedSV = true,
  decide ((↑m : Int) ≥ k) = true,
  false = false,
  (!s.toList == { data := { toList := [] : Array UInt8 } : ByteArray }.toList) = false,
  (!s.toList == { data := { toList := [] : Array UInt8 } : ByteArray }.toList) = false,
  (!s.toList == { data := { toList := [] : Array UInt8 } : ByteArray }.toList) = false,
  (!s.toList == { data := { toList := [] : Array UInt8 } : ByteArray }.toList) = false,
  (!s.toList == { data := { toList := [] : Array UInt8 } : ByteArray }.toList) = false,
  (!s.toList == { data := { toList := [] : Array UInt8 } : ByteArray }.toList) = false,
  List.take (5 : Nat) (List.drop (off + i.toNat * (5 : Nat)) (rowsAt rowC off xs)) = rowC r ∧ (rowC r).length = (5 : Nat),
  inRange i L = true,
  decide (i < (↑L : Int)) = true] := by kernel_rfl
theorem g12 (off L c : Nat) (xs : List RowT) (s : ByteArray) (k i : Int) (m : Nat) (l : List SV) (b : Bool) : endsO EG 5 100 (SM.at (hdG off L c s k (.sl 1 0 m none) i) 6 [look off xs, rows l]) (ff [0] false) (.tup [.sl 1 0 m none, .v (.bool b)]) 1 (.row l 25 (0, 0) (some 5)) = [
  (0 : Nat) = (0 : Nat) ∧ m = m ∧ (none : Option Nat) = none,
  Value.bool false = Value.bool b,
  l = l,
  l.all closedSV = true,
  decide (i < (↑L : Int)) = false] := by kernel_rfl
end paths
end Go.Proofs.YtjhmpmhkppglnaaGreat
namespace Go.Proofs.YtjhmpmhkppglnaaGreat
open Go Go.Rx Go.RowKit Go.Proofs
set_option linter.unusedVariables false
set_option linter.unusedSimpArgs false
set_option maxRecDepth 100000
namespace paths
noncomputable def EJ : Env := EP [(15, cmpPS)] []
noncomputable def entJ (off : Nat) (xs : List RowT) (l c : Nat) (s : ByteArray) (k : Int) : SM := (enterS EJ 6 [.sl 0 off l (some c), .v (.string s), .v (.int .i64 k)] (memOf 6 1 0 [look off xs])).getD noSM
noncomputable def todoJ : List SI := todoL EJ 2 60 (entJ 0 [] 0 0 ⟨#[]⟩ 0) [(1000, .b true)]
noncomputable def hdJ (off L c : Nat) (s : ByteArray) (k : Int) (x : SV) (i : Int) : SF := { fn := 6, tm := tmOf 45 6 ([.sl 0 off L (some c), .v (.string s), .v (.int .i64 k), .junk, .junk, .junk, .junk, .junk, x, .v (.int .i64 i)] ++ List.replicate 35 .junk), todo := todoJ, defers := [], ret := false, kind := .normal, ro := none }
theorem j0 (off L c : Nat) (xs : List RowT) (s : ByteArray) (k : Int) : reach EJ 2 60 (entJ off xs L c s k) [(1000, .b true)] [(0, 0)] [0] (hdJ off L c s k nilS 0) 6 [look off xs] = [
  off = off ∧ L = L ∧ some c = some c,
  Value.string s = Value.string s,
  Value.int IntKind.i64 k = Value.int IntKind.i64 k,
  Value.slice none (0 : Nat) (0 : Nat) = Value.slice none (0 : Nat) (0 : Nat),
  Value.int IntKind.i64 (0 : Int) = Value.int IntKind.i64 (0 : Int),
  rowsAt rowC off xs = rowsAt rowC off xs,
  (rowsAt rowC off xs).all closedSV = true] := by kernel_rfl
theorem j1 (off L c : Nat) (xs : List RowT) (s : ByteArray) (k i i' : Int) (r : RowT) : reach EJ 2 100 (SM.at (hdJ off L c s k nilS i) 6 [look off xs]) (ff [0] true ++ ff [1, 2, 3, 5, 6, 8, 9, 11, 12, 13] false ++ [(7, .cells [.v (.string r.1)])]) [(0, 0)] [0] (hdJ off L c s k nilS i') 6 [look off xs] = [
  off = off ∧ L = L ∧ some c = some c,
  Value.string s = Value.string s,
  Value.int IntKind.i64 k = Value.int IntKind.i64 k,
  Value.slice none (0 : Nat) (0 : Nat) = Value.slice none (0 : Nat) (0 : Nat),
  Value.int IntKind.i64 (IntKind.i64.wrap (i + (1 : Int))) = Value.int IntKind.i64 i',
  rowsAt rowC off xs = rowsAt rowC off xs,
  (rowsAt rowC off xs).all closedSV = true,
  decide (cmpN r.1 s > (0 : Int)) = false,
  (s.toList == { data := { toList := [] : Array UInt8 } : ByteArray }.toList) = false,
  (s.toList == { data := { toList := [] : Array UInt8 } : ByteArray }.toList) = false,
  r.1.size ≤ (1000000000 : Nat) ∧ s.size ≤ (1000000000 : Nat),
  (s.toList == { data := { toList := [] : Array UInt8 } : ByteArray }.toList) = false,
  (s.toList == { data := { toList := [] : Array UInt8 } : ByteArray }.toList) = false,
  (rowsAt rowC off xs)[off + i.toNat * (5 : Nat) + (0 : Nat)]? = some (SV.v (Value.string r.1)),
  (s.toList == { data := { toList := [] : Array UInt8 } : ByteArray }.toList) = false,
  (s.toList == { data := { toList := [] : Array UInt8 } : ByteArray }.toList) = false,
  inRange i L = true,
  (s.toList == { data := { toList := [] : Array UInt8 } : ByteArray }.toList) = false,
  (s.toList == { data := { toList := [] : Array UInt8 } : ByteArray }.toList) = false,
  (s.toList == { data := { toList := [] : Array UInt8 } : ByteArray }.toList) = false,
  decide (i < (↑L : Int)) = true] := by kernel_rfl
theorem j2 (off L c : Nat) (xs : List RowT) (s : ByteArray) (k i i' : Int) (r : RowT) (l' : List SV) : reach EJ 2 100 (SM.at (hdJ off L c s k nilS i) 6 [look off xs]) (ff [0] true ++ ff [1, 2, 3, 5, 6, 8, 9, 11, 12] false ++ ff [13] true ++ [(7, .cells [.v (.string r.1)]), (15, .cells (rowC r))]) [(0, 0), (1, 2)] [0, 1] (hdJ off L c s k (.sl 1 0 1 none) i') 6 [look off xs, rows l'] = [
  off = off ∧ L = L ∧ some c = some c,
  Value.string s = Value.string s,
  Value.int IntKind.i64 k = Value.int IntKind.i64 k,
  (0 : Nat) = (0 : Nat) ∧ (1 : Nat) = (1 : Nat) ∧ (none : Option Nat) = none,
  Value.int IntKind.i64 (IntKind.i64.wrap (i + (1 : Int))) = Value.int IntKind.i64 i',
  rowsAt rowC off xs = rowsAt rowC off xs,
  (rowsAt rowC off xs).all closedSV = true,
  [] ++
   List.take (5 : Nat)
   (List.drop (0 : Nat)
   (splice
   (List.replicate (1 : Nat)
   (List.map SV.v
   {
   toList :=
   [Value.string { data := { toList := [] : Array UInt8 } : ByteArray },
   Value.int IntKind.i64 (0 : Int), Value.int IntKind.u64 (0 : Int),
   Value.int IntKind.u64 (0 : Int), Value.int IntKind.i64 (0 : Int)] :
   Array Value }.toList)).flatten
   (0 : Nat) (rowC r))) =
   l',
  l'.all closedSV = true,
  List.take (5 : Nat) (List.drop (off + i.toNat * (5 : Nat)) (rowsAt rowC off xs)) = rowC r ∧ (rowC r).length = (5 : Nat),
  inRange i L = true,
  decide (cmpN r.1 s > (0 : Int)) = true,
  (s.toList == { data := { toList := [] : Array UInt8 } : ByteArray }.toList) = false,
  (s.toList == { data := { toList := [] : Array UInt8 } : ByteArray }.toList) = false,
  r.1.size ≤ (1000000000 : Nat) ∧ s.size ≤ (1000000000 : Nat),
  (s.toList == { data := { toList := [] : Array UInt8 } : ByteArray }.toList) = false,
  (s.toList == { data := { toList := [] : Array UInt8 } : ByteArray }.toList) = false,
  (rowsAt rowC off xs)[off + i.toNat * (5 : Nat) + (0 : Nat)]? = some (SV.v (Value.string r.1)),
  (s.toList == { data := { toList := [] : Array UInt8 } : ByteArray }.toList) = false,
  (s.toList == { data := { toList := [] : Array UInt8 } : ByteArray }.toList) = false,
  inRange i L = true,
  (s.toList == { data := { toList := [] : Array UInt8 } : ByteArray }.toList) = false,
  (s.toList == { data := { toList := [] : Array UInt8 } : ByteArray }.toList) = false,
  (s.toList == { data := { toList := [] : Array UInt8 } : ByteArray }.toList) = false,
  decide (i < (↑L : Int)) = true] := by kernel_rfl
theorem j3 (off L c : Nat) (xs : List RowT) (s : ByteArray) (k i i' : Int) (r : RowT) (l' : List SV) : reach EJ 2 100 (SM.at (hdJ off L c s k nilS i) 6 [look off xs]) (ff (List.range 12) true ++ [(12, .cells (rowC r))]) [(0, 0), (1, 2)] [0, 1] (hdJ off L c s k (.sl 1 0 1 none) i') 6 [look off xs, rows l'] = [
  off = off ∧ L = L ∧ some c = some c,
  Value.string s = Value.string s,
  Value.int IntKind.i64 k = Value.int IntKind.i64 k,
  (0 : Nat) = (0 : Nat) ∧ (1 : Nat) = (1 : Nat) ∧ (none : Option Nat) = none,
  Value.int IntKind.i64 (IntKind.i64.wrap (i + (1 : Int))) = Value.int IntKind.i64 i',
  rowsAt rowC off xs = rowsAt rowC off xs,
  (rowsAt rowC off xs).all closedSV = true,
  [] ++
   List.take (5 : Nat)
   (List.drop (0 : Nat)
   (splice
   (List.replicate (1 : Nat)
   (List.map SV.v
   {
   toList :=
   [Value.string { data := { toList := [] : Array UInt8 } : ByteArray },
   Value.int IntKind.i64 (0 : Int), Value.int IntKind.u64 (0 : Int),
   Value.int IntKind.u64 (0 : Int), Value.int IntKind.i64 (0 : Int)] :
   Array Value }.toList)).flatten
   (0 : Nat) (rowC r))) =
   l',
  l'.all closedSV = true,
  List.take (5 : Nat) (List.drop (off + i.toNat * (5 : Nat)) (rowsAt rowC off xs)) = rowC r ∧ (rowC r).length = (5 : Nat),
  inRange i L = true,
  true = true,
  (s.toList == { data := { toList := [] : Array UInt8 } : ByteArray }.toList) = true,
  (s.toList == { data := { toList := [] : Array UInt8 } : ByteArray }.toList) = true,
  (s.toList == { data := { toList := [] : Array UInt8 } : ByteArray }.toList) = true,
  (s.toList == { data := { toList := [] : Array UInt8 } : ByteArray }.toList) = true,
  (s.toList == { data := { toList := [] : Array UInt8 } : ByteArray }.toList) = true,
  (s.toList == { data := { toList := [] : Array UInt8 } : ByteArray }.toList) = true,
  (s.toList == { data := { toList := [] : Array UInt8 } : ByteArray }.toList) = true,
  (s.toList == { data := { toList := [] : Array UInt8 } : ByteArray }.toList) = true,
  (s.toList == { data := { toList := [] : Array UInt8 } : ByteArray }.toList) = true,
  decide (i < (↑L : Int)) = true] := by kernel_rfl
theorem j6 (off L c : Nat) (xs : List RowT) (s : ByteArray) (k i : Int) (v : Value) : endsV EJ 6 100 (SM.at (hdJ off L c s k nilS i) 6 [look off xs]) (ff [0] false ++ ff [1, 2] true) v = [
  Value.tuple { toList := [Value.slice none (0 : Nat) (0 : Nat), Value.bool false] : Array Value } = v,
  true = true,
  decide (k < (0 : Int)) = true,
  decide (i < (↑L : Int)) = false] := by kernel_rfl
theorem j5 (off L c : Nat) (xs : List RowT) (s : ByteArray) (k i : Int) (v : Value) : endsV EJ 6 100 (SM.at (hdJ off L c s k nilS i) 6 [look off xs]) (ff [0] false ++ ff [1] false ++ ff [2] true) v = [
  Value.tuple { toList := [Value.slice none (0 : Nat) (0 : Nat), Value.bool false] : Array Value } = v,
  decide (k ≥ (↑(0 : Nat) : Int)) = true,
  decide (k < (0 : Int)) = false,
  decide (i < (↑L : Int)) = false] := by kernel_rfl
theorem j7 (off L c : Nat) (xs : List RowT) (s : ByteArray) (k i i' : Int) (r : RowT) (m : Nat) (l : List SV) : reach EJ 2 100 (SM.at (hdJ off L c s k (.sl 1 0 m none) i) 6 [look off xs, rows l]) (ff [0] true ++ ff [1, 2, 3, 5, 6, 8, 9, 11, 12, 13] false ++ [(7, .cells [.v (.string r.1)])]) [(0, 0), (1, 1)] [0, 1] (hdJ off L c s k (.sl 1 0 m none) i') 6 [look off xs, rows l] = [
  off = off ∧ L = L ∧ some c = some c,
  Value.string s = Value.string s,
  Value.int IntKind.i64 k = Value.int IntKind.i64 k,
  (0 : Nat) = (0 : Nat) ∧ m = m ∧ (none : Option Nat) = none,
  Value.int IntKind.i64 (IntKind.i64.wrap (i + (1 : Int))) = Value.int IntKind.i64 i',
  rowsAt rowC off xs = rowsAt rowC off xs,
  (rowsAt rowC off xs).all closedSV = true,
  l = l,
  l.all closedSV = true,
  decide (cmpN r.1 s > (0 : Int)) = false,
  (s.toList == { data := { toList := [] : Array UInt8 } : ByteArray }.toList) = false,
  (s.toList == { data := { toList := [] : Array UInt8 } : ByteArray }.toList) = false,
  r.1.size ≤ (1000000000 : Nat) ∧ s.size ≤ (1000000000 : Nat),
  (s.toList == { data := { toList := [] : Array UInt8 } : ByteArray }.toList) = false,
  (s.toList == { data := { toList := [] : Array UInt8 } : ByteArray }.toList) = false,
  (rowsAt rowC off xs)[off + i.toNat * (5 : Nat) + (0 : Nat)]? = some (SV.v (Value.string r.1)),
  (s.toList == { data := { toList := [] : Array UInt8 } : ByteArray }.toList) = false,
  (s.toList == { data := { toList := [] : Array UInt8 } : ByteArray }.toList) = false,
  inRange i L = true,
  (s.toList == { data := { toList := [] : Array UInt8 } : ByteArray }.toList) = false,
  (s.toList == { data := { toList := [] : Array UInt8 } : ByteArray }.toList) = false,
  (s.toList == { data := { toList := [] : Array UInt8 } : ByteArray }.toList) = false,
  decide (i < (↑L : Int)) = true] := by kernel_rfl
theorem j8 (off L c : Nat) (xs : List RowT) (s : ByteArray) (k i i' : Int) (r : RowT) (m : Nat) (l l' w : List SV) : reach EJ 2 100 (SM.at (hdJ off L c s k (.sl 1 0 m none) i) 6 [look off xs, rows l]) (ff [0] true ++ ff [1, 2, 3, 5, 6, 8, 9, 11, 12] false ++ ff [13] true ++ [(7, .cells [.v (.string r.1)]), (15, .cells (rowC r)), (16, .app l w)]) [(0, 0), (1, 3)] [0, 1] (hdJ off L c s k (.sl 1 0 (m + 1) none) i') 6 [look off xs, rows l'] = [
  off = off ∧ L = L ∧ some c = some c,
  Value.string s = Value.string s,
  Value.int IntKind.i64 k = Value.int IntKind.i64 k,
  (0 : Nat) = (0 : Nat) ∧ m + (1 : Nat) = m + (1 : Nat) ∧ (none : Option Nat) = none,
  Value.int IntKind.i64 (IntKind.i64.wrap (i + (1 : Int))) = Value.int IntKind.i64 i',
  rowsAt rowC off xs = rowsAt rowC off xs,
  (rowsAt rowC off xs).all closedSV = true,
  l ++ w = l',
  l'.all closedSV = true,
  ((List.take (5 : Nat)
   (List.drop (0 : Nat)
   (splice
   (List.replicate (1 : Nat)
   (List.map SV.v
   {
   toList :=
   [Value.string { data := { toList := [] : Array UInt8 } : ByteArray },
   Value.int IntKind.i64 (0 : Int), Value.int IntKind.u64 (0 : Int),
   Value.int IntKind.u64 (0 : Int), Value.int IntKind.i64 (0 : Int)] :
   Array Value }.toList)).flatten
   (0 : Nat) (rowC r))) =
   w ∧
   w.length = (1 : Nat) * (5 : Nat)) ∧
   (1 : Nat) ≠ (0 : Nat) ∧ ((2 : Nat) * (m + (1 : Nat)) + (1024 : Nat)) * (48 : Nat) ≤ (140737488355328 : Nat)) ∧
   List.take (m * (5 : Nat)) l = l ∧ l.length = m * (5 : Nat) ∧ w.all SV.flat = true,
  List.take (5 : Nat) (List.drop (off + i.toNat * (5 : Nat)) (rowsAt rowC off xs)) = rowC r ∧ (rowC r).length = (5 : Nat),
  inRange i L = true,
  decide (cmpN r.1 s > (0 : Int)) = true,
  (s.toList == { data := { toList := [] : Array UInt8 } : ByteArray }.toList) = false,
  (s.toList == { data := { toList := [] : Array UInt8 } : ByteArray }.toList) = false,
  r.1.size ≤ (1000000000 : Nat) ∧ s.size ≤ (1000000000 : Nat),
  (s.toList == { data := { toList := [] : Array UInt8 } : ByteArray }.toList) = false,
  (s.toList == { data := { toList := [] : Array UInt8 } : ByteArray }.toList) = false,
  (rowsAt rowC off xs)[off + i.toNat * (5 : Nat) + (0 : Nat)]? = some (SV.v (Value.string r.1)),
  (s.toList == { data := { toList := [] : Array UInt8 } : ByteArray }.toList) = false,
  (s.toList == { data := { toList := [] : Array UInt8 } : ByteArray }.toList) = false,
  inRange i L = true,
  (s.toList == { data := { toList := [] : Array UInt8 } : ByteArray }.toList) = false,
  (s.toList == { data := { toList := [] : Array UInt8 } : ByteArray }.toList) = false,
  (s.toList == { data := { toList := [] : Array UInt8 } : ByteArray }.toList) = false,
  decide (i < (↑L : Int)) = true] := by kernel_rfl
theorem j9 (off L c : Nat) (xs : List RowT) (s : ByteArray) (k i i' : Int) (r : RowT) (m : Nat) (l l' w : List SV) : reach EJ 2 100 (SM.at (hdJ off L c s k (.sl 1 0 m none) i) 6 [look off xs, rows l]) (ff (List.range 12) true ++ [(12, .cells (rowC r)), (13, .app l w)]) [(0, 0), (1, 3)] [0, 1] (hdJ off L c s k (.sl 1 0 (m + 1) none) i') 6 [look off xs, rows l'] = [
  off = off ∧ L = L ∧ some c = some c,
  Value.string s = Value.string s,
  Value.int IntKind.i64 k = Value.int IntKind.i64 k,
  (0 : Nat) = (0 : Nat) ∧ m + (1 : Nat) = m + (1 : Nat) ∧ (none : Option Nat) = none,
  Value.int IntKind.i64 (IntKind.i64.wrap (i + (1 : Int))) = Value.int IntKind.i64 i',
  rowsAt rowC off xs = rowsAt rowC off xs,
  (rowsAt rowC off xs).all closedSV = true,
  l ++ w = l',
  l'.all closedSV = true,
  ((List.take (5 : Nat)
   (List.drop (0 : Nat)
   (splice
   (List.replicate (1 : Nat)
   (List.map SV.v
   {
   toList :=
   [Value.string { data := { toList := [] : Array UInt8 } : ByteArray },
   Value.int IntKind.i64 (0 : Int), Value.int IntKind.u64 (0 : Int),
   Value.int IntKind.u64 (0 : Int), Value.int IntKind.i64 (0 : Int)] :
   Array Value }.toList)).flatten
   (0 : Nat) (rowC r))) =
   w ∧
   w.length = (1 : Nat) * (5 : Nat)) ∧
   (1 : Nat) ≠ (0 : Nat) ∧ ((2 : Nat) * (m + (1 : Nat)) + (1024 : Nat)) * (48 : Nat) ≤ (140737488355328 : Nat)) ∧
   List.take (m * (5 : Nat)) l = l ∧ l.length = m * (5 : Nat) ∧ w.all SV.flat = true,
  List.take (5 : Nat) (List.drop (off + i.toNat * (5 : Nat)) (rowsAt rowC off xs)) = rowC r ∧ (rowC r).length = (5 : Nat),
  inRange i L = true,
  true = true,
  (s.toList == { data := { toList := [] : Array UInt8 } : ByteArray }.toList) = true,
  (s.toList == { data := { toList := [] : Array UInt8 } : ByteArray }.toList) = true,
  (s.toList == { data := { toList := [] : Array UInt8 } : ByteArray }.toList) = true,
  (s.toList == { data := { toList := [] : Array UInt8 } : ByteArray }.toList) = true,
  (s.toList == { data := { toList := [] : Array UInt8 } : ByteArray }.toList) = true,
  (s.toList == { data := { toList := [] : Array UInt8 } : ByteArray }.toList) = true,
  (s.toList == { data := { toList := [] : Array UInt8 } : ByteArray }.toList) = true,
  (s.toList == { data := { toList := [] : Array UInt8 } : ByteArray }.toList) = true,
  (s.toList == { data := { toList := [] : Array UInt8 } : ByteArray }.toList) = true,
  decide (i < (↑L : Int)) = true] := by kernel_rfl
theorem j10 (off L c : Nat) (xs : List RowT) (s : ByteArray) (k i : Int) (m : Nat) (l : List SV) (b : Bool) : endsO EJ 6 100 (SM.at (hdJ off L c s k (.sl 1 0 m none) i) 6 [look off xs, rows l]) (ff [0] false ++ ff [1, 2] true) (.tup [.sl 1 0 m none, .v (.bool b)]) 1 (.row l 25 (0, 0) (some 5)) = [
  (0 : Nat) = (0 : Nat) ∧ m = m ∧ (none : Option Nat) = none,
  Value.bool false = Value.bool b,
  l = l,
  l.all closedSV = true,
  decide ((0 : Int) ≥ (↑m : Int)) = true,
  decide (k < (0 : Int)) = true,
  decide (i < (↑L : Int)) = false] := by kernel_rfl
theorem j11 (off L c : Nat) (xs : List RowT) (s : ByteArray) (k i : Int) (m : Nat) (l : List SV) (b : Bool) : endsO EJ 6 100 (SM.at (hdJ off L c s k (.sl 1 0 m none) i) 6 [look off xs, rows l]) (ff [0] false ++ ff [1] false ++ ff [2] true) (.tup [.sl 1 0 m none, .v (.bool b)]) 1 (.row l 25 (0, 0) (some 5)) = [
  (0 : Nat) = (0 : Nat) ∧ m = m ∧ (none : Option Nat) = none,
  Value.bool false = Value.bool b,
  l = l,
  l.all closedSV = true,
  decide (k ≥ (↑m : Int)) = true,
  decide (k < (0 : Int)) = false,
  decide (i < (↑L : Int)) = false] := by kernel_rfl
theorem j12 (off L c : Nat) (xs : List RowT) (s : ByteArray) (k i : Int) (m n' : Nat) (l : List SV) (b : Bool) : endsO EJ 6 100 (SM.at (hdJ off L c s k (.sl 1 0 m none) i) 6 [look off xs, rows l]) (ff [0] false ++ ff [1] true ++ ff [2] false) (.tup [.sl 1 0 n' none, .v (.bool b)]) 1 (.row l 25 (0, 0) (some 5)) = [
  (0 : Nat) = (0 : Nat) ∧ (0 : Nat) = n' ∧ (none : Option Nat) = none,
  Value.bool true = Value.bool b,
  l = l,
  l.all closedSV = true,
  decide ((0 : Int) ≤ (0 : Int) ∧ (0 : Int) ≤ (↑m : Int)) = true,
  decide ((0 : Int) ≥ (↑m : Int)) = false,
  decide (k < (0 : Int)) = true,
  decide (i < (↑L : Int)) = false] := by kernel_rfl
theorem j13 (off L c : Nat) (xs : List RowT) (s : ByteArray) (k i : Int) (m n' : Nat) (l : List SV) (b : Bool) : endsO EJ 6 100 (SM.at (hdJ off L c s k (.sl 1 0 m none) i) 6 [look off xs, rows l]) (ff [0] false ++ ff [1] false ++ ff [2] false) (.tup [.sl 1 0 n' none, .v (.bool b)]) 1 (.row l 25 (0, 0) (some 5)) = [
  (0 : Nat) = (0 : Nat) ∧ k.toNat = n' ∧ (none : Option Nat) = none,
  Value.bool true = Value.bool b,
  l = l,
  l.all closedSV = true,
  decide ((0 : Int) ≤ k ∧ k ≤ (↑m : Int)) = true,
  decide (k ≥ (↑m : Int)) = false,
  decide (k < (0 : Int)) = false,
  decide (i < (↑L : Int)) = false] := by kernel_rfl
end paths
end Go.Proofs.YtjhmpmhkppglnaaGreat
namespace Go.Proofs.YtjhmpmhkppglnaaGreat
open Go Go.Rx Go.RowKit Go.Proofs
set_option linter.unusedVariables false
set_option linter.unusedSimpArgs false
set_option maxRecDepth 100000
namespace paths
def passB (s : ByteArray) (r : RowT) : Bool := decide (s.data.toList = []) || decide (cmpN r.1 s > 0)
def behind (s : ByteArray) (xs : List RowT) : List RowT := xs.filter (passB s)
def pageL (s : ByteArray) (k : Int) (xs : List RowT) : List RowT := (behind s xs).take k.toNat
def moreB (s : ByteArray) (k : Int) (xs : List RowT) : Bool := decide (k.toNat < (behind s xs).length)
def cR (l : List RowT) : List SV := l.flatMap rowC
def vR (l : List RowT) : List Value := l.flatMap rowV
theorem cR_app (a b : List RowT) : cR (a ++ b) = cR a ++ cR b := by simp [cR]
theorem cR_one (r : RowT) : cR [r] = rowC r := by simp [cR]
theorem cR_len : ∀ a : List RowT, (cR a).length = a.length * 5
  | [] => rfl
  | r :: a => by
    have := cR_len a
    show (rowC r ++ cR a).length = _
    rw [List.length_append, this, rowC_len, List.length_cons]; omega
theorem cR_closed (a : List RowT) : (cR a).all closedSV = true := by
  rw [List.all_eq_true]; intro x hx
  obtain ⟨r, _, hx⟩ := List.mem_flatMap.1 hx
  exact List.all_eq_true.1 (rowC_closed r) x hx
theorem cR_flat (a : List RowT) : (cR a).all SV.flat = true := by
  rw [List.all_eq_true]; intro x hx
  obtain ⟨r, _, hx⟩ := List.mem_flatMap.1 hx
  exact List.all_eq_true.1 (show (rowC r).all SV.flat = true from rfl) x hx
theorem cR_map : ∀ l : List RowT, (vR l).map SV.v = cR l
  | [] => rfl
  | r :: l => by
    show (rowV r ++ vR l).map SV.v = rowC r ++ cR l
    rw [List.map_append, cR_map l]; rfl
theorem cR_val {ν : Val} {l : List RowT} {zs : List Value} (h : VRL ν (cR l) zs) : zs = vR l := by
  rw [← cR_map] at h
  have h2 := VRL.lits ν (vR l)
  have hs : ∀ {a : List Value} {u v : List Value}, VRL ν (a.map SV.v) u → VRL ν (a.map SV.v) v → u = v := by
    intro a
    induction a with
    | nil => intro u v hu hv; rw [VRL.nil_inv hu, VRL.nil_inv hv]
    | cons z a ih =>
      intro u v hu hv
      obtain ⟨p, ps, rfl, q1, q2⟩ := VRL.cons_inv (x := .v z) (xs := a.map SV.v) hu
      obtain ⟨p', ps', rfl, q3, q4⟩ := VRL.cons_inv (x := .v z) (xs := a.map SV.v) hv
      rw [VR.v_iff.1 q1, VR.v_iff.1 q3, ih q2 q4]
  exact hs h h2
theorem rows_closed (off : Nat) (xs : List RowT) : (rowsAt rowC off xs).all closedSV = true := rowsAt_closed rowC_closed
theorem rows_cell0 {off : Nat} {xs : List RowT} {k : Nat} {x : RowT} (h : xs[k]? = some x) : (rowsAt rowC off xs)[off + k * 5 + 0]? = some (.v (.string x.1)) := by
  have h1 := rowsAt_at (off := off) rowC_len h
  have h2 : (List.take 5 (List.drop (off + k * 5) (rowsAt rowC off xs)))[0]? = (rowC x)[0]? := by rw [h1]
  rw [List.getElem?_take, if_pos (by decide), List.getElem?_drop] at h2
  exact h2
theorem behind_snoc (s : ByteArray) {xs : List RowT} {i : Nat} (h : i < xs.length) : behind s (xs.take (i + 1)) = behind s (xs.take i) ++ (if passB s xs[i] = true then [xs[i]] else []) := by
  rw [List.take_succ_eq_append_getElem h]
  unfold behind
  rw [List.filter_append]
  congr 1
  by_cases hp : passB s xs[i] = true <;> simp [hp]
theorem behind_at (s : ByteArray) {xs : List RowT} {i : Nat} (h : i < xs.length) (hp : passB s xs[i] = true) : ∃ rest, behind s xs = behind s (xs.take i) ++ xs[i] :: rest := by
  refine ⟨behind s (xs.drop (i + 1)), ?_⟩
  have e : xs = xs.take i ++ xs[i] :: xs.drop (i + 1) := by
    conv => lhs; rw [← List.take_append_drop i xs]
    rw [List.drop_eq_getElem_cons h]
  conv => lhs; rw [e]
  unfold behind
  rw [List.filter_append, List.filter_cons_of_pos hp]
theorem behind_len (s : ByteArray) (xs : List RowT) : (behind s xs).length ≤ xs.length := List.length_filter_le _ _
theorem ends_rows {E : Env} {M : Own} {w0 : World} {cs0 : List Frame} {f : FuncId} {R : Ending → World → Prop} {ν : Val} {n : Nat} {S : SM} {o : List (Nat × Ans)} {m : Nat} {bb : Bool} {l : List RowT} (K : Facts E M w0) (hM : ∀ z, ¬ M z)
    (h : Due (endsO E f n S o (.tup [.sl 1 0 m none, .v (.bool bb)]) 1 (.row (cR l) 25 (0, 0) (some 5)))) (hR : ∀ w' y, Below w0.heap.size w0 w' → NewSl w0 w' y (vR l) m 5 25 → R (.returned (.tuple #[y, .bool bb])) w') : Goes E M w0 cs0 f R ν S :=
  Goes.endsO K h.out fun ν' w' y b ob hv hb ho hor hw hB => by
    obtain ⟨a, rfl, ha⟩ := VR.tup_iff.1 hv
    obtain ⟨y1, ys, rfl, q1, ha⟩ := ha.cons_inv
    obtain ⟨y2, ys, rfl, q2, ha⟩ := ha.cons_inv
    obtain rfl := ha.nil_inv
    obtain rfl := VR.v_iff.1 q2
    have hn : w0.heap.size ≤ b.1 := by
      rcases hw with h | h
      · exact h
      · exact absurd h (hM _)
    obtain ⟨_, _, _, _, hB, hr⟩ := hB
    exact hR w' y1 (below_of hM hB hr) (NewSl.of_row q1 hb ho hor hn fun zs hz => cR_val hz)
/-- What comes of Page. -/
def RG (w0 : World) (s : ByteArray) (k : Int) (xs : List RowT) (e : Ending) (w' : World) : Prop :=
  Below w0.heap.size w0 w' ∧ ((pageL s k xs = [] ∧ e = .returned (.tuple #[.slice none 0 0, .bool (moreB s k xs)])) ∨
    (pageL s k xs ≠ [] ∧ ∃ y, e = .returned (.tuple #[y, .bool (moreB s k xs)]) ∧ NewSl w0 w' y (vR (pageL s k xs)) (pageL s k xs).length 5 25))
theorem len_eq {s : ByteArray} {a : List RowT} {k : Int} : (a.length : Int) ≥ k → a.length ≤ k.toNat → k.toNat = a.length := by omega
/-- A page that is full, with one more behind it. -/
theorem page_full {s : ByteArray} {k : Int} {xs : List RowT} {i : Nat} (h : i < xs.length) (hp : passB s xs[i] = true) (h1 : ((behind s (xs.take i)).length : Int) ≥ k) (h2 : (behind s (xs.take i)).length ≤ k.toNat) : pageL s k xs = behind s (xs.take i) ∧ moreB s k xs = true := by
  obtain ⟨rest, e⟩ := behind_at s h hp
  have hk := len_eq (s := s) h1 h2
  unfold pageL moreB
  rw [e]
  refine ⟨?_, decide_eq_true (by rw [List.length_append, List.length_cons]; omega)⟩
  rw [hk, List.take_left]
theorem page_all {s : ByteArray} {k : Int} {xs : List RowT} (h2 : (behind s xs).length ≤ k.toNat) : pageL s k xs = behind s xs ∧ moreB s k xs = false :=
  ⟨List.take_of_length_le h2, decide_eq_false (by omega)⟩
section
variable {w0 : World} {cs0 : List Frame} {s : ByteArray} {k : Int} {xs : List RowT} {off c b cap : Nat}
theorem lay1 {i : Nat} {x : Nat × Nat} (h : layVal [(b, cap)] i = some x) : i = 0 := by
  match i with
  | 0 => rfl
  | i + 1 => simp [layVal] at h
theorem KG {M : Own} {w0 : World} (hM : ∀ b, ¬ M b) (h : MX w0) : Facts EG M w0 := factsP (X := MX) (fun r hr => by
  rw [List.mem_singleton.1 hr]
  exact cmp_ok) fun ν s w hr _ => h.keep fun k hk => hr.frame k hk (hM k)
theorem none1 (z : Nat) : ¬ (layOwn [(b, cap)] [(SO.look (rowsAt rowC off xs), false)]) z := layOwn_none (os := [_])
theorem below_ends1 {w0 w' : World} (h : ∃ ν1 M1 w1 s', Base (layOwn [(b, cap)] [(SO.look (rowsAt rowC off xs), false)]) w0 M1 w1 ∧ HR ν1 M1 w1 s' w') : Below w0.heap.size w0 w' := by
  obtain ⟨_, _, _, _, hB, hr⟩ := h
  exact below_of none1 hB hr
theorem new_ends1 {w0 : World} {z : Nat} (h : w0.heap.size ≤ z ∨ (layOwn [(b, cap)] [(SO.look (rowsAt rowC off xs), false)]) z) : w0.heap.size ≤ z := by
  rcases h with h | h
  · exact h
  · exact absurd h (none1 z)
theorem emp (s : ByteArray) : s.toList == (⟨#[]⟩ : ByteArray).toList ↔ s.data.toList = [] := by rw [tlB, tlB]; simp
theorem loopG2 (hm : MX w0) (hl : xs.length ≤ 1000) (hs : s.size ≤ 1000000000) (hx : ∀ r ∈ xs, r.1.size ≤ 1000000000) : ∀ (j i : Nat), i + j = xs.length → behind s (xs.take i) ≠ [] → (behind s (xs.take i)).length ≤ k.toNat →
    Goes EG (layOwn [(b, cap)] [(SO.look (rowsAt rowC off xs), false)]) w0 cs0 5 (RG w0 s k xs) (layVal [(b, cap)]) (SM.at (hdG off xs.length c s k (.sl 1 0 (behind s (xs.take i)).length none) i) 6 [look off xs, rows (cR (behind s (xs.take i)))])
  | 0, i, hj, hne, hle => by
    have hi : i = xs.length := by omega
    subst hi
    rw [List.take_length] at hne hle ⊢
    obtain ⟨e1, e2⟩ := page_all hle
    refine ends_rows (KG none1 hm) none1 (n := 100) (o := ff [0] false) (bb := moreB s k xs) ⟨?_⟩ fun w' y hB hy => ⟨hB, .inr ⟨by rw [e1]; exact hne, y, rfl, by rw [e1]; exact hy⟩⟩
    rw [g12]
    simp only [Owed, e2, cR_closed, and_self, and_true, true_and]
    exact decide_eq_false (by omega)
  | j + 1, i, hj, hne, hle => by
    have hi : i < xs.length := by omega
    have hsn := behind_snoc s hi
    have hxi : xs[i]? = some xs[i] := List.getElem?_eq_getElem hi
    have t1 : decide ((i : Int) < (xs.length : Int)) = true := decide_eq_true (by omega)
    have r1 := in_range hi
    have z1 := hx _ (List.getElem_mem hi)
    have ra := rowsAt_at (off := off) rowC_len hxi
    have ws := wrap_succ (k := i) (by omega)
    have hbl : (behind s (xs.take i)).length ≤ 1000 := Nat.le_trans (behind_len _ _) (by rw [List.length_take]; omega)
    by_cases hp : passB s xs[i] = true
    · rw [if_pos hp] at hsn
      by_cases hk : ((behind s (xs.take i)).length : Int) ≥ k
      · obtain ⟨e1, e2⟩ := page_full hi hp hk hle
        have fin : ∀ {o}, Due (endsO EG 5 100 (SM.at (hdG off xs.length c s k (.sl 1 0 (behind s (xs.take i)).length none) i) 6 [look off xs, rows (cR (behind s (xs.take i)))]) o (.tup [.sl 1 0 (behind s (xs.take i)).length none, .v (.bool (moreB s k xs))]) 1 (.row (cR (behind s (xs.take i))) 25 (0, 0) (some 5))) →
            Goes EG (layOwn [(b, cap)] [(SO.look (rowsAt rowC off xs), false)]) w0 cs0 5 (RG w0 s k xs) (layVal [(b, cap)]) (SM.at (hdG off xs.length c s k (.sl 1 0 (behind s (xs.take i)).length none) i) 6 [look off xs, rows (cR (behind s (xs.take i)))]) := fun hd =>
          ends_rows (KG none1 hm) none1 hd fun w' y hB hy => ⟨hB, .inr ⟨by rw [e1]; exact hne, y, rfl, by rw [e1]; exact hy⟩⟩
        have tk := decide_eq_true hk
        by_cases h0 : s.data.toList = []
        · have q0 : (!(s.toList == (⟨#[]⟩ : ByteArray).toList)) = false := by rw [(emp s).2 h0]; rfl
          refine fin (o := (ff [0, 1] true ++ [(2, .cells (rowC xs[i]))] ++ ff [3, 4, 5, 6, 7, 8, 9] false ++ ff [10] true)) ⟨?_⟩
          rw [g11]
          simp only [Owed, Int.toNat_natCast, t1, r1, ra, q0, tk, e2, rowC_len, cR_closed, and_self]
        · have q0 : (!(s.toList == (⟨#[]⟩ : ByteArray).toList)) = true := by rw [Bool.not_eq_true', Bool.eq_false_iff]; exact fun h => h0 ((emp s).1 h)
          have hc : ¬ cmpN xs[i].1 s ≤ 0 := by
            unfold passB at hp; rw [decide_eq_false h0, Bool.false_or, decide_eq_true_eq] at hp; omega
          have tc := decide_eq_false hc
          refine fin (o := (ff [0, 1] true ++ [(2, .cells (rowC xs[i]))] ++ ff [3, 4, 5, 6, 8, 9] true ++ ff [10] false ++ ff [11] true)) ⟨?_⟩
          rw [g10]
          simp only [Owed, Int.toNat_natCast, t1, r1, ra, q0, tk, tc, e2, z1, hs, rowC_len, cR_closed, and_self]
      · have nx := loopG2 hm hl hs hx j (i + 1) (by omega) (by rw [hsn]; simp) (by rw [hsn, List.length_append]; simp; omega)
        rw [hsn, List.length_append, show ([xs[i]] : List RowT).length = 1 from rfl] at nx
        have tk := decide_eq_false hk
        by_cases h0 : s.data.toList = []
        · have q0 : (!(s.toList == (⟨#[]⟩ : ByteArray).toList)) = false := by rw [(emp s).2 h0]; rfl
          refine Goes.reach (KG none1 hm) (k := 2) (n := 100) (o := (ff [0, 1] true ++ [(2, .cells (rowC xs[i]))] ++ ff [3, 4, 5, 6, 7, 8, 9, 10] false ++ [(11, .app (cR (behind s (xs.take i))) (rowC xs[i]))])) (ren := [(0, 0), (1, 4)]) (eqs := [0, 1]) ?_ (by kernel_rfl) (fun i b h => by rw [lay1 h]; rfl) nx
          rw [g9]
          simp only [Owed, Int.toNat_natCast, t1, r1, ra, q0, tk, ws, rowC_len, rows_closed, cR_closed, cR_flat, cR_app, cR_one, cR_len, List.all_append, and_self, and_true, true_and]
          repeat' apply And.intro
          all_goals first | rfl | omega | exact List.take_of_length_le (by rw [cR_len]; exact Nat.le_refl _) | exact rowC_closed _ | skip
        · have q0 : (!(s.toList == (⟨#[]⟩ : ByteArray).toList)) = true := by rw [Bool.not_eq_true', Bool.eq_false_iff]; exact fun h => h0 ((emp s).1 h)
          have hc : ¬ cmpN xs[i].1 s ≤ 0 := by
            unfold passB at hp; rw [decide_eq_false h0, Bool.false_or, decide_eq_true_eq] at hp; omega
          have tc := decide_eq_false hc
          refine Goes.reach (KG none1 hm) (k := 2) (n := 100) (o := (ff [0, 1] true ++ [(2, .cells (rowC xs[i]))] ++ ff [3, 4, 5, 6, 8, 9] true ++ ff [10, 11] false ++ [(12, .app (cR (behind s (xs.take i))) (rowC xs[i]))])) (ren := [(0, 0), (1, 4)]) (eqs := [0, 1]) ?_ (by kernel_rfl) (fun i b h => by rw [lay1 h]; rfl) nx
          rw [g8]
          simp only [Owed, Int.toNat_natCast, t1, r1, ra, q0, tk, tc, z1, hs, ws, rowC_len, rows_closed, cR_closed, cR_flat, cR_app, cR_one, cR_len, List.all_append, and_self, and_true, true_and]
          repeat' apply And.intro
          all_goals first | rfl | omega | exact List.take_of_length_le (by rw [cR_len]; exact Nat.le_refl _) | exact rowC_closed _ | skip
    · rw [if_neg hp, List.append_nil] at hsn
      have nx := loopG2 hm hl hs hx j (i + 1) (by omega) (by rw [hsn]; exact hne) (by rw [hsn]; exact hle)
      rw [hsn] at nx
      have h0 : s.data.toList ≠ [] := fun h => hp (by simp [passB, h])
      have q0 : (!(s.toList == (⟨#[]⟩ : ByteArray).toList)) = true := by rw [Bool.not_eq_true', Bool.eq_false_iff]; exact fun h => h0 ((emp s).1 h)
      have hc : cmpN xs[i].1 s ≤ 0 := by
        unfold passB at hp; rw [decide_eq_false h0, Bool.false_or, decide_eq_true_eq] at hp; omega
      have tc := decide_eq_true hc
      refine Goes.reach (KG none1 hm) (k := 2) (n := 100) (o := (ff [0, 1] true ++ [(2, .cells (rowC xs[i]))] ++ ff [3, 4, 5, 6, 8, 9, 10] true)) (ren := [(0, 0), (1, 1)]) (eqs := [0, 1]) ?_ (by kernel_rfl) (fun i b h => by rw [lay1 h]; rfl) nx
      rw [g7]
      simp only [Owed, Int.toNat_natCast, t1, r1, ra, q0, tc, z1, hs, ws, rowC_len, rows_closed, cR_closed, and_self]
theorem loopG1 (hm : MX w0) (hl : xs.length ≤ 1000) (hs : s.size ≤ 1000000000) (hx : ∀ r ∈ xs, r.1.size ≤ 1000000000) : ∀ (j i : Nat), i + j = xs.length → behind s (xs.take i) = [] →
    Goes EG (layOwn [(b, cap)] [(SO.look (rowsAt rowC off xs), false)]) w0 cs0 5 (RG w0 s k xs) (layVal [(b, cap)]) (SM.at (hdG off xs.length c s k nilS i) 6 [look off xs])
  | 0, i, hj, hn => by
    have hi : i = xs.length := by omega
    subst hi
    rw [List.take_length] at hn
    have e1 : pageL s k xs = [] := by unfold pageL; rw [hn]; simp
    have e2 : moreB s k xs = false := decide_eq_false (by rw [hn]; simp)
    refine goes_due (KG none1 hm) none1 (n := 100) (o := ff [0] false) (v := .tuple #[.slice none 0 0, .bool (moreB s k xs)]) ⟨?_⟩ fun w' hw => ⟨hw, .inl ⟨e1, rfl⟩⟩
    rw [g6]
    simp only [Owed, e2, and_self, and_true, true_and]
    exact decide_eq_false (by omega)
  | j + 1, i, hj, hn => by
    have hi : i < xs.length := by omega
    have hsn := behind_snoc s hi
    have hxi : xs[i]? = some xs[i] := List.getElem?_eq_getElem hi
    have t1 : decide ((i : Int) < (xs.length : Int)) = true := decide_eq_true (by omega)
    have r1 := in_range hi
    have z1 := hx _ (List.getElem_mem hi)
    have ra := rowsAt_at (off := off) rowC_len hxi
    have ws := wrap_succ (k := i) (by omega)
    by_cases hp : passB s xs[i] = true
    · rw [if_pos hp, hn, List.nil_append] at hsn
      by_cases hk : ((0 : Nat) : Int) ≥ k
      · obtain ⟨e1, e2⟩ := page_full (k := k) hi hp (by rw [hn]; exact hk) (by rw [hn]; simp)
        rw [hn] at e1
        have fin : ∀ {o}, Due (endsV EG 5 100 (SM.at (hdG off xs.length c s k nilS i) 6 [look off xs]) o (.tuple #[.slice none 0 0, .bool (moreB s k xs)])) →
            Goes EG (layOwn [(b, cap)] [(SO.look (rowsAt rowC off xs), false)]) w0 cs0 5 (RG w0 s k xs) (layVal [(b, cap)]) (SM.at (hdG off xs.length c s k nilS i) 6 [look off xs]) := fun hd =>
          goes_due (KG none1 hm) none1 hd fun w' hw => ⟨hw, .inl ⟨e1, rfl⟩⟩
        have tk := decide_eq_true hk
        by_cases h0 : s.data.toList = []
        · have q0 : (!(s.toList == (⟨#[]⟩ : ByteArray).toList)) = false := by rw [(emp s).2 h0]; rfl
          refine fin (o := (ff [0, 1] true ++ [(2, .cells (rowC xs[i]))] ++ ff [3, 4, 5, 6, 7, 8, 9] false ++ ff [10] true)) ⟨?_⟩
          rw [g5]
          simp only [Owed, Int.toNat_natCast, t1, r1, ra, q0, tk, e2, rowC_len, and_self]
        · have q0 : (!(s.toList == (⟨#[]⟩ : ByteArray).toList)) = true := by rw [Bool.not_eq_true', Bool.eq_false_iff]; exact fun h => h0 ((emp s).1 h)
          have hc : ¬ cmpN xs[i].1 s ≤ 0 := by
            unfold passB at hp; rw [decide_eq_false h0, Bool.false_or, decide_eq_true_eq] at hp; omega
          have tc := decide_eq_false hc
          refine fin (o := (ff [0, 1] true ++ [(2, .cells (rowC xs[i]))] ++ ff [3, 4, 5, 6, 8, 9] true ++ ff [10] false ++ ff [11] true)) ⟨?_⟩
          rw [g4]
          simp only [Owed, Int.toNat_natCast, t1, r1, ra, q0, tk, tc, e2, z1, hs, rowC_len, and_self]
      · have nx := loopG2 (cs0 := cs0) (b := b) (cap := cap) (off := off) (c := c) (k := k) hm hl hs hx j (i + 1) (by omega) (by rw [hsn]; simp) (by rw [hsn]; simp; omega)
        rw [hsn, show ([xs[i]] : List RowT).length = 1 from rfl] at nx
        have tk := decide_eq_false hk
        by_cases h0 : s.data.toList = []
        · have q0 : (!(s.toList == (⟨#[]⟩ : ByteArray).toList)) = false := by rw [(emp s).2 h0]; rfl
          refine Goes.reach (KG none1 hm) (k := 2) (n := 100) (o := (ff [0, 1] true ++ [(2, .cells (rowC xs[i]))] ++ ff [3, 4, 5, 6, 7, 8, 9, 10] false)) (ren := [(0, 0), (1, 3)]) (eqs := [0, 1]) ?_ (by kernel_rfl) (fun i b h => by rw [lay1 h]; rfl) nx
          rw [g3]
          simp only [Owed, Int.toNat_natCast, t1, r1, ra, q0, tk, ws, rowC_len, rows_closed, cR_closed, cR_one, and_self, and_true, true_and]
          repeat' apply And.intro
          all_goals first | rfl | omega | exact rowC_closed _ | skip
        · have q0 : (!(s.toList == (⟨#[]⟩ : ByteArray).toList)) = true := by rw [Bool.not_eq_true', Bool.eq_false_iff]; exact fun h => h0 ((emp s).1 h)
          have hc : ¬ cmpN xs[i].1 s ≤ 0 := by
            unfold passB at hp; rw [decide_eq_false h0, Bool.false_or, decide_eq_true_eq] at hp; omega
          have tc := decide_eq_false hc
          refine Goes.reach (KG none1 hm) (k := 2) (n := 100) (o := (ff [0, 1] true ++ [(2, .cells (rowC xs[i]))] ++ ff [3, 4, 5, 6, 8, 9] true ++ ff [10, 11] false)) (ren := [(0, 0), (1, 3)]) (eqs := [0, 1]) ?_ (by kernel_rfl) (fun i b h => by rw [lay1 h]; rfl) nx
          rw [g2]
          simp only [Owed, Int.toNat_natCast, t1, r1, ra, q0, tk, tc, z1, hs, ws, rowC_len, rows_closed, cR_closed, cR_one, and_self, and_true, true_and]
          repeat' apply And.intro
          all_goals first | rfl | omega | exact rowC_closed _ | skip
    · rw [if_neg hp, List.append_nil] at hsn
      have nx := loopG1 hm hl hs hx j (i + 1) (by omega) (by rw [hsn]; exact hn)
      have h0 : s.data.toList ≠ [] := fun h => hp (by simp [passB, h])
      have q0 : (!(s.toList == (⟨#[]⟩ : ByteArray).toList)) = true := by rw [Bool.not_eq_true', Bool.eq_false_iff]; exact fun h => h0 ((emp s).1 h)
      have hc : cmpN xs[i].1 s ≤ 0 := by
        unfold passB at hp; rw [decide_eq_false h0, Bool.false_or, decide_eq_true_eq] at hp; omega
      have tc := decide_eq_true hc
      refine Goes.reach (KG none1 hm) (k := 2) (n := 100) (o := (ff [0, 1] true ++ [(2, .cells (rowC xs[i]))] ++ ff [3, 4, 5, 6, 8, 9, 10] true)) (ren := [(0, 0)]) (eqs := [0]) ?_ (by kernel_rfl) (fun i b h => by rw [lay1 h]; rfl) nx
      rw [g1]
      simp only [Owed, Int.toNat_natCast, t1, r1, ra, q0, tc, z1, hs, ws, rowC_len, rows_closed, nilS, and_self]
end
/-- A call of a function that reads a slice which lies in a told row. -/
theorem calls_look {E : Env} {P : Program} (hP : E.P = P) (hG : E.G = []) {f : FuncId} {ν : Val} {M : Own} {w0 w : World} {sh : SH} (hr : HR ν M w0 sh w) {i o L c : Nat} {ys : List SV} {mk : Bool} (hl : sh.look i = some (.look ys, mk)) (hy : ys.all closedSV = true) {vs a : List Value}
    (ha : VRL ν (.sl i o L (some c) :: vs.map SV.v) a) {S0 : SM} (hS0 : enterS E f (.sl 0 o L (some c) :: vs.map SV.v) (memOf 6 1 0 [some (.look ys, false)]) = some S0) {R : Ending → World → Prop}
    (hs : ∀ b cap cs0, Goes E (layOwn [(b, cap)] [(.look ys, false)]) w cs0 f R (layVal [(b, cap)]) S0) : Calls P f a.toArray w R := by
  obtain ⟨y1, as1, rfl, q1, ha2⟩ := ha.cons_inv
  obtain ⟨bb, hb, hle, rfl⟩ := VR.sl_iff.1 q1
  obtain ⟨_, _, b', ob, hb', ho, hor, _⟩ := hr.look hl
  rw [hb] at hb'; cases hb'
  obtain ⟨zs, cc, e, fz, rfl, hz, hc⟩ := hor
  have hvs : as1 = vs := by
    have h2 := VRL.lits ν vs
    have hsol : ∀ {a : List Value} {u v : List Value}, VRL ν (a.map SV.v) u → VRL ν (a.map SV.v) v → u = v := by
      intro a
      induction a with
      | nil => intro u v hu hv; rw [VRL.nil_inv hu, VRL.nil_inv hv]
      | cons z a ih =>
        intro u v hu hv
        obtain ⟨p, ps, rfl, q1, q2⟩ := VRL.cons_inv (x := .v z) (xs := a.map SV.v) hu
        obtain ⟨p', ps', rfl, q3, q4⟩ := VRL.cons_inv (x := .v z) (xs := a.map SV.v) hv
        rw [VR.v_iff.1 q1, VR.v_iff.1 q3, ih q2 q4]
    exact hsol ha2 h2
  subst hvs
  refine calls_readR (E := E) hP (d := 6) (l := [(bb.1, bb.2)]) (os := [.look ys]) rfl (by simp) (by simp) ?_ hG hS0 (VRL.cons (VR.sl_iff.2 ⟨(bb.1, bb.2), rfl, hle, rfl⟩) (VRL.lits _ _)) fun cs0 => hs _ _ cs0
  intro j o' b' c' h1 h2
  match j with
  | 0 =>
    simp only [List.getElem?_cons_zero, Option.some.injEq, Prod.mk.injEq] at h1 h2
    obtain ⟨rfl, rfl⟩ := h2
    subst h1
    exact ⟨_, ho, zs, cc, e, fz, rfl, closed_VRL hy hz, hc⟩
  | j + 1 => simp at h1
/-- What is wanted of rows that are read. -/
structure RowsOK (off : Nat) (xs : List RowT) (ys : List SV) (o L : Nat) (s : ByteArray) : Prop where
  cells : ys = rowsAt rowC off xs
  off : o = off
  len : L = xs.length
  few : xs.length ≤ 1000
  size : s.size ≤ 1000000000
  sizes : ∀ r ∈ xs, r.1.size ≤ 1000000000
def pageS (off : Nat) (xs : List RowT) : SlG := fun args sh => match args with
  | [.sl i o L (some c), .v (.string s), .v (.int .i64 k)] => match sh.look i with
    | some (.look ys, _) => some (vR (pageL s k xs), (pageL s k xs).length, 5, 25, some (.bool (moreB s k xs)), RowsOK off xs ys o L s ∧ pageL s k xs ≠ [])
    | _ => none
  | _ => none
def pageN (off : Nat) (xs : List RowT) : PlG := fun args sh => match args with
  | [.sl i o L (some c), .v (.string s), .v (.int .i64 k)] => match sh.look i with
    | some (.look ys, _) => some (.tuple #[.slice none 0 0, .bool (moreB s k xs)], RowsOK off xs ys o L s ∧ pageL s k xs = [])
    | _ => none
  | _ => none
theorem page_calls {off : Nat} {xs : List RowT} {ν : Val} {M : Own} {w0 w : World} {sh : SH} (hr : HR ν M w0 sh w) (hX : MX w) {i o L c : Nat} {ys : List SV} {mk : Bool} {s : ByteArray} {k : Int} (hl : sh.look i = some (.look ys, mk)) (h : RowsOK off xs ys o L s) {a : List Value}
    (ha : VRL ν [.sl i o L (some c), .v (.string s), .v (.int .i64 k)] a) : Calls Tryz.prog 5 a.toArray w (RG w s k xs) := by
  obtain ⟨rfl, rfl, rfl, h4, h5, h6⟩ := h
  refine calls_look (E := EG) (vs := [.string s, .int .i64 k]) rfl rfl hr hl (rows_closed _ _) ha (S0 := entG o xs xs.length c s k) (by kernel_rfl) fun b cap cs0 => ?_
  have nx := loopG1 (w0 := w) (cs0 := cs0) (b := b) (cap := cap) (off := o) (c := c) (k := k) hX h4 h5 h6 xs.length 0 (by omega) rfl
  refine Goes.reach (KG none1 hX) (k := 2) (n := 60) (o := [(1000, .b true)]) (ren := [(0, 0)]) (eqs := [0]) (F := hdG o xs.length c s k nilS 0) (d := 6) (l := [look o xs]) ?_ (by kernel_rfl) (fun i b h => by rw [lay1 h]; rfl) nx
  rw [g0]
  simp only [Owed, rows_closed, and_self]
theorem page_ok (off : Nat) (xs : List RowT) : SumOK Tryz.prog MX (5, slSumG (pageS off xs)) := by
  refine slSumG_ok ⟨_, Tryz.func5, by kernel_rfl, by kernel_rfl⟩ fun args sh ys n C elem ex p h hp ν M w0 w a hr hX ha => ?_
  dsimp only [pageS] at h
  split at h
  · rename_i i o L c s k
    split at h
    · rename_i zs mk hl
      cases h
      refine (page_calls hr hX hl hp.1 ha).mono fun e w' ⟨hB, h⟩ => ⟨hB, ?_⟩
      rcases h with ⟨h1, _⟩ | ⟨_, y, h2, h3⟩
      · exact absurd h1 hp.2
      · exact ⟨y, h2, h3⟩
    · cases h
  · cases h
theorem pageN_ok (off : Nat) (xs : List RowT) : SumOK Tryz.prog MX (5, plSumG (pageN off xs)) := by
  refine plSumG_ok ⟨_, Tryz.func5, by kernel_rfl, by kernel_rfl⟩ fun args sh v p h hp ν M w0 w a hr hX ha => ?_
  dsimp only [pageN] at h
  split at h
  · rename_i i o L c s k
    split at h
    · rename_i zs mk hl
      cases h
      refine (page_calls hr hX hl hp.1 ha).mono fun e w' ⟨hB, h⟩ => ⟨hB, ?_⟩
      rcases h with ⟨_, h2⟩ | ⟨h1, _⟩
      · exact h2
      · exact absurd hp.2 h1
    · cases h
  · cases h
end paths
end Go.Proofs.YtjhmpmhkppglnaaGreat
namespace Go.Proofs.YtjhmpmhkppglnaaGreat
open Go Go.Rx Go.RowKit Go.Proofs
set_option linter.unusedVariables false
set_option linter.unusedSimpArgs false
set_option maxRecDepth 100000
namespace paths
/-- What comes of the document's Page. -/
def RJ (w0 : World) (s : ByteArray) (k : Int) (xs : List RowT) (e : Ending) (w' : World) : Prop :=
  Below w0.heap.size w0 w' ∧ ((behind s xs = [] ∧ e = .returned (.tuple #[.slice none 0 0, .bool (moreB s k xs)])) ∨
    (behind s xs ≠ [] ∧ ∃ y, e = .returned (.tuple #[y, .bool (moreB s k xs)]) ∧ NewSl w0 w' y (vR (behind s xs)) (pageL s k xs).length 5 25))
section
variable {w0 : World} {cs0 : List Frame} {s : ByteArray} {k : Int} {xs : List RowT} {off c b cap : Nat}
theorem KJ {M : Own} {w0 : World} : Facts EJ M w0 := factsP0 fun r h => by
  rw [List.mem_singleton.1 h]; exact rcmp_ok
theorem loopJ2 (hl : xs.length ≤ 1000) (hs : s.size ≤ 1000000000) (hx : ∀ r ∈ xs, r.1.size ≤ 1000000000) : ∀ (j i : Nat), i + j = xs.length → behind s (xs.take i) ≠ [] →
    Goes EJ (layOwn [(b, cap)] [(SO.look (rowsAt rowC off xs), false)]) w0 cs0 6 (RJ w0 s k xs) (layVal [(b, cap)]) (SM.at (hdJ off xs.length c s k (.sl 1 0 (behind s (xs.take i)).length none) i) 6 [look off xs, rows (cR (behind s (xs.take i)))])
  | 0, i, hj, hne => by
    have hi : i = xs.length := by omega
    subst hi
    rw [List.take_length] at hne ⊢
    have hm : 0 < (behind s xs).length := List.length_pos_iff.2 hne
    have fin : ∀ {o}, Due (endsO EJ 6 100 (SM.at (hdJ off xs.length c s k (.sl 1 0 (behind s xs).length none) (xs.length : Nat)) 6 [look off xs, rows (cR (behind s xs))]) o (.tup [.sl 1 0 (pageL s k xs).length none, .v (.bool (moreB s k xs))]) 1 (.row (cR (behind s xs)) 25 (0, 0) (some 5))) →
        Goes EJ (layOwn [(b, cap)] [(SO.look (rowsAt rowC off xs), false)]) w0 cs0 6 (RJ w0 s k xs) (layVal [(b, cap)]) (SM.at (hdJ off xs.length c s k (.sl 1 0 (behind s xs).length none) (xs.length : Nat)) 6 [look off xs, rows (cR (behind s xs))]) := fun hd =>
      ends_rows KJ none1 hd fun w' y hB hy => ⟨hB, .inr ⟨hne, y, rfl, hy⟩⟩
    have tl : decide (((xs.length : Nat) : Int) < (xs.length : Int)) = false := decide_eq_false (by omega)
    by_cases h0 : k < 0
    · have e1 : (pageL s k xs).length = 0 := by unfold pageL; rw [List.length_take]; omega
      have e2 : moreB s k xs = true := decide_eq_true (by omega)
      refine fin (o := (ff [0] false ++ ff [1] true ++ ff [2] false)) ⟨?_⟩
      rw [j12]
      have t0 := decide_eq_true h0
      have tm : decide ((0 : Int) ≥ ((behind s xs).length : Int)) = false := decide_eq_false (by omega)
      simp only [Owed, tl, t0, tm, e1, e2, cR_closed, and_self, and_true, true_and]
      exact decide_eq_true (by omega)
    · have t0 := decide_eq_false h0
      by_cases h1 : k ≥ ((behind s xs).length : Int)
      · obtain ⟨e1, e2⟩ := page_all (s := s) (k := k) (xs := xs) (by omega)
        refine fin (o := (ff [0] false ++ ff [1] false ++ ff [2] true)) ⟨?_⟩
        rw [e1, j11]
        have tm := decide_eq_true h1
        simp only [Owed, tl, t0, tm, e2, cR_closed, and_self, and_true, true_and]
      · have e1 : (pageL s k xs).length = k.toNat := by unfold pageL; rw [List.length_take]; omega
        have e2 : moreB s k xs = true := decide_eq_true (by omega)
        refine fin (o := (ff [0] false ++ ff [1] false ++ ff [2] false)) ⟨?_⟩
        rw [j13]
        have tm := decide_eq_false h1
        simp only [Owed, tl, t0, tm, e1, e2, cR_closed, and_self, and_true, true_and]
        exact decide_eq_true (by omega)
  | j + 1, i, hj, hne => by
    have hi : i < xs.length := by omega
    have hsn := behind_snoc s hi
    have hxi : xs[i]? = some xs[i] := List.getElem?_eq_getElem hi
    have t1 : decide ((i : Int) < (xs.length : Int)) = true := decide_eq_true (by omega)
    have r1 := in_range hi
    have z1 := hx _ (List.getElem_mem hi)
    have ra := rowsAt_at (off := off) rowC_len hxi
    have rc := rows_cell0 (off := off) hxi
    have ws := wrap_succ (k := i) (by omega)
    have hbl : (behind s (xs.take i)).length ≤ 1000 := Nat.le_trans (behind_len _ _) (by rw [List.length_take]; omega)
    by_cases hp : passB s xs[i] = true
    · rw [if_pos hp] at hsn
      have nx := loopJ2 hl hs hx j (i + 1) (by omega) (by rw [hsn]; simp)
      rw [hsn, List.length_append, show ([xs[i]] : List RowT).length = 1 from rfl] at nx
      by_cases h0 : s.data.toList = []
      · have q0 : (s.toList == (⟨#[]⟩ : ByteArray).toList) = true := (emp s).2 h0
        refine Goes.reach KJ (k := 2) (n := 100) (o := (ff (List.range 12) true ++ [(12, .cells (rowC xs[i])), (13, .app (cR (behind s (xs.take i))) (rowC xs[i]))])) (ren := [(0, 0), (1, 3)]) (eqs := [0, 1]) ?_ (by kernel_rfl) (fun i b h => by rw [lay1 h]; rfl) nx
        rw [j9]
        simp only [Owed, Int.toNat_natCast, t1, r1, ra, q0, ws, rowC_len, rows_closed, cR_closed, cR_flat, cR_app, cR_one, cR_len, List.all_append, and_self, and_true, true_and]
        repeat' apply And.intro
        all_goals first | rfl | omega | exact List.take_of_length_le (by rw [cR_len]; exact Nat.le_refl _) | exact rowC_closed _ | skip
      · have q0 : (s.toList == (⟨#[]⟩ : ByteArray).toList) = false := by rw [Bool.eq_false_iff]; exact fun h => h0 ((emp s).1 h)
        have hc : cmpN xs[i].1 s > 0 := by
          unfold passB at hp; rw [decide_eq_false h0, Bool.false_or, decide_eq_true_eq] at hp; omega
        have tc := decide_eq_true hc
        refine Goes.reach KJ (k := 2) (n := 100) (o := (ff [0] true ++ ff [1, 2, 3, 5, 6, 8, 9, 11, 12] false ++ ff [13] true ++ [(7, .cells [.v (.string xs[i].1)]), (15, .cells (rowC xs[i])), (16, .app (cR (behind s (xs.take i))) (rowC xs[i]))])) (ren := [(0, 0), (1, 3)]) (eqs := [0, 1]) ?_ (by kernel_rfl) (fun i b h => by rw [lay1 h]; rfl) nx
        rw [j8]
        simp only [Owed, Int.toNat_natCast, t1, r1, ra, rc, q0, tc, z1, hs, ws, rowC_len, rows_closed, cR_closed, cR_flat, cR_app, cR_one, cR_len, List.all_append, and_self, and_true, true_and]
        repeat' apply And.intro
        all_goals first | rfl | omega | exact List.take_of_length_le (by rw [cR_len]; exact Nat.le_refl _) | exact rowC_closed _ | skip
    · rw [if_neg hp, List.append_nil] at hsn
      have nx := loopJ2 hl hs hx j (i + 1) (by omega) (by rw [hsn]; exact hne)
      rw [hsn] at nx
      have h0 : s.data.toList ≠ [] := fun h => hp (by simp [passB, h])
      have q0 : (s.toList == (⟨#[]⟩ : ByteArray).toList) = false := by rw [Bool.eq_false_iff]; exact fun h => h0 ((emp s).1 h)
      have hc : ¬ cmpN xs[i].1 s > 0 := by
        unfold passB at hp; rw [decide_eq_false h0, Bool.false_or, decide_eq_true_eq] at hp; omega
      have tc := decide_eq_false hc
      refine Goes.reach KJ (k := 2) (n := 100) (o := (ff [0] true ++ ff [1, 2, 3, 5, 6, 8, 9, 11, 12, 13] false ++ [(7, .cells [.v (.string xs[i].1)])])) (ren := [(0, 0), (1, 1)]) (eqs := [0, 1]) ?_ (by kernel_rfl) (fun i b h => by rw [lay1 h]; rfl) nx
      rw [j7]
      simp only [Owed, Int.toNat_natCast, t1, r1, rc, q0, tc, z1, hs, ws, rows_closed, cR_closed, and_self]
theorem loopJ1 (hl : xs.length ≤ 1000) (hs : s.size ≤ 1000000000) (hx : ∀ r ∈ xs, r.1.size ≤ 1000000000) : ∀ (j i : Nat), i + j = xs.length → behind s (xs.take i) = [] →
    Goes EJ (layOwn [(b, cap)] [(SO.look (rowsAt rowC off xs), false)]) w0 cs0 6 (RJ w0 s k xs) (layVal [(b, cap)]) (SM.at (hdJ off xs.length c s k nilS i) 6 [look off xs])
  | 0, i, hj, hn => by
    have hi : i = xs.length := by omega
    subst hi
    rw [List.take_length] at hn
    have e2 : moreB s k xs = false := decide_eq_false (by rw [hn]; simp)
    have fin : ∀ {o}, Due (endsV EJ 6 100 (SM.at (hdJ off xs.length c s k nilS (xs.length : Nat)) 6 [look off xs]) o (.tuple #[.slice none 0 0, .bool (moreB s k xs)])) →
        Goes EJ (layOwn [(b, cap)] [(SO.look (rowsAt rowC off xs), false)]) w0 cs0 6 (RJ w0 s k xs) (layVal [(b, cap)]) (SM.at (hdJ off xs.length c s k nilS (xs.length : Nat)) 6 [look off xs]) := fun hd =>
      goes_due KJ none1 hd fun w' hw => ⟨hw, .inl ⟨hn, rfl⟩⟩
    have tl : decide (((xs.length : Nat) : Int) < (xs.length : Int)) = false := decide_eq_false (by omega)
    by_cases h0 : k < 0
    · have t0 := decide_eq_true h0
      refine fin (o := (ff [0] false ++ ff [1, 2] true)) ⟨?_⟩
      rw [j6]
      simp only [Owed, tl, t0, e2, and_self, and_true, true_and]
    · have t0 := decide_eq_false h0
      have t2 : decide (k ≥ ((0 : Nat) : Int)) = true := decide_eq_true (by omega)
      refine fin (o := (ff [0] false ++ ff [1] false ++ ff [2] true)) ⟨?_⟩
      rw [j5]
      simp only [Owed, tl, t0, t2, e2, and_self, and_true, true_and]
  | j + 1, i, hj, hn => by
    have hi : i < xs.length := by omega
    have hsn := behind_snoc s hi
    have hxi : xs[i]? = some xs[i] := List.getElem?_eq_getElem hi
    have t1 : decide ((i : Int) < (xs.length : Int)) = true := decide_eq_true (by omega)
    have r1 := in_range hi
    have z1 := hx _ (List.getElem_mem hi)
    have ra := rowsAt_at (off := off) rowC_len hxi
    have rc := rows_cell0 (off := off) hxi
    have ws := wrap_succ (k := i) (by omega)
    by_cases hp : passB s xs[i] = true
    · rw [if_pos hp, hn, List.nil_append] at hsn
      have nx := loopJ2 (w0 := w0) (cs0 := cs0) (b := b) (cap := cap) (off := off) (c := c) (k := k) hl hs hx j (i + 1) (by omega) (by rw [hsn]; simp)
      rw [hsn, show ([xs[i]] : List RowT).length = 1 from rfl] at nx
      by_cases h0 : s.data.toList = []
      · have q0 : (s.toList == (⟨#[]⟩ : ByteArray).toList) = true := (emp s).2 h0
        refine Goes.reach KJ (k := 2) (n := 100) (o := (ff (List.range 12) true ++ [(12, .cells (rowC xs[i]))])) (ren := [(0, 0), (1, 2)]) (eqs := [0, 1]) ?_ (by kernel_rfl) (fun i b h => by rw [lay1 h]; rfl) nx
        rw [j3]
        simp only [Owed, Int.toNat_natCast, t1, r1, ra, q0, ws, rowC_len, rows_closed, cR_closed, cR_one, and_self, and_true, true_and]
        repeat' apply And.intro
        all_goals first | rfl | omega | exact rowC_closed _ | skip
      · have q0 : (s.toList == (⟨#[]⟩ : ByteArray).toList) = false := by rw [Bool.eq_false_iff]; exact fun h => h0 ((emp s).1 h)
        have hc : cmpN xs[i].1 s > 0 := by
          unfold passB at hp; rw [decide_eq_false h0, Bool.false_or, decide_eq_true_eq] at hp; omega
        have tc := decide_eq_true hc
        refine Goes.reach KJ (k := 2) (n := 100) (o := (ff [0] true ++ ff [1, 2, 3, 5, 6, 8, 9, 11, 12] false ++ ff [13] true ++ [(7, .cells [.v (.string xs[i].1)]), (15, .cells (rowC xs[i]))])) (ren := [(0, 0), (1, 2)]) (eqs := [0, 1]) ?_ (by kernel_rfl) (fun i b h => by rw [lay1 h]; rfl) nx
        rw [j2]
        simp only [Owed, Int.toNat_natCast, t1, r1, ra, rc, q0, tc, z1, hs, ws, rowC_len, rows_closed, cR_closed, cR_one, and_self, and_true, true_and]
        repeat' apply And.intro
        all_goals first | rfl | omega | exact rowC_closed _ | skip
    · rw [if_neg hp, List.append_nil] at hsn
      have nx := loopJ1 hl hs hx j (i + 1) (by omega) (by rw [hsn]; exact hn)
      have h0 : s.data.toList ≠ [] := fun h => hp (by simp [passB, h])
      have q0 : (s.toList == (⟨#[]⟩ : ByteArray).toList) = false := by rw [Bool.eq_false_iff]; exact fun h => h0 ((emp s).1 h)
      have hc : ¬ cmpN xs[i].1 s > 0 := by
        unfold passB at hp; rw [decide_eq_false h0, Bool.false_or, decide_eq_true_eq] at hp; omega
      have tc := decide_eq_false hc
      refine Goes.reach KJ (k := 2) (n := 100) (o := (ff [0] true ++ ff [1, 2, 3, 5, 6, 8, 9, 11, 12, 13] false ++ [(7, .cells [.v (.string xs[i].1)])])) (ren := [(0, 0)]) (eqs := [0]) ?_ (by kernel_rfl) (fun i b h => by rw [lay1 h]; rfl) nx
      rw [j1]
      simp only [Owed, Int.toNat_natCast, t1, r1, rc, q0, tc, z1, hs, ws, rows_closed, nilS, and_self]
end
def rpageS (off : Nat) (xs : List RowT) : SlG := fun args sh => match args with
  | [.sl i o L (some c), .v (.string s), .v (.int .i64 k)] => match sh.look i with
    | some (.look ys, _) => some (vR (behind s xs), (pageL s k xs).length, 5, 25, some (.bool (moreB s k xs)), RowsOK off xs ys o L s ∧ behind s xs ≠ [])
    | _ => none
  | _ => none
def rpageN (off : Nat) (xs : List RowT) : PlG := fun args sh => match args with
  | [.sl i o L (some c), .v (.string s), .v (.int .i64 k)] => match sh.look i with
    | some (.look ys, _) => some (.tuple #[.slice none 0 0, .bool (moreB s k xs)], RowsOK off xs ys o L s ∧ behind s xs = [])
    | _ => none
  | _ => none
theorem rpage_calls {off : Nat} {xs : List RowT} {ν : Val} {M : Own} {w0 w : World} {sh : SH} (hr : HR ν M w0 sh w) {i o L c : Nat} {ys : List SV} {mk : Bool} {s : ByteArray} {k : Int} (hl : sh.look i = some (.look ys, mk)) (h : RowsOK off xs ys o L s) {a : List Value}
    (ha : VRL ν [.sl i o L (some c), .v (.string s), .v (.int .i64 k)] a) : Calls Tryz.prog 6 a.toArray w (RJ w s k xs) := by
  obtain ⟨rfl, rfl, rfl, h4, h5, h6⟩ := h
  refine calls_look (E := EJ) (vs := [.string s, .int .i64 k]) rfl rfl hr hl (rows_closed _ _) ha (S0 := entJ o xs xs.length c s k) (by kernel_rfl) fun b cap cs0 => ?_
  have nx := loopJ1 (w0 := w) (cs0 := cs0) (b := b) (cap := cap) (off := o) (c := c) (k := k) h4 h5 h6 xs.length 0 (by omega) rfl
  refine Goes.reach KJ (k := 2) (n := 60) (o := [(1000, .b true)]) (ren := [(0, 0)]) (eqs := [0]) (F := hdJ o xs.length c s k nilS 0) (d := 6) (l := [look o xs]) ?_ (by kernel_rfl) (fun i b h => by rw [lay1 h]; rfl) nx
  rw [j0]
  simp only [Owed, rows_closed, and_self]
theorem rpage_ok {X : World → Prop} (off : Nat) (xs : List RowT) : SumOK Tryz.prog X (6, slSumG (rpageS off xs)) := by
  refine slSumG_ok ⟨_, Tryz.func6, by kernel_rfl, by kernel_rfl⟩ fun args sh ys n C elem ex p h hp ν M w0 w a hr hX ha => ?_
  dsimp only [rpageS] at h
  split at h
  · rename_i i o L c s k
    split at h
    · rename_i zs mk hl
      cases h
      refine (rpage_calls hr hl hp.1 ha).mono fun e w' ⟨hB, h⟩ => ⟨hB, ?_⟩
      rcases h with ⟨h1, _⟩ | ⟨_, y, h2, h3⟩
      · exact absurd h1 hp.2
      · exact ⟨y, h2, h3⟩
    · cases h
  · cases h
theorem rpageN_ok {X : World → Prop} (off : Nat) (xs : List RowT) : SumOK Tryz.prog X (6, plSumG (rpageN off xs)) := by
  refine plSumG_ok ⟨_, Tryz.func6, by kernel_rfl, by kernel_rfl⟩ fun args sh v p h hp ν M w0 w a hr hX ha => ?_
  dsimp only [rpageN] at h
  split at h
  · rename_i i o L c s k
    split at h
    · rename_i zs mk hl
      cases h
      refine (rpage_calls hr hl hp.1 ha).mono fun e w' ⟨hB, h⟩ => ⟨hB, ?_⟩
      rcases h with ⟨_, h2⟩ | ⟨h1, _⟩
      · exact h2
      · exact absurd hp.2 h1
    · cases h
  · cases h
end paths
end Go.Proofs.YtjhmpmhkppglnaaGreat
namespace Go.Proofs.YtjhmpmhkppglnaaGreat
open Go Go.Rx Go.RowKit Go.Proofs
set_option linter.unusedVariables false
set_option linter.unusedSimpArgs false
set_option maxRecDepth 100000
namespace paths
noncomputable def ES : Env := EP [] []
def lookL (l : List SV) : Option (SO × Bool) := some (.look l, false)
noncomputable def entS (A B : List SV) (n m c d : Nat) : SM := (enterS ES 7 [.sl 0 0 n (some c), .sl 1 0 m (some d)] (memOf 6 2 0 [lookL A, lookL B])).getD noSM
noncomputable def todoS : List SI := todoL ES 2 60 (entS [] [] 0 0 0 0) [(0, .b false)]
noncomputable def hdS (n m c d : Nat) (i : Int) : SF := { fn := 7, tm := tmOf 26 6 ([.sl 0 0 n (some c), .sl 1 0 m (some d), .junk, .junk, .junk, .v (.int .i64 i)] ++ List.replicate 20 .junk), todo := todoS, defers := [], ret := false, kind := .normal, ro := none }
theorem s0 (A B : List SV) (n m c d : Nat) : reach ES 2 60 (entS A B n m c d) [(0, .b false)] [(0, 0), (1, 1)] [0, 1] (hdS n m c d 0) 6 [lookL A, lookL B] = [
  (0 : Nat) = (0 : Nat) ∧ n = n ∧ some c = some c,
  (0 : Nat) = (0 : Nat) ∧ m = m ∧ some d = some d,
  Value.int IntKind.i64 (0 : Int) = Value.int IntKind.i64 (0 : Int),
  A = A,
  A.all closedSV = true,
  B = B,
  B.all closedSV = true,
  (!(↑n : Int) == (↑m : Int)) = false] := by kernel_rfl
theorem s1 (A B : List SV) (n m c d : Nat) (i i' : Int) (r q : RowT) : reach ES 2 60 (SM.at (hdS n m c d i) 6 [lookL A, lookL B]) (ff [0] true ++ [(2, .cells (rowC r)), (4, .cells (rowC q)), (5, .eqs true)] ++ ff [6] false) [(0, 0), (1, 1)] [0, 1] (hdS n m c d i') 6 [lookL A, lookL B] = [
  (0 : Nat) = (0 : Nat) ∧ n = n ∧ some c = some c,
  (0 : Nat) = (0 : Nat) ∧ m = m ∧ some d = some d,
  Value.int IntKind.i64 (IntKind.i64.wrap (i + (1 : Int))) = Value.int IntKind.i64 i',
  A = A,
  A.all closedSV = true,
  B = B,
  B.all closedSV = true,
  (!true) = false,
  r.1 = q.1 ∧
   r.snd.1 = q.snd.1 ∧
   r.snd.snd.1 = q.snd.snd.1 ∧ r.snd.snd.snd.1 = q.snd.snd.snd.1 ∧ r.snd.snd.snd.2 = q.snd.snd.snd.2 ∧ True,
  List.take (5 : Nat) (List.drop ((0 : Nat) + i.toNat * (5 : Nat)) B) = rowC q ∧ (rowC q).length = (5 : Nat),
  inRange i m = true,
  List.take (5 : Nat) (List.drop ((0 : Nat) + i.toNat * (5 : Nat)) A) = rowC r ∧ (rowC r).length = (5 : Nat),
  inRange i n = true,
  decide (i < (↑n : Int)) = true] := by kernel_rfl
theorem s2 (A B : List SV) (n m c d : Nat) (i : Int) (v : Value) : endsV ES 7 60 (SM.at (hdS n m c d i) 6 [lookL A, lookL B]) (ff [0] false) v = [
  Value.bool true = v,
  decide (i < (↑n : Int)) = false] := by kernel_rfl
def box (p : ByteArray) : Option (SO × Bool) := some (.look [.v (.string p)], false)
noncomputable def entX (off : Nat) (xs : List RowT) (l c : Nat) (p : ByteArray) : SM := (enterS ES 16 [.sl 0 off l (some c), .func (.func 17) [] [.ptr 1 0]] (memOf 6 2 0 [look off xs, box p])).getD noSM
noncomputable def todoX : List SI := todoL ES 2 60 (entX 0 [] 0 0 ⟨#[]⟩) [(1000, .b true)]
noncomputable def hdX (off L c : Nat) (i : Int) : SF := { fn := 16, tm := tmOf 19 6 ([.sl 0 off L (some c), .func (.func 17) [] [.ptr 1 0], .junk, .junk, .junk, .junk, .junk, .v (.int .i64 L), .v (.int .i64 i)] ++ List.replicate 10 .junk), todo := todoX, defers := [], ret := false, kind := .normal, ro := none }
theorem x0 (off L c : Nat) (xs : List RowT) (p : ByteArray) : reach ES 2 60 (entX off xs L c p) [(1000, .b true)] [(0, 0), (1, 1)] [0] (hdX off L c 0) 6 [look off xs, box p] = [
  off = off ∧ L = L ∧ some c = some c,
  Fn.func (17 : Nat) = Fn.func (17 : Nat),
  (0 : Nat) = (0 : Nat),
  Value.int IntKind.i64 (↑L : Int) = Value.int IntKind.i64 (↑L : Int),
  Value.int IntKind.i64 (0 : Int) = Value.int IntKind.i64 (0 : Int),
  rowsAt rowC off xs = rowsAt rowC off xs,
  (rowsAt rowC off xs).all closedSV = true,
  Value.string p = Value.string p] := by kernel_rfl
theorem x1 (off L c : Nat) (xs : List RowT) (p : ByteArray) (i i' : Int) (r : RowT) : reach ES 2 100 (SM.at (hdX off L c i) 6 [look off xs, box p]) (ff [0, 1] true ++ [(2, .cells (rowC r))] ++ ff [3, 4] false) [(0, 0), (1, 1)] [0] (hdX off L c i') 6 [look off xs, box p] = [
  off = off ∧ L = L ∧ some c = some c,
  Fn.func (17 : Nat) = Fn.func (17 : Nat),
  (0 : Nat) = (0 : Nat),
  Value.int IntKind.i64 (↑L : Int) = Value.int IntKind.i64 (↑L : Int),
  Value.int IntKind.i64 (IntKind.i64.wrap (i + (1 : Int))) = Value.int IntKind.i64 i',
  rowsAt rowC off xs = rowsAt rowC off xs,
  (rowsAt rowC off xs).all closedSV = true,
  Value.string p = Value.string p,
  (r.1.toList == p.toList) = false,
  List.take (5 : Nat) (List.drop (off + i.toNat * (5 : Nat)) (rowsAt rowC off xs)) = rowC r ∧ (rowC r).length = (5 : Nat),
  inRange i L = true,
  decide (i < (↑L : Int)) = true] := by kernel_rfl
theorem x2 (off L c : Nat) (xs : List RowT) (p : ByteArray) (i : Int) (r : RowT) (v : Value) : endsV ES 16 100 (SM.at (hdX off L c i) 6 [look off xs, box p]) (ff [0, 1] true ++ [(2, .cells (rowC r))] ++ ff [3, 4] true) v = [
  Value.int IntKind.i64 i = v,
  (r.1.toList == p.toList) = true,
  List.take (5 : Nat) (List.drop (off + i.toNat * (5 : Nat)) (rowsAt rowC off xs)) = rowC r ∧ (rowC r).length = (5 : Nat),
  inRange i L = true,
  decide (i < (↑L : Int)) = true] := by kernel_rfl
theorem x3 (off L c : Nat) (xs : List RowT) (p : ByteArray) (i : Int) (v : Value) : endsV ES 16 100 (SM.at (hdX off L c i) 6 [look off xs, box p]) (ff [0] false) v = [
  Value.int IntKind.i64 (-1 : Int) = v,
  decide (i < (↑L : Int)) = false] := by kernel_rfl
def isP (p : ByteArray) (r : RowT) : Bool := r.1.data.toList == p.data.toList
def idxN (p : ByteArray) (xs : List RowT) : Int := match xs.findIdx? (isP p) with | some i => i | none => -1
def idxS (off : Nat) (xs : List RowT) : PlG := fun args sh => match args with
  | [.sl i o L (some c), .func (.func f) [] [.ptr j 0]] => match sh.look i, sh.look j with
    | some (.look ys, _), some (.row [.v (.string p)] _ _ _, _) => some (.int .i64 (idxN p xs), (RowsOK off xs ys o L ⟨#[]⟩ ∧ f = 17) ∧ i ≠ j)
    | _, _ => none
  | _ => none
noncomputable def EF (off : Nat) (xs : List RowT) : Env := { EP [] [] with sums := fun f => ([(16, plSumG (idxS off xs))] : List (FuncId × Sum)).lookup f }
noncomputable def entF (off : Nat) (xs : List RowT) (l c : Nat) (p : ByteArray) : SM := (enterS (EF off xs) 8 [.sl 0 off l (some c), .v (.string p)] (memOf 6 1 0 [look off xs])).getD noSM
theorem f0 (off L c : Nat) (xs : List RowT) (p : ByteArray) (r : RowT) (v : Value) : endsV (EF off xs) 8 100 (entF off xs L c p) (ff [0, 1, 2] true ++ [(3, .cells (rowC r))]) v = [
  Value.tuple
   {
   toList :=
   [Value.agg
   {
   toList :=
   [Value.string r.1, Value.int IntKind.i64 r.snd.1, Value.int IntKind.u64 r.snd.snd.1,
   Value.int IntKind.u64 r.snd.snd.snd.1, Value.int IntKind.i64 r.snd.snd.snd.2] :
   Array Value },
   Value.bool true] :
   Array Value } =
   v,
  List.take (5 : Nat)
   (List.drop (off + (idxN p xs).toNat * (5 : Nat)) (rowsAt rowC off xs)) =
   rowC r ∧
   (rowC r).length = (5 : Nat),
  inRange (idxN p xs) L = true,
  decide (idxN p xs ≥ (0 : Int)) = true,
  (RowsOK off xs (rowsAt rowC off xs) off L { data := { toList := [] : Array UInt8 } : ByteArray } ∧
   (17 : Nat) = (17 : Nat)) ∧
   (0 : Nat) ≠ (1 : Nat)] := by kernel_rfl
theorem f1 (off L c : Nat) (xs : List RowT) (p : ByteArray) (v : Value) : endsV (EF off xs) 8 100 (entF off xs L c p) (ff [0, 1] false) v = [
  Value.tuple
   {
   toList :=
   [Value.agg
   {
   toList :=
   [Value.string p, Value.int IntKind.i64 (0 : Int), Value.int IntKind.u64 (0 : Int),
   Value.int IntKind.u64 (0 : Int), Value.int IntKind.i64 (0 : Int)] :
   Array Value },
   Value.bool false] :
   Array Value } =
   v,
  decide (idxN p xs ≥ (0 : Int)) = false,
  (RowsOK off xs (rowsAt rowC off xs) off L { data := { toList := [] : Array UInt8 } : ByteArray } ∧
   (17 : Nat) = (17 : Nat)) ∧
   (0 : Nat) ≠ (1 : Nat)] := by kernel_rfl
end paths
end Go.Proofs.YtjhmpmhkppglnaaGreat
namespace Go.Proofs.YtjhmpmhkppglnaaGreat
open Go Go.Rx Go.RowKit Go.Proofs
set_option linter.unusedVariables false
set_option linter.unusedSimpArgs false
set_option maxRecDepth 100000
namespace paths
theorem row_look {ν : Val} {i : Nat} {ys : List SV} {e : TypeId} {fz : Nat × Nat} {x : Option Nat} {ob : Obj} (h : OR ν i (.row ys e fz x) ob) : OR ν i (.look ys) ob := by
  obtain ⟨zs, rest, rfl, hz, _⟩ := h
  exact ⟨zs, _, _, _, rfl, hz, fun k y hk => by simpa using getElem?_append_left' hk⟩
theorem look_closed {ν ν' : Val} {i j : Nat} {ys : List SV} {ob : Obj} (hy : ys.all closedSV = true) (h : OR ν i (.look ys) ob) : OR ν' j (.look ys) ob := by
  obtain ⟨zs, c, e, fz, rfl, hz, hc⟩ := h
  exact ⟨zs, c, e, fz, rfl, closed_VRL hy hz, hc⟩
theorem calls2 {E : Env} {P : Program} (hP : E.P = P) (hG : E.G = []) {f : FuncId} {w : World} {R : Ending → World → Prop} {b1 b2 : Nat × Nat} (hb : b1.1 ≠ b2.1) {ys zs : List SV} {o1 o2 : Obj} {ν : Val} {i j : Nat}
    (h1 : w.heap[b1.1]? = some o1) (k1 : OR ν i (.look ys) o1) (hy : ys.all closedSV = true) (h2 : w.heap[b2.1]? = some o2) (k2 : OR ν j (.look zs) o2) (hz : zs.all closedSV = true) {args : List SV} {a : List Value} {S0 : SM}
    (hS0 : enterS E f args (memOf 6 2 0 [lookL ys, lookL zs]) = some S0) (ha : VRL (layVal [b1, b2]) args a) (hs : ∀ cs0, Goes E (layOwn [b1, b2] [(.look ys, false), (.look zs, false)]) w cs0 f R (layVal [b1, b2]) S0) : Calls P f a.toArray w R := by
  refine calls_readR (E := E) hP (d := 6) (l := [b1, b2]) (os := [.look ys, .look zs]) rfl (by simp) (by simp [hb]) ?_ hG hS0 ha hs
  intro q o' b' c' e1 e2
  match q with
  | 0 =>
    simp only [List.getElem?_cons_zero, Option.some.injEq] at e1 e2
    subst e2
    subst e1
    exact ⟨_, h1, look_closed hy k1⟩
  | 1 =>
    simp only [List.getElem?_cons_succ, List.getElem?_cons_zero, Option.some.injEq] at e1 e2
    subst e2
    subst e1
    exact ⟨_, h2, look_closed hz k2⟩
  | q + 2 => simp at e1
theorem KS {M : Own} {w0 : World} : Facts ES M w0 := factsP0 fun r h => by cases h
theorem lay2 {b1 b2 : Nat × Nat} {i : Nat} {x : Nat × Nat} (h : layVal [b1, b2] i = some x) : ([(0, 0), (1, 1)] : List (Nat × Nat)).lookup i = some i := by
  match i with
  | 0 => rfl
  | 1 => rfl
  | i + 2 => simp [layVal] at h
theorem none2 {b1 b2 : Nat × Nat} {ys zs : List SV} (z : Nat) : ¬ (layOwn [b1, b2] [(SO.look ys, false), (SO.look zs, false)]) z := layOwn_none (os := [_, _])
theorem cR_at {xs : List RowT} {k : Nat} {x : RowT} (h : xs[k]? = some x) : List.take 5 (List.drop (0 + k * 5) (cR xs)) = rowC x := by
  rw [Nat.zero_add]; exact flatMap_at rowC_len h
section
variable {w0 : World} {cs0 : List Frame} {R : Ending → World → Prop} {A B : List RowT} {b1 b2 : Nat × Nat} {c d : Nat}
theorem loopS (hl : A.length ≤ 1000) (hAB : A = B.take A.length) (hR : ∀ w', Below w0.heap.size w0 w' → R (.returned (.bool true)) w') : ∀ (j i : Nat), i + j = A.length →
    Goes ES (layOwn [b1, b2] [(.look (cR A), false), (.look (cR B), false)]) w0 cs0 7 R (layVal [b1, b2]) (SM.at (hdS A.length A.length c d i) 6 [lookL (cR A), lookL (cR B)])
  | 0, i, hj => by
    refine goes_due KS none2 (n := 60) (o := ff [0] false) (v := .bool true) ⟨?_⟩ hR
    rw [s2]
    simp only [Owed, true_and, and_true]
    exact decide_eq_false (by omega)
  | j + 1, i, hj => by
    have hi : i < A.length := by omega
    have hxi : A[i]? = some A[i] := List.getElem?_eq_getElem hi
    have hyi : B[i]? = some A[i] := by
      have h2 : (B.take A.length)[i]? = some A[i] := by rw [← hAB]; exact hxi
      rwa [List.getElem?_take, if_pos hi] at h2
    have t1 : decide ((i : Int) < (A.length : Int)) = true := decide_eq_true (by omega)
    have r1 := in_range hi
    have ws := wrap_succ (k := i) (by omega)
    refine Goes.reach KS (k := 2) (n := 60) (o := (ff [0] true ++ [(2, .cells (rowC A[i])), (4, .cells (rowC A[i])), (5, .eqs true)] ++ ff [6] false)) (ren := [(0, 0), (1, 1)]) (eqs := [0, 1]) ?_ (by kernel_rfl) (fun i b h => lay2 h) (loopS hl hAB hR j (i + 1) (by omega))
    rw [s1]
    simp only [Owed, Int.toNat_natCast, t1, r1, ws, cR_at hxi, cR_at hyi, rowC_len, cR_closed, and_self]
    simp
/-- Same of a page and of rows that begin with it. -/
def sameS (A B : List RowT) : PlG := fun args sh => match args with
  | [.sl i 0 n none, .sl j 0 m none] => bif Nat.beq i j then none else match sh.look i, sh.look j with
    | some (.row ys _ _ _, _), some (.row zs _ _ _, _) => some (.bool true, ((ys = cR A ∧ zs = cR B) ∧ n = A.length ∧ m = A.length) ∧ A = B.take A.length ∧ A.length ≤ 1000)
    | _, _ => none
  | _ => none
theorem same_ok {X : World → Prop} (A B : List RowT) : SumOK Tryz.prog X (7, plSumG (sameS A B)) := by
  refine plSumG_ok ⟨_, Tryz.func7, by kernel_rfl, by kernel_rfl⟩ fun args sh v p h hp ν M w0 w a hr hX ha => ?_
  dsimp only [sameS] at h
  split at h
  · rename_i i n j m
    cases hbq : Nat.beq i j
    rotate_left
    · rw [hbq] at h; cases h
    rw [hbq, cond_false] at h
    have hij : i ≠ j := fun e => by rw [e] at hbq; simp at hbq
    split at h
    · rename_i ys e1 z1 x1 m1 zs e2 z2 x2 m2 hl1 hl2
      cases h
      obtain ⟨⟨⟨rfl, rfl⟩, rfl, rfl⟩, hAB, hlen⟩ := hp
      obtain ⟨y1, as1, rfl, q1, ha2⟩ := ha.cons_inv
      obtain ⟨y2, as2, rfl, q2, ha3⟩ := ha2.cons_inv
      obtain rfl := ha3.nil_inv
      obtain ⟨b1, hb1, le1, rfl⟩ := VR.sl_iff.1 q1
      obtain ⟨b2, hb2, le2, rfl⟩ := VR.sl_iff.1 q2
      obtain ⟨d1, g1, b1', o1, hb1', ho1, hor1, _⟩ := hr.look hl1
      obtain ⟨d2, g2, b2', o2, hb2', ho2, hor2, _⟩ := hr.look hl2
      rw [hb1] at hb1'; cases hb1'
      rw [hb2] at hb2'; cases hb2'
      have hne : b1.1 ≠ b2.1 := fun e => hij (hr.inj i j d1 d2 (by rw [g1]; simp) (by rw [g2]; simp) b1 b2 hb1 hb2 e)
      have hc1 : A.length ≤ b1.2 := le1
      have hc2 : A.length ≤ b2.2 := le2
      refine calls2 (E := ES) rfl rfl (b1 := b1) (b2 := b2) hne ho1 (row_look hor1) (cR_closed A) ho2 (row_look hor2) (cR_closed B) (args := [.sl 0 0 A.length (some b1.2), .sl 1 0 A.length (some b2.2)]) (S0 := entS (cR A) (cR B) A.length A.length b1.2 b2.2) (by kernel_rfl)
        (VRL.cons (VR.sl_iff.2 ⟨b1, rfl, hc1, rfl⟩) (VRL.cons (VR.sl_iff.2 ⟨b2, rfl, hc2, rfl⟩) VRL.nil)) fun cs0 => ?_
      have nx := loopS (w0 := w) (cs0 := cs0) (b1 := b1) (b2 := b2) (c := b1.2) (d := b2.2) (R := fun e w' => Below w.heap.size w w' ∧ e = .returned (.bool true)) hlen hAB (fun w' hw => ⟨hw, rfl⟩) A.length 0 (by omega)
      refine Goes.reach KS (k := 2) (n := 60) (o := [(0, .b false)]) (ren := [(0, 0), (1, 1)]) (eqs := [0, 1]) (F := hdS A.length A.length b1.2 b2.2 0) (d := 6) (l := [lookL (cR A), lookL (cR B)]) ?_ (by kernel_rfl) (fun i b h => lay2 h) nx
      rw [s0]
      simp only [Owed, cR_closed, beq_self_eq_true, Bool.not_true, and_self]
    · cases h
  · cases h
end
section
variable {w0 : World} {cs0 : List Frame} {R : Ending → World → Prop} {off c : Nat} {xs : List RowT} {p : ByteArray} {b1 b2 : Nat × Nat}
theorem loopX (hl : xs.length ≤ 1000) : ∀ (j i : Nat), i + j = xs.length → (∀ w', Below w0.heap.size w0 w' → R (.returned (.int .i64 (match (xs.drop i).findIdx? (isP p) with | some q => ((i + q : Nat) : Int) | none => -1))) w') →
    Goes ES (layOwn [b1, b2] [(.look (rowsAt rowC off xs), false), (.look [.v (.string p)], false)]) w0 cs0 16 R (layVal [b1, b2]) (SM.at (hdX off xs.length c i) 6 [look off xs, box p])
  | 0, i, hj, hR => by
    refine goes_due KS none2 (n := 100) (o := ff [0] false) (v := .int .i64 (-1)) ⟨?_⟩ fun w' hw => ?_
    · rw [x3]
      simp only [Owed, true_and, and_true]
      exact decide_eq_false (by omega)
    · have := hR w' hw
      rwa [List.drop_eq_nil_of_le (by omega)] at this
  | j + 1, i, hj, hR => by
    have hi : i < xs.length := by omega
    have hxi : xs[i]? = some xs[i] := List.getElem?_eq_getElem hi
    have t1 : decide ((i : Int) < (xs.length : Int)) = true := decide_eq_true (by omega)
    have r1 := in_range hi
    have ra := rowsAt_at (off := off) rowC_len hxi
    have ws := wrap_succ (k := i) (by omega)
    have dr := List.drop_eq_getElem_cons hi
    cases hq : isP p xs[i]
    · have hq' : (xs[i].1.toList == p.toList) = false := by rw [tlB, tlB]; exact hq
      refine Goes.reach KS (k := 2) (n := 100) (o := (ff [0, 1] true ++ [(2, .cells (rowC xs[i]))] ++ ff [3, 4] false)) (ren := [(0, 0), (1, 1)]) (eqs := [0]) ?_ (by kernel_rfl) (fun i b h => lay2 h) (loopX hl j (i + 1) (by omega) fun w' hw => by
        have := hR w' hw
        rw [dr, List.findIdx?_cons, hq] at this
        cases hf : (xs.drop (i + 1)).findIdx? (isP p) with
        | none => rw [hf] at this; exact this
        | some q =>
          rw [hf] at this
          simp only [Bool.false_eq_true, if_false, Option.map_some] at this
          have e : ((i + 1 + q : Nat) : Int) = ((i + (q + 1) : Nat) : Int) := by omega
          show R (.returned (.int .i64 ((i + 1 + q : Nat) : Int))) w'
          rw [e]; exact this)
      rw [x1]
      simp only [Owed, Int.toNat_natCast, t1, r1, ra, hq', ws, rowC_len, rows_closed, and_self]
    · have hq' : (xs[i].1.toList == p.toList) = true := by rw [tlB, tlB]; exact hq
      refine goes_due KS none2 (n := 100) (o := (ff [0, 1] true ++ [(2, .cells (rowC xs[i]))] ++ ff [3, 4] true)) (v := .int .i64 i) ⟨?_⟩ fun w' hw => ?_
      · rw [x2]
        simp only [Owed, Int.toNat_natCast, t1, r1, ra, hq', rowC_len, and_self]
      · have := hR w' hw
        rw [dr, List.findIdx?_cons, hq] at this
        exact this
theorem idx_ok {X : World → Prop} (off : Nat) (xs : List RowT) : SumOK Tryz.prog X (16, plSumG (idxS off xs)) := by
  refine plSumG_ok ⟨_, Tryz.func16, by kernel_rfl, by kernel_rfl⟩ fun args sh v p h hp ν M w0 w a hr hX ha => ?_
  dsimp only [idxS] at h
  split at h
  · rename_i i o L c f j
    split at h
    · rename_i ys m1 p e2 z2 x2 m2 hl1 hl2
      cases h
      obtain ⟨⟨⟨rfl, rfl, rfl, h4, h5, h6⟩, rfl⟩, hij⟩ := hp
      obtain ⟨y1, as1, rfl, q1, ha2⟩ := ha.cons_inv
      obtain ⟨y2, as2, rfl, q2, ha3⟩ := ha2.cons_inv
      obtain rfl := ha3.nil_inv
      obtain ⟨b1, hb1, le1, rfl⟩ := VR.sl_iff.1 q1
      obtain ⟨u1, u2, rfl, hu1, hu2⟩ := VR.func_iff.1 q2
      obtain rfl := hu1.nil_inv
      obtain ⟨y3, as3, rfl, q3, hu3⟩ := hu2.cons_inv
      obtain rfl := hu3.nil_inv
      obtain ⟨b2, hb2, rfl⟩ := VR.ptr_iff.1 q3
      obtain ⟨d1, g1, b1', o1, hb1', ho1, hor1, _⟩ := hr.look hl1
      obtain ⟨d2, g2, b2', o2, hb2', ho2, hor2, _⟩ := hr.look hl2
      rw [hb1] at hb1'; cases hb1'
      rw [hb2] at hb2'; cases hb2'
      have hne : b1.1 ≠ b2.1 := fun e => hij (hr.inj i j d1 d2 (by rw [g1]; simp) (by rw [g2]; simp) b1 b2 hb1 hb2 e)
      refine calls2 (E := ES) rfl rfl (b1 := b1) (b2 := b2) hne ho1 hor1 (rows_closed _ _) ho2 (row_look hor2) rfl (args := [.sl 0 o xs.length (some c), .func (.func 17) [] [.ptr 1 0]]) (S0 := entX o xs xs.length c p) (by kernel_rfl)
        (VRL.cons (VR.sl_iff.2 ⟨b1, rfl, le1, rfl⟩) (VRL.cons (VR.func_iff.2 ⟨_, _, rfl, VRL.nil, VRL.cons (VR.ptr_iff.2 ⟨b2, rfl, rfl⟩) VRL.nil⟩) VRL.nil)) fun cs0 => ?_
      have nx := loopX (w0 := w) (cs0 := cs0) (b1 := b1) (b2 := b2) (off := o) (c := c) (p := p) (R := fun e w' => Below w.heap.size w w' ∧ e = .returned (.int .i64 (idxN p xs))) h4 xs.length 0 (by omega) (fun w' hw => ⟨hw, by
        rw [List.drop_zero]; unfold idxN
        cases xs.findIdx? (isP p) <;> simp⟩)
      refine Goes.reach KS (k := 2) (n := 60) (o := [(1000, .b true)]) (ren := [(0, 0), (1, 1)]) (eqs := [0]) (F := hdX o xs.length c 0) (d := 6) (l := [look o xs, box p]) ?_ (by kernel_rfl) (fun i b h => lay2 h) nx
      rw [x0]
      simp only [Owed, rows_closed, and_self]
    · cases h
  · cases h
end
theorem find_idx (f : RowT → Bool) : ∀ xs : List RowT, (∃ q r, xs.findIdx? f = some q ∧ xs[q]? = some r ∧ xs.find? f = some r) ∨ (xs.findIdx? f = none ∧ xs.find? f = none)
  | [] => .inr ⟨rfl, rfl⟩
  | x :: xs => by
    cases hx : f x
    · rcases find_idx f xs with ⟨q, r, h1, h2, h3⟩ | ⟨h1, h2⟩
      · exact .inl ⟨q + 1, r, by rw [List.findIdx?_cons, hx, h1]; rfl, by simpa using h2, by rw [List.find?_cons, hx]; exact h3⟩
      · exact .inr ⟨by rw [List.findIdx?_cons, hx, h1]; rfl, by rw [List.find?_cons, hx]; exact h2⟩
    · exact .inl ⟨0, x, by rw [List.findIdx?_cons, hx]; rfl, rfl, by rw [List.find?_cons, hx]⟩
def findR (p : ByteArray) (xs : List RowT) : RowT := (xs.find? (isP p)).getD (p, 0, 0, 0, 0)
def foundB (p : ByteArray) (xs : List RowT) : Bool := (xs.find? (isP p)).isSome
def aggR (r : RowT) : Value := .agg #[.string r.1, .int .i64 r.2.1, .int .u64 r.2.2.1, .int .u64 r.2.2.2.1, .int .i64 r.2.2.2.2]
def findS (off : Nat) (xs : List RowT) : PlG := fun args sh => match args with
  | [.sl i o L (some c), .v (.string p)] => match sh.look i with
    | some (.look ys, _) => some (.tuple #[.agg #[.string (findR p xs).1, .int .i64 (findR p xs).2.1, .int .u64 (findR p xs).2.2.1, .int .u64 (findR p xs).2.2.2.1, .int .i64 (findR p xs).2.2.2.2], .bool (foundB p xs)], RowsOK off xs ys o L ⟨#[]⟩)
    | _ => none
  | _ => none
theorem KF {off : Nat} {xs : List RowT} {M : Own} {w0 : World} : Facts (EF off xs) M w0 :=
  Facts.of' (Checked.mixed Tryz.checked) (by kernel_rfl) (ExtOK.of extL rfl extRows) (SumsOK.list (X := fun _ => True) (l := [(16, plSumG (idxS off xs))]) rfl (fun r hr => by
    rw [List.mem_singleton.1 hr]; exact idx_ok off xs) fun ν s w hr _ => trivial) (fun f g h => by cases h)
theorem find_ok {X : World → Prop} (off : Nat) (xs : List RowT) : SumOK Tryz.prog X (8, plSumG (findS off xs)) := by
  refine plSumG_ok ⟨_, Tryz.func8, by kernel_rfl, by kernel_rfl⟩ fun args sh v p h hp ν M w0 w a hr hX ha => ?_
  dsimp only [findS] at h
  split at h
  · rename_i i o L c p
    split at h
    · rename_i ys mk hl
      cases h
      have hok := hp
      obtain ⟨rfl, rfl, rfl, h4, h5, h6⟩ := hp
      refine calls_look (E := EF o xs) (vs := [.string p]) rfl rfl hr hl (rows_closed _ _) ha (S0 := entF o xs xs.length c p) (by kernel_rfl) fun b cap cs0 => ?_
      have ne : (0 : Nat) ≠ 1 := by decide
      rcases find_idx (isP p) xs with ⟨q, r, e1, e2, e3⟩ | ⟨e1, e2⟩
      · have hlt : q < xs.length := (List.getElem?_eq_some_iff.1 e2).1
        have ei : idxN p xs = (q : Int) := by unfold idxN; rw [e1]
        have er : findR p xs = r := by unfold findR; rw [e3]; rfl
        have eb : foundB p xs = true := by unfold foundB; rw [e3]; rfl
        refine goes_due KF none1 (n := 100) (o := (ff [0, 1, 2] true ++ [(3, .cells (rowC r))])) (v := .tuple #[.agg #[.string r.1, .int .i64 r.2.1, .int .u64 r.2.2.1, .int .u64 r.2.2.2.1, .int .i64 r.2.2.2.2], .bool true]) ⟨?_⟩ fun w' hw => ⟨hw, by rw [er, eb]⟩
        rw [f0]
        have t1 : decide ((q : Int) ≥ 0) = true := decide_eq_true (by omega)
        simp only [Owed, ei, Int.toNat_natCast, t1, in_range hlt, rowsAt_at rowC_len e2, rowC_len, hok, ne, ne_eq, not_false_eq_true, and_self]
      · have ei : idxN p xs = -1 := by unfold idxN; rw [e1]
        have er : findR p xs = (p, 0, 0, 0, 0) := by unfold findR; rw [e2]; rfl
        have eb : foundB p xs = false := by unfold foundB; rw [e2]; rfl
        refine goes_due KF none1 (n := 100) (o := ff [0, 1] false) (v := .tuple #[.agg #[.string p, .int .i64 0, .int .u64 0, .int .u64 0, .int .i64 0], .bool false]) ⟨?_⟩ fun w' hw => ⟨hw, by rw [er, eb]⟩
        rw [f1]
        have t1 : decide ((-1 : Int) ≥ 0) = false := by decide
        simp only [Owed, ei, t1, hok, ne, ne_eq, not_false_eq_true, and_self]
    · cases h
  · cases h
end paths
end Go.Proofs.YtjhmpmhkppglnaaGreat
