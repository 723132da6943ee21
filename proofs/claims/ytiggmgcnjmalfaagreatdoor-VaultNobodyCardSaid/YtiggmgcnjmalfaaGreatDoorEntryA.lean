/- Checks of paths, versions, leaves, entries, by the program and by the document: their runs. By an AI agent. -/
import Derived.Test.YtiggmgcnjmalfaaGreatDoorNameA
import Derived.Test.YtiggmgcnjmalfaaGreatDoorRyI
namespace Go.Proofs.YtiggmgcnjmalfaaGreatDoor
open Go Go.Rx Go.RowKit Go.Proofs
set_option linter.unusedVariables false
set_option linter.unusedSimpArgs false
set_option maxRecDepth 100000
namespace paths
noncomputable def todoQ : List SI := todoL EN0 2 60 (entE EN0 165 [.v (.string ⟨#[]⟩)]) []
noncomputable def hdQ (s : ByteArray) (i : Int) : SF := { fn := 165, tm := tmOf 30 6 ([.v (.string s), .junk, .junk, .v (.int .i64 i)] ++ List.replicate 26 .junk), todo := todoQ, defers := [], ret := false, kind := .normal, ro := none }
theorem q0 (s : ByteArray) : reach EN0 2 60 (entE EN0 165 [.v (.string s)]) [(1000, .b true)] [] [] (hdQ s 0) 6 [] = [
  Value.string s = Value.string s,
  Value.int IntKind.i64 (0 : Int) = Value.int IntKind.i64 (0 : Int)] := by kernel_rfl
theorem q1 (s : ByteArray) (i i' : Int) : reach EN0 2 60 (SM.at (hdQ s i) 6 []) (ff [0] true ++ ff [2] false) [] [] (hdQ s i') 6 [] = [
  Value.string s = Value.string s,
  Value.int IntKind.i64 (IntKind.i64.wrap (i + (1 : Int))) = Value.int IntKind.i64 i',
  ((↑(s.data.getD i.toNat (0 : UInt8)).toNat : Int) == (0 : Int)) = false,
  inRange i s.size = true,
  decide (i < (↑s.size : Int)) = true] := by kernel_rfl
theorem q2 (s : ByteArray) (i : Int) (v : Value) : endsV EN0 165 60 (SM.at (hdQ s i) 6 []) (ff [0, 2] true) v = [
  Value.bool false = v,
  ((↑(s.data.getD i.toNat (0 : UInt8)).toNat : Int) == (0 : Int)) = true,
  inRange i s.size = true,
  decide (i < (↑s.size : Int)) = true] := by kernel_rfl
theorem q3 (s : ByteArray) (i : Int) (v : Value) : endsV EN0 165 60 (SM.at (hdQ s i) 6 []) (ff (List.range 20) false) v = [
  Value.bool false = v,
  false = false,
  false = false,
  false = false,
  false = false,
  false = false,
  false = false,
  decide ((↑s.size : Int) ≥ (1 : Int)) = false,
  decide ((↑s.size : Int) ≥ (1 : Int)) = false,
  decide ((↑s.size : Int) ≥ (1 : Int)) = false,
  decide ((↑s.size : Int) ≥ (1 : Int)) = false,
  decide (i < (↑s.size : Int)) = false] := by kernel_rfl
theorem q4 (s : ByteArray) (i : Int) (v : Value) : endsV EN0 165 60 (SM.at (hdQ s i) 6 []) (ff [0] false ++ ff [1, 2, 3, 4] true ++ ff (List.range 20) false) v = [
  Value.bool false = v,
  false = false,
  false = false,
  false = false,
  decide ((↑s.size : Int) ≤ (24 : Int)) = false,
  decide ((↑s.size : Int) ≤ (24 : Int)) = false,
  decide ((↑s.size : Int) ≤ (24 : Int)) = false,
  decide ((↑s.size : Int) ≥ (1 : Int)) = true,
  decide ((↑s.size : Int) ≥ (1 : Int)) = true,
  decide ((↑s.size : Int) ≥ (1 : Int)) = true,
  decide ((↑s.size : Int) ≥ (1 : Int)) = true,
  decide (i < (↑s.size : Int)) = false] := by kernel_rfl
theorem q5 (s : ByteArray) (i : Int) (v : Value) : endsV EN0 165 60 (SM.at (hdQ s i) 6 []) (ff [0] false ++ ff [1, 2, 3, 4, 5, 6, 7] true ++ ff (List.range 20) false) v = [
  Value.bool false = v,
  (!s.toList == { data := { toList := [(46 : UInt8)] : Array UInt8 } : ByteArray }.toList) = false,
  (!s.toList == { data := { toList := [(46 : UInt8)] : Array UInt8 } : ByteArray }.toList) = false,
  (!s.toList == { data := { toList := [(46 : UInt8)] : Array UInt8 } : ByteArray }.toList) = false,
  decide ((↑s.size : Int) ≤ (24 : Int)) = true,
  decide ((↑s.size : Int) ≤ (24 : Int)) = true,
  decide ((↑s.size : Int) ≤ (24 : Int)) = true,
  decide ((↑s.size : Int) ≥ (1 : Int)) = true,
  decide ((↑s.size : Int) ≥ (1 : Int)) = true,
  decide ((↑s.size : Int) ≥ (1 : Int)) = true,
  decide ((↑s.size : Int) ≥ (1 : Int)) = true,
  decide (i < (↑s.size : Int)) = false] := by kernel_rfl
theorem q6 (s : ByteArray) (i : Int) (v : Value) : endsV EN0 165 60 (SM.at (hdQ s i) 6 []) (ff [0] false ++ ff (List.range 20) true) v = [
  (Value.bool !s.toList == { data := { toList := [(46 : UInt8), (46 : UInt8)] : Array UInt8 } : ByteArray }.toList) = v,
  (!s.toList == { data := { toList := [(46 : UInt8)] : Array UInt8 } : ByteArray }.toList) = true,
  (!s.toList == { data := { toList := [(46 : UInt8)] : Array UInt8 } : ByteArray }.toList) = true,
  (!s.toList == { data := { toList := [(46 : UInt8)] : Array UInt8 } : ByteArray }.toList) = true,
  decide ((↑s.size : Int) ≤ (24 : Int)) = true,
  decide ((↑s.size : Int) ≤ (24 : Int)) = true,
  decide ((↑s.size : Int) ≤ (24 : Int)) = true,
  decide ((↑s.size : Int) ≥ (1 : Int)) = true,
  decide ((↑s.size : Int) ≥ (1 : Int)) = true,
  decide ((↑s.size : Int) ≥ (1 : Int)) = true,
  decide ((↑s.size : Int) ≥ (1 : Int)) = true,
  decide (i < (↑s.size : Int)) = false] := by kernel_rfl
def lGd : List (FuncId × Sum) := [(139, slSum cutS), (165, pureSum partPS)]
noncomputable def EGd : Env := { EP [] [] with sums := fun f => lGd.lookup f }
noncomputable def todoGd : List SI := todoL EGd 2 60 (entE EGd 138 [.v (.string ⟨#[]⟩)]) (ff [0] false)
noncomputable def hdGd (n : Nat) (i : Int) : SF := { fn := 138, tm := tmOf 25 6 ([.junk, .junk, .junk, .sl 0 0 n none, .v (.int .i64 i)] ++ List.replicate 20 .junk), todo := todoGd, defers := [], ret := false, kind := .normal, ro := none }
theorem gd0 (p : ByteArray) (v : Value) : endsV EGd 138 60 (entE EGd 138 [.v (.string p)]) (ff [0] true) v = [
  Value.bool false = v,
  decide ((↑p.size : Int) > (96 : Int)) = true] := by kernel_rfl
theorem gd1 (p : ByteArray) (n : Nat) (l : List SV) : reach EGd 2 60 (entE EGd 138 [.v (.string p)]) (ff [0] false) [(0, 0)] [0] (hdGd n 0) 6 (many l) = [
  (0 : Nat) = (0 : Nat) ∧ (partsL p.data.toList).length = n ∧ (none : Option Nat) = none,
  Value.int IntKind.i64 (0 : Int) = Value.int IntKind.i64 (0 : Int),
  List.map SV.v (vP (partsL p.data.toList)) = l,
  l.all closedSV = true,
  p.size.le (1000000000 : Nat),
  decide ((↑p.size : Int) > (96 : Int)) = false] := by kernel_rfl
theorem gd2 (s : ByteArray) (n : Nat) (l : List SV) (i i' : Int) : reach EGd 2 60 (SM.at (hdGd n i) 6 (many l)) (ff [0] true ++ [(2, .cells [.v (.string s)])] ++ ff [4] false) [(0, 0)] [0] (hdGd n i') 6 (many l) = [
  (0 : Nat) = (0 : Nat) ∧ n = n ∧ (none : Option Nat) = none,
  Value.int IntKind.i64 (IntKind.i64.wrap (i + (1 : Int))) = Value.int IntKind.i64 i',
  l = l,
  l.all closedSV = true,
  (!partB s) = false,
  s.size.le (1000000000 : Nat),
  l[(0 : Nat) + i.toNat * (1 : Nat)]? = some (SV.v (Value.string s)),
  inRange i n = true,
  decide (i < (↑n : Int)) = true] := by kernel_rfl
theorem gd3 (s : ByteArray) (n : Nat) (l : List SV) (i : Int) (v : Value) : endsV EGd 138 60 (SM.at (hdGd n i) 6 (many l)) (ff [0] true ++ [(2, .cells [.v (.string s)])] ++ ff [4] true) v = [
  Value.bool false = v,
  (!partB s) = true,
  s.size.le (1000000000 : Nat),
  l[(0 : Nat) + i.toNat * (1 : Nat)]? = some (SV.v (Value.string s)),
  inRange i n = true,
  decide (i < (↑n : Int)) = true] := by kernel_rfl
theorem gd4 (n : Nat) (l : List SV) (i : Int) (v : Value) : endsV EGd 138 60 (SM.at (hdGd n i) 6 (many l)) (ff [0] false) v = [
  Value.bool (decide ((↑n : Int) ≤ (6 : Int))) = v,
  decide (i < (↑n : Int)) = false] := by kernel_rfl
theorem is0 (v : Int) (x : Value) : endsV EN0 94 100 (entE EN0 94 [.v (.int .u64 v)]) (ff (List.range 10) true ++ ff (List.range 20) false) x = [
  Value.bool false = x,
  false = false,
  false = false,
  false = false,
  false = false,
  true = true,
  true = true,
  true = true,
  true = true,
  true = true,
  true = true,
  true = true,
  decide (v.fdiv ((2 : Int) ^ (20 : Nat)) < (1 : Int)) = true,
  decide (v.fdiv ((2 : Int) ^ (20 : Nat)) < (1 : Int)) = true,
  decide (v.fdiv ((2 : Int) ^ (20 : Nat)) < (1 : Int)) = true] := by kernel_rfl
theorem is1 (v : Int) (x : Value) : endsV EN0 94 100 (entE EN0 94 [.v (.int .u64 v)]) (ff [0, 1, 2] false ++ ff (List.range 10) true ++ ff (List.range 20) false) x = [
  Value.bool false = x,
  false = false,
  false = false,
  false = false,
  false = false,
  true = true,
  true = true,
  true = true,
  true = true,
  decide (v.fdiv ((2 : Int) ^ (20 : Nat)) > (1099511627776 : Int)) = true,
  decide (v.fdiv ((2 : Int) ^ (20 : Nat)) > (1099511627776 : Int)) = true,
  decide (v.fdiv ((2 : Int) ^ (20 : Nat)) > (1099511627776 : Int)) = true,
  decide (v.fdiv ((2 : Int) ^ (20 : Nat)) < (1 : Int)) = false,
  decide (v.fdiv ((2 : Int) ^ (20 : Nat)) < (1 : Int)) = false,
  decide (v.fdiv ((2 : Int) ^ (20 : Nat)) < (1 : Int)) = false] := by kernel_rfl
theorem is2 (v : Int) (x : Value) : endsV EN0 94 100 (entE EN0 94 [.v (.int .u64 v)]) (ff [0, 1, 2, 3, 4, 5] false ++ ff (List.range 10) true ++ ff (List.range 20) false) x = [
  Value.bool false = x,
  false = false,
  false = false,
  false = false,
  false = false,
  true = true,
  decide
   (IntKind.u64.wrap (↑(BitVec.ofInt (64 : Nat) v &&& BitVec.ofInt (64 : Nat) (1048575 : Int)).toNat : Int) <
   (1 : Int)) =
   true,
  decide
   (IntKind.u64.wrap (↑(BitVec.ofInt (64 : Nat) v &&& BitVec.ofInt (64 : Nat) (1048575 : Int)).toNat : Int) <
   (1 : Int)) =
   true,
  decide
   (IntKind.u64.wrap (↑(BitVec.ofInt (64 : Nat) v &&& BitVec.ofInt (64 : Nat) (1048575 : Int)).toNat : Int) <
   (1 : Int)) =
   true,
  decide (v.fdiv ((2 : Int) ^ (20 : Nat)) > (1099511627776 : Int)) = false,
  decide (v.fdiv ((2 : Int) ^ (20 : Nat)) > (1099511627776 : Int)) = false,
  decide (v.fdiv ((2 : Int) ^ (20 : Nat)) > (1099511627776 : Int)) = false,
  decide (v.fdiv ((2 : Int) ^ (20 : Nat)) < (1 : Int)) = false,
  decide (v.fdiv ((2 : Int) ^ (20 : Nat)) < (1 : Int)) = false,
  decide (v.fdiv ((2 : Int) ^ (20 : Nat)) < (1 : Int)) = false] := by kernel_rfl
theorem is3 (v : Int) (x : Value) : endsV EN0 94 100 (entE EN0 94 [.v (.int .u64 v)]) (ff [0, 1, 2, 3, 4, 5, 6, 7, 8, 9] false ++ ff (List.range 20) true) x = [
  Value.bool
   (IntKind.u64.wrap
   (↑(BitVec.ofInt (64 : Nat) (IntKind.u64.wrap (v.fdiv ((2 : Int) ^ (20 : Nat)) * (2 : Int) ^ (20 : Nat))) |||
   BitVec.ofInt (64 : Nat)
   (IntKind.u64.wrap
   (↑(BitVec.ofInt (64 : Nat) v &&& BitVec.ofInt (64 : Nat) (1048575 : Int)).toNat : Int))).toNat :
   Int) ==
   v) =
   x,
  true = true,
  true = true,
  true = true,
  true = true,
  decide
   (IntKind.u64.wrap (↑(BitVec.ofInt (64 : Nat) v &&& BitVec.ofInt (64 : Nat) (1048575 : Int)).toNat : Int) >
   (1048575 : Int)) =
   false,
  decide
   (IntKind.u64.wrap (↑(BitVec.ofInt (64 : Nat) v &&& BitVec.ofInt (64 : Nat) (1048575 : Int)).toNat : Int) <
   (1 : Int)) =
   false,
  decide
   (IntKind.u64.wrap (↑(BitVec.ofInt (64 : Nat) v &&& BitVec.ofInt (64 : Nat) (1048575 : Int)).toNat : Int) <
   (1 : Int)) =
   false,
  decide
   (IntKind.u64.wrap (↑(BitVec.ofInt (64 : Nat) v &&& BitVec.ofInt (64 : Nat) (1048575 : Int)).toNat : Int) <
   (1 : Int)) =
   false,
  decide (v.fdiv ((2 : Int) ^ (20 : Nat)) > (1099511627776 : Int)) = false,
  decide (v.fdiv ((2 : Int) ^ (20 : Nat)) > (1099511627776 : Int)) = false,
  decide (v.fdiv ((2 : Int) ^ (20 : Nat)) > (1099511627776 : Int)) = false,
  decide (v.fdiv ((2 : Int) ^ (20 : Nat)) < (1 : Int)) = false,
  decide (v.fdiv ((2 : Int) ^ (20 : Nat)) < (1 : Int)) = false,
  decide (v.fdiv ((2 : Int) ^ (20 : Nat)) < (1 : Int)) = false] := by kernel_rfl
theorem pa0 (v : Int) (x : Value) : endsV EN0 91 100 (entE EN0 91 [.v (.int .u64 v)]) (ff (List.range 20) false) x = [
  Value.tuple
   {
   toList :=
   [Value.int IntKind.u64 (IntKind.u64.wrap (v.tdiv (1048576 : Int))),
   Value.int IntKind.u64 (v.tmod (1048576 : Int)), Value.bool false] :
   Array Value } =
   x,
  false = false,
  false = false,
  false = false,
  decide (IntKind.u64.wrap (v.tdiv (1048576 : Int)) ≥ (1 : Int)) = false,
  decide (IntKind.u64.wrap (v.tdiv (1048576 : Int)) ≥ (1 : Int)) = false,
  decide (IntKind.u64.wrap (v.tdiv (1048576 : Int)) ≥ (1 : Int)) = false] := by kernel_rfl
theorem pa1 (v : Int) (x : Value) : endsV EN0 91 100 (entE EN0 91 [.v (.int .u64 v)]) (ff [0, 1, 2] true ++ ff (List.range 20) false) x = [
  Value.tuple
   {
   toList :=
   [Value.int IntKind.u64 (IntKind.u64.wrap (v.tdiv (1048576 : Int))),
   Value.int IntKind.u64 (v.tmod (1048576 : Int)), Value.bool false] :
   Array Value } =
   x,
  decide (IntKind.u64.wrap (v.tdiv (1048576 : Int)) ≤ (1099511627776 : Int)) = false,
  decide (IntKind.u64.wrap (v.tdiv (1048576 : Int)) ≤ (1099511627776 : Int)) = false,
  decide (IntKind.u64.wrap (v.tdiv (1048576 : Int)) ≤ (1099511627776 : Int)) = false,
  decide (IntKind.u64.wrap (v.tdiv (1048576 : Int)) ≥ (1 : Int)) = true,
  decide (IntKind.u64.wrap (v.tdiv (1048576 : Int)) ≥ (1 : Int)) = true,
  decide (IntKind.u64.wrap (v.tdiv (1048576 : Int)) ≥ (1 : Int)) = true] := by kernel_rfl
theorem pa2 (v : Int) (x : Value) : endsV EN0 91 100 (entE EN0 91 [.v (.int .u64 v)]) (ff (List.range 20) true) x = [
  Value.tuple
   {
   toList :=
   [Value.int IntKind.u64 (IntKind.u64.wrap (v.tdiv (1048576 : Int))),
   Value.int IntKind.u64 (v.tmod (1048576 : Int)), Value.bool (decide (v.tmod (1048576 : Int) ≥ (1 : Int)))] :
   Array Value } =
   x,
  decide (IntKind.u64.wrap (v.tdiv (1048576 : Int)) ≤ (1099511627776 : Int)) = true,
  decide (IntKind.u64.wrap (v.tdiv (1048576 : Int)) ≤ (1099511627776 : Int)) = true,
  decide (IntKind.u64.wrap (v.tdiv (1048576 : Int)) ≤ (1099511627776 : Int)) = true,
  decide (IntKind.u64.wrap (v.tdiv (1048576 : Int)) ≥ (1 : Int)) = true,
  decide (IntKind.u64.wrap (v.tdiv (1048576 : Int)) ≥ (1 : Int)) = true,
  decide (IntKind.u64.wrap (v.tdiv (1048576 : Int)) ≥ (1 : Int)) = true] := by kernel_rfl
theorem lc0 (k : Int) (a : Option Addr) (l c : Nat) (v : Value) : endsV EN0 95 100 (entE EN0 95 [.v (.agg #[.int .i64 1, .slice a l c])]) (ff [1] true) v = [
  Value.int IntKind.i64 (0 : Int) = v,
  decide ((↑l : Int) ≤ (4096 : Int)) = true] := by kernel_rfl
theorem lc1 (k : Int) (a : Option Addr) (l c : Nat) (v : Value) : endsV EN0 95 100 (entE EN0 95 [.v (.agg #[.int .i64 1, .slice a l c])]) (ff [1] false) v = [
  Value.int IntKind.i64 (13 : Int) = v,
  decide ((↑l : Int) ≤ (4096 : Int)) = false] := by kernel_rfl
theorem lc2 (k : Int) (a : Option Addr) (l c : Nat) (v : Value) : endsV EN0 95 100 (entE EN0 95 [.v (.agg #[.int .i64 0, .slice a l c])]) (ff [3] true) v = [
  Value.int IntKind.i64 (0 : Int) = v,
  decide ((↑l : Int) ≤ (0 : Int)) = true] := by kernel_rfl
theorem lc3 (k : Int) (a : Option Addr) (l c : Nat) (v : Value) : endsV EN0 95 100 (entE EN0 95 [.v (.agg #[.int .i64 0, .slice a l c])]) (ff [3] false) v = [
  Value.int IntKind.i64 (2 : Int) = v,
  decide ((↑l : Int) ≤ (0 : Int)) = false] := by kernel_rfl
theorem lc4 (k : Int) (a : Option Addr) (l c : Nat) (v : Value) : endsV EN0 95 100 (entE EN0 95 [.v (.agg #[.int .i64 2, .slice a l c])]) (ff [3] true) v = [
  Value.int IntKind.i64 (0 : Int) = v,
  decide ((↑l : Int) ≤ (0 : Int)) = true] := by kernel_rfl
theorem lc5 (k : Int) (a : Option Addr) (l c : Nat) (v : Value) : endsV EN0 95 100 (entE EN0 95 [.v (.agg #[.int .i64 2, .slice a l c])]) (ff [3] false) v = [
  Value.int IntKind.i64 (2 : Int) = v,
  decide ((↑l : Int) ≤ (0 : Int)) = false] := by kernel_rfl
theorem lc6 (k : Int) (a : Option Addr) (l c : Nat) (v : Value) : endsV EN0 95 100 (entE EN0 95 [.v (.agg #[.int .i64 k, .slice a l c])]) (ff (List.range 20) false) v = [
  Value.int IntKind.i64 (2 : Int) = v,
  (k == (2 : Int)) = false,
  (k == (0 : Int)) = false,
  (k == (1 : Int)) = false] := by kernel_rfl
theorem rl0 (a : Option Addr) (l c : Nat) (v : Value) : endsV EN0 92 100 (entE EN0 92 [.v (.agg #[.int .i64 1, .slice a l c])]) (ff [16] true) v = [
  Value.int IntKind.i64 (13 : Int) = v,
  decide ((↑l : Int) > (4096 : Int)) = true] := by kernel_rfl
theorem rl1 (a : Option Addr) (l c : Nat) (v : Value) : endsV EN0 92 100 (entE EN0 92 [.v (.agg #[.int .i64 1, .slice a l c])]) (ff [16] false) v = [
  Value.int IntKind.i64 (0 : Int) = v,
  decide ((↑l : Int) > (4096 : Int)) = false] := by kernel_rfl
theorem rl2 (a : Option Addr) (l c : Nat) (v : Value) : endsV EN0 92 100 (entE EN0 92 [.v (.agg #[.int .i64 0, .slice a l c])]) (ff [15] true) v = [
  Value.int IntKind.i64 (2 : Int) = v,
  decide ((↑l : Int) > (0 : Int)) = true] := by kernel_rfl
theorem rl3 (a : Option Addr) (l c : Nat) (v : Value) : endsV EN0 92 100 (entE EN0 92 [.v (.agg #[.int .i64 0, .slice a l c])]) (ff [15, 16] false) v = [
  Value.int IntKind.i64 (0 : Int) = v,
  decide ((↑l : Int) > (4096 : Int)) = false,
  decide ((↑l : Int) > (0 : Int)) = false] := by kernel_rfl
theorem rl4 (a : Option Addr) (l c : Nat) (v : Value) : endsV EN0 92 100 (entE EN0 92 [.v (.agg #[.int .i64 2, .slice a l c])]) (ff [15] true) v = [
  Value.int IntKind.i64 (2 : Int) = v,
  decide ((↑l : Int) > (0 : Int)) = true] := by kernel_rfl
theorem rl5 (a : Option Addr) (l c : Nat) (v : Value) : endsV EN0 92 100 (entE EN0 92 [.v (.agg #[.int .i64 2, .slice a l c])]) (ff [15, 16] false) v = [
  Value.int IntKind.i64 (0 : Int) = v,
  decide ((↑l : Int) > (4096 : Int)) = false,
  decide ((↑l : Int) > (0 : Int)) = false] := by kernel_rfl
theorem rl6 (k : Int) (a : Option Addr) (l c : Nat) (v : Value) : endsV EN0 92 100 (entE EN0 92 [.v (.agg #[.int .i64 k, .slice a l c])]) (ff (List.range 20) true) v = [
  Value.int IntKind.i64 (2 : Int) = v,
  true = true,
  true = true,
  true = true,
  true = true,
  true = true,
  true = true,
  true = true,
  decide (k < (0 : Int)) = true,
  decide (k < (0 : Int)) = true,
  decide (k < (0 : Int)) = true,
  decide (k < (0 : Int)) = true] := by kernel_rfl
theorem rl7 (k : Int) (a : Option Addr) (l c : Nat) (v : Value) : endsV EN0 92 100 (entE EN0 92 [.v (.agg #[.int .i64 k, .slice a l c])]) (ff [0, 1, 2, 3] false ++ ff (List.range 20) true) v = [
  Value.int IntKind.i64 (2 : Int) = v,
  true = true,
  decide (k > (2 : Int)) = true,
  decide (k > (2 : Int)) = true,
  decide (k > (2 : Int)) = true,
  decide (k > (2 : Int)) = true,
  decide (k > (2 : Int)) = true,
  decide (k > (2 : Int)) = true,
  decide (k < (0 : Int)) = false,
  decide (k < (0 : Int)) = false,
  decide (k < (0 : Int)) = false,
  decide (k < (0 : Int)) = false] := by kernel_rfl
def verB (v : Int) : Bool := decide (1 ≤ v / 1048576 ∧ v / 1048576 ≤ 1099511627776 ∧ 1 ≤ v % 1048576)
def isPS : PS := fun args => match args with | [.int .u64 v] => some (.bool (verB v), 0 ≤ v ∧ v < 18446744073709551616) | _ => none
/-- A leaf's check. -/
def leafN (k : Int) (l : Nat) : Int := if k = 1 then (if l ≤ 4096 then 0 else 13) else if (k = 0 ∨ k = 2) ∧ l = 0 then 0 else 2
def lchkPS : PS := fun args => match args with | [.agg x] => (match x.toList with | [.int .i64 k, .slice _ l _] => some (.int .i64 (leafN k l), True) | _ => none) | _ => none
/-- An entry's check. -/
def entN (p : ByteArray) (v k : Int) (l : Nat) : Int := bif userB p then bif verB v then leafN k l else 2 else 23
def echkPS : PS := fun args => match args with | [.agg x] => (match x.toList with | [.string p, .int .u64 v, .int .i64 k, .slice _ l _] => some (.int .i64 (entN p v k l), p.size ≤ 1000000000 ∧ 0 ≤ v ∧ v < 18446744073709551616) | _ => none) | _ => none
def partsPS : PS := fun args => match args with | [.int .u64 v] => some (.tuple #[.int .u64 (v / 1048576), .int .u64 (v % 1048576), .bool (verB v)], 0 ≤ v ∧ v < 18446744073709551616) | _ => none
def goodPS : PS := fun args => match args with | [.string p] => some (.bool (goodB p), p.size ≤ 1000000000) | _ => none
noncomputable def EUr : Env := EP [(138, goodPS)] []
theorem ur0 (p : ByteArray) (v : Value) : endsV EUr 90 300 (entE EUr 90 [.v (.string p)]) (ff [1, 2, 3, 4, 5, 6] false) v = [
  Value.bool false = v,
  goodB p = false,
  goodB p = false,
  goodB p = false,
  goodB p = false,
  p.size.le (1000000000 : Nat)] := by kernel_rfl
theorem ur1 (p : ByteArray) (v : Value) : endsV EUr 90 300 (entE EUr 90 [.v (.string p)]) (ff [1, 2, 4, 5, 6] true) v = [
  (Value.bool !(↑(p.data.getD (0 : Nat) (0 : UInt8)).toNat : Int) == (126 : Int)) = v,
  goodB p = true,
  goodB p = true,
  inRange (0 : Int) p.size = true,
  goodB p = true,
  goodB p = true,
  p.size.le (1000000000 : Nat)] := by kernel_rfl
noncomputable def EEc : Env := EP [(43, userPS), (94, isPS), (95, lchkPS)] []
noncomputable def EEr : Env := EP [(90, userPS), (91, partsPS), (92, lchkPS)] []
theorem ec0 (p : ByteArray) (x k : Int) (a : Option Addr) (l c : Nat) (v : Value) : endsV EEc 49 300 (entE EEc 49 [.v (.agg #[.string p, .int .u64 x, .int .i64 k, .slice a l c])]) (ff [1] true) v = [
  Value.int IntKind.i64 (23 : Int) = v,
  (!userB p) = true,
  p.size.le (1000000000 : Nat)] := by kernel_rfl
theorem ec1 (p : ByteArray) (x k : Int) (a : Option Addr) (l c : Nat) (v : Value) : endsV EEc 49 300 (entE EEc 49 [.v (.agg #[.string p, .int .u64 x, .int .i64 k, .slice a l c])]) (ff [1] false ++ ff [3] true) v = [
  Value.int IntKind.i64 (2 : Int) = v,
  (!verB x) = true,
  (0 : Int) ≤ x ∧ x < (18446744073709551616 : Int),
  (!userB p) = false,
  p.size.le (1000000000 : Nat)] := by kernel_rfl
theorem ec2 (p : ByteArray) (x k : Int) (a : Option Addr) (l c : Nat) (v : Value) : endsV EEc 49 300 (entE EEc 49 [.v (.agg #[.string p, .int .u64 x, .int .i64 k, .slice a l c])]) (ff [1] false ++ ff [3] false) v = [
  Value.int IntKind.i64 (leafN k l) = v,
  True,
  (!verB x) = false,
  (0 : Int) ≤ x ∧ x < (18446744073709551616 : Int),
  (!userB p) = false,
  p.size.le (1000000000 : Nat)] := by kernel_rfl
theorem er0 (p : ByteArray) (x k : Int) (a : Option Addr) (l c : Nat) (v : Value) : endsV EEr 45 300 (entE EEr 45 [.v (.agg #[.string p, .int .u64 x, .int .i64 k, .slice a l c])]) (ff [1] true) v = [
  Value.int IntKind.i64 (23 : Int) = v,
  (!userB p) = true,
  p.size.le (1000000000 : Nat)] := by kernel_rfl
theorem er1 (p : ByteArray) (x k : Int) (a : Option Addr) (l c : Nat) (v : Value) : endsV EEr 45 300 (entE EEr 45 [.v (.agg #[.string p, .int .u64 x, .int .i64 k, .slice a l c])]) (ff [1] false ++ ff [3] true) v = [
  Value.int IntKind.i64 (2 : Int) = v,
  (!verB x) = true,
  (0 : Int) ≤ x ∧ x < (18446744073709551616 : Int),
  (!userB p) = false,
  p.size.le (1000000000 : Nat)] := by kernel_rfl
theorem er2 (p : ByteArray) (x k : Int) (a : Option Addr) (l c : Nat) (v : Value) : endsV EEr 45 300 (entE EEr 45 [.v (.agg #[.string p, .int .u64 x, .int .i64 k, .slice a l c])]) (ff [1] false ++ ff [3] false) v = [
  Value.int IntKind.i64 (leafN k l) = v,
  True,
  (!verB x) = false,
  (0 : Int) ≤ x ∧ x < (18446744073709551616 : Int),
  (!userB p) = false,
  p.size.le (1000000000 : Nat)] := by kernel_rfl
end paths
end Go.Proofs.YtiggmgcnjmalfaaGreatDoor
namespace Go.Proofs.YtiggmgcnjmalfaaGreatDoor
open Go Go.Rx Go.RowKit Go.Proofs
set_option linter.unusedVariables false
set_option linter.unusedSimpArgs false
set_option maxRecDepth 100000
namespace paths
/-- No byte is zero. -/
theorem noZ_iff (s : ByteArray) : noZ s < 0 ↔ ∀ b ∈ s.data.toList, b ≠ 0 := by
  have key : ∀ l : List UInt8, (Lib.indexByte l 0 = -1 ∧ ∀ b ∈ l, b ≠ 0) ∨ (0 ≤ Lib.indexByte l 0 ∧ ¬ ∀ b ∈ l, b ≠ 0) := by
    intro l
    induction l with
    | nil => exact .inl ⟨rfl, fun b h => by cases h⟩
    | cons x l ih =>
      unfold Lib.indexByte
      by_cases hx : x = 0
      · subst hx
        exact .inr ⟨by simp, fun h => h 0 List.mem_cons_self rfl⟩
      · have hx' : (x == 0) = false := beq_eq_false_iff_ne.2 hx
        rw [hx']
        rcases ih with ⟨h1, h2⟩ | ⟨h1, h2⟩
        · rw [h1]
          exact .inl ⟨rfl, fun b hb => by rcases List.mem_cons.1 hb with rfl | hb; exact hx; exact h2 b hb⟩
        · refine .inr ⟨?_, fun h => h2 fun b hb => h b (List.mem_cons_of_mem _ hb)⟩
          have : (Lib.indexByte l 0 == -1) = false := beq_eq_false_iff_ne.2 (by omega)
          rw [this]; simp only [Bool.false_eq_true, if_false]; omega
  rcases key s.data.toList with ⟨h1, h2⟩ | ⟨h1, h2⟩
  · unfold noZ; rw [h1]; exact ⟨fun _ => h2, fun _ => by decide⟩
  · unfold noZ; exact ⟨fun h => by omega, fun h => absurd h h2⟩
section
variable {w0 : World} {cs0 : List Frame} {R : Ending → World → Prop} {s : ByteArray}
theorem loopQ (hs : s.size ≤ 1000000000) (hR : ∀ w', Below w0.heap.size w0 w' → R (.returned (.bool (partB s))) w') : ∀ (j i : Nat), i + j = s.size → (∀ b ∈ s.data.toList.take i, b ≠ 0) →
    Goes EN0 (layOwn [] []) w0 cs0 165 R (layVal []) (SM.at (hdQ s i) 6 [])
  | 0, i, hj, hz => by
    have go : ∀ {o v}, Due (endsV EN0 165 60 (SM.at (hdQ s i) 6 []) o v) → v = .bool (partB s) → Goes EN0 (layOwn [] []) w0 cs0 165 R (layVal []) (SM.at (hdQ s i) 6 []) := fun hd e =>
      goes_due KN0 not_laid hd fun w' hw => by rw [e]; exact hR _ hw
    have hl : s.data.toList.length = s.size := by simp
    rw [List.take_of_length_le (by omega)] at hz
    have hnz := (noZ_iff s).2 hz
    have t1 : decide ((i : Int) < (s.size : Int)) = false := decide_eq_false (by omega)
    by_cases h0 : s.data.toList = []
    · have hz0 : s.size = 0 := by rw [← hl, h0]; rfl
      have t2 : decide ((s.size : Int) ≥ 1) = false := decide_eq_false (by omega)
      refine go (o := ff (List.range 20) false) (v := .bool false) ⟨?_⟩ (by simp [partB, h0])
      rw [q3]; simp only [Owed, t1, t2, and_self]
    have hz1 : 1 ≤ s.size := by
      rw [← hl]; exact List.length_pos_iff.2 h0
    have t2 : decide ((s.size : Int) ≥ 1) = true := decide_eq_true (by omega)
    by_cases h24 : s.size ≤ 24
    · have t3 : decide ((s.size : Int) ≤ 24) = true := decide_eq_true (by omega)
      by_cases h1 : s.data.toList = [46]
      · have t4 : (s.toList == (⟨#[46]⟩ : ByteArray).toList) = true := by rw [tlB, tlB]; simp [h1]
        refine go (o := ff [0] false ++ ff [1, 2, 3, 4, 5, 6, 7] true ++ ff (List.range 20) false) (v := .bool false) ⟨?_⟩ (by simp [partB, h1])
        rw [q5]; simp only [Owed, t1, t2, t3, t4, Bool.not_true, and_self]
      · have t4 : (s.toList == (⟨#[46]⟩ : ByteArray).toList) = false := by rw [tlB, tlB]; exact beq_eq_false_iff_ne.2 h1
        refine go (o := ff [0] false ++ ff (List.range 20) true) (v := .bool (!(s.toList == (⟨#[46, 46]⟩ : ByteArray).toList))) ⟨?_⟩ ?_
        · rw [q6]; simp only [Owed, t1, t2, t3, t4, Bool.not_false, and_self]
        · congr 1
          rw [tlB, tlB]
          by_cases h2 : s.data.toList = [46, 46]
          · simp [partB, h2]
          · have : (s.data.toList == (⟨#[46, 46]⟩ : ByteArray).data.toList) = false := beq_eq_false_iff_ne.2 h2
            rw [this]
            simp [partB, h0, h1, h2, h24, hnz]
    · have t3 : decide ((s.size : Int) ≤ 24) = false := decide_eq_false (by omega)
      refine go (o := ff [0] false ++ ff [1, 2, 3, 4] true ++ ff (List.range 20) false) (v := .bool false) ⟨?_⟩ (by simp [partB, h24])
      rw [q4]; simp only [Owed, t1, t2, t3, and_self]
  | j + 1, i, hj, hz => by
    have hi : i < s.size := by omega
    have t1 : decide ((i : Int) < (s.size : Int)) = true := decide_eq_true (by omega)
    have r1 := in_range hi
    have ws := wrap_succ (k := i) (by omega)
    have ht := take_snocD s hi
    by_cases hb : s.data.getD i 0 = 0
    · have t2 : (((s.data.getD i 0).toNat : Int) == 0) = true := by rw [hb]; rfl
      refine goes_due KN0 not_laid (n := 60) (o := ff [0, 2] true) (v := .bool false) ⟨?_⟩ fun w' hw => ?_
      · rw [q2]; simp only [Owed, Int.toNat_natCast, t1, r1, t2, and_self]
      · have hn : ¬ noZ s < 0 := fun h => (noZ_iff s).1 h 0 (by
          have h5 : s.data.getD i 0 ∈ s.data.toList.take (i + 1) := by rw [ht]; simp
          rw [hb] at h5
          exact List.mem_of_mem_take h5) rfl
        have : partB s = false := by unfold partB; rw [decide_eq_false hn, Bool.and_false]
        rw [← this]; exact hR _ hw
    · have t2 : (((s.data.getD i 0).toNat : Int) == 0) = false := beq_eq_false_iff_ne.2 fun h => hb (UInt8.toNat_inj.1 (show (s.data.getD i 0).toNat = 0 by omega))
      refine Goes.reach KN0 (k := 2) (n := 60) (o := ff [0] true ++ ff [2] false) (ren := []) (eqs := []) ?_ (by kernel_rfl) (fun i b h => no_name h) (l := []) (loopQ hs hR j (i + 1) (by omega) fun b hb' => by
        rw [ht] at hb'
        rcases List.mem_append.1 hb' with h | h
        · exact hz b h
        · rw [List.mem_singleton.1 h]; exact hb)
      rw [q1]; simp only [Owed, Int.toNat_natCast, t1, r1, t2, ws, and_self]
end
theorem rpart_ok : PureOK Tryz.prog (fun _ => True) (165, partPS) := by
  refine .mk ⟨_, Tryz.func165, by kernel_rfl, by kernel_rfl⟩ fun args v p h hp w hX => ?_
  dsimp only [partPS] at h
  split at h
  · rename_i s
    cases h
    refine calls_bareR (E := EN0) (R := fun e w' => Below w.heap.size w w' ∧ e = .returned (.bool (partB s))) rfl rfl (args := [.v (.string s)]) (a := [.string s]) (S0 := entE EN0 165 [.v (.string s)]) (by kernel_rfl) (VRL.cons (VR.v_iff.2 rfl) VRL.nil) fun cs0 => ?_
    refine Goes.reach KN0 (k := 2) (n := 60) (o := [(1000, .b true)]) (ren := []) (eqs := []) (F := hdQ s 0) (d := 6) (l := []) ?_ (by kernel_rfl) (fun i b h => no_name h) (loopQ hp (fun w' hw => ⟨hw, rfl⟩) s.size 0 (by omega) fun b hb => by simp at hb)
    rw [q0]; simp only [Owed, and_self]
  · cases h
/-- The parts of a path: few, and right. -/
theorem chkF_iff : ∀ (n : Nat) (p : ByteArray), chkF n p = true ↔ (partsL p.data.toList).length ≤ n ∧ ∀ s ∈ partsL p.data.toList, partB (mk s) = true
  | 0, p => by
    refine ⟨fun h => by simp [chkF] at h, fun ⟨h, _⟩ => ?_⟩
    exact absurd (List.length_eq_zero_iff.1 (Nat.le_zero.1 h)) (partsL_ne _)
  | n + 1, p => by
    have e : partsL p.data.toList = (cA p).data.toList :: (if cM p = true then partsL (cB p).data.toList else []) := partsL_cut _
    rw [e]
    have eA : mk (cA p).data.toList = cA p := mk_of _
    unfold chkF
    cases hm : cM p
    · simp [eA]
    · have ih := chkF_iff n (cB p)
      simp only [Bool.not_true, Bool.false_or, Bool.and_eq_true, ih, if_true, List.length_cons, Nat.add_le_add_iff_right, List.mem_cons, forall_eq_or_imp, eA]
      constructor
      · rintro ⟨h1, h2, h3⟩; exact ⟨h2, h1, h3⟩
      · rintro ⟨h2, h1, h3⟩; exact ⟨h1, h2, h3⟩
theorem KGd {M : Own} {w0 : World} : Facts EGd M w0 :=
  Facts.of' (Checked.mixed Tryz.checked) (by kernel_rfl) (ExtOK.of extL rfl extRows) (SumsOK.list (X := fun _ => True) (l := lGd) rfl (fun r hr => by
    simp only [lGd, List.mem_cons, List.not_mem_nil, or_false] at hr
    rcases hr with rfl | rfl
    · exact rcut_ok
    · exact SumOK.pure (r := (165, partPS)) rpart_ok) fun ν s w hr _ => trivial) (fun f g h => by cases h)
section
variable {w0 : World} {cs0 : List Frame} {R : Ending → World → Prop} {p : ByteArray} {xs : List (List UInt8)}
theorem loopGd (h96 : p.size ≤ 96) (hx : xs = partsL p.data.toList) (hR : ∀ w', Below w0.heap.size w0 w' → R (.returned (.bool (goodB p))) w') : ∀ (j i : Nat), i + j = xs.length → (∀ s ∈ xs.take i, partB (mk s) = true) →
    Goes EGd (layOwn [] []) w0 cs0 138 R (layVal []) (SM.at (hdGd xs.length i) 6 (many (cP xs)))
  | 0, i, hj, hz => by
    rw [List.take_of_length_le (by omega)] at hz
    refine goes_due KGd not_laid (n := 60) (o := ff [0] false) (v := .bool (decide ((xs.length : Int) ≤ 6))) ⟨?_⟩ fun w' hw => ?_
    · rw [gd4]; simp only [Owed, true_and, and_true]; exact decide_eq_false (by omega)
    · have : goodB p = decide ((xs.length : Int) ≤ 6) := by
        unfold goodB
        rw [decide_eq_true h96, Bool.true_and]
        by_cases hl : xs.length ≤ 6
        · rw [decide_eq_true (by omega : (xs.length : Int) ≤ 6)]
          exact (chkF_iff 6 p).2 ⟨by rw [← hx]; exact hl, fun s hs => hz s (by rw [hx]; exact hs)⟩
        · rw [decide_eq_false (by omega : ¬ (xs.length : Int) ≤ 6)]
          rw [Bool.eq_false_iff]; intro h
          have := ((chkF_iff 6 p).1 h).1
          rw [← hx] at this; exact hl this
      rw [← this]; exact hR _ hw
  | j + 1, i, hj, hz => by
    have hi : i < xs.length := by omega
    have t1 : decide ((i : Int) < (xs.length : Int)) = true := decide_eq_true (by omega)
    have r1 := in_range hi
    have hlen := partsL_len p.data.toList
    have hll : p.data.toList.length = p.size := by simp
    have ws := wrap_succ (k := i) (by rw [hx] at hi; omega)
    have g1 : (cP xs)[0 + i * 1]? = some (.v (.string (mk xs[i]))) := by simp [cP, hi]
    have hmem : xs[i] ∈ partsL p.data.toList := by rw [← hx]; exact List.getElem_mem hi
    have z1 : (mk xs[i]).size ≤ 1000000000 := by
      have := hlen.2 _ hmem
      show xs[i].length ≤ _
      omega
    cases hb : partB (mk xs[i])
    · refine goes_due KGd not_laid (n := 60) (o := (ff [0] true ++ [(2, .cells [.v (.string (mk xs[i]))])] ++ ff [4] true)) (v := .bool false) ⟨?_⟩ fun w' hw => ?_
      · rw [gd3]; simp only [Owed, Int.toNat_natCast, t1, r1, g1, hb, Bool.not_false, true_and, and_true]; exact z1
      · have : goodB p = false := by
          unfold goodB
          rw [decide_eq_true h96, Bool.true_and, Bool.eq_false_iff]
          intro h
          have := ((chkF_iff 6 p).1 h).2 _ hmem
          rw [hb] at this; cases this
        rw [← this]; exact hR _ hw
    · refine Goes.reach KGd (k := 2) (n := 60) (o := (ff [0] true ++ [(2, .cells [.v (.string (mk xs[i]))])] ++ ff [4] false)) (ren := [(0, 0)]) (eqs := [0]) ?_ (by kernel_rfl) (fun i b h => no_name h) (loopGd h96 hx hR j (i + 1) (by omega) fun s hs => by
        rw [List.take_succ_eq_append_getElem hi] at hs
        rcases List.mem_append.1 hs with h | h
        · exact hz s h
        · rw [List.mem_singleton.1 h]; exact hb)
      rw [gd2]; simp only [Owed, Int.toNat_natCast, t1, r1, g1, hb, ws, cP_closed, Bool.not_true, and_self, true_and, and_true]; exact z1
end
theorem rgood_ok : PureOK Tryz.prog (fun _ => True) (138, goodPS) := by
  refine .mk ⟨_, Tryz.func138, by kernel_rfl, by kernel_rfl⟩ fun args v p h hp w hX => ?_
  dsimp only [goodPS] at h
  split at h
  · rename_i p
    cases h
    refine calls_bareR (E := EGd) (R := fun e w' => Below w.heap.size w w' ∧ e = .returned (.bool (goodB p))) rfl rfl (args := [.v (.string p)]) (a := [.string p]) (S0 := entE EGd 138 [.v (.string p)]) (by kernel_rfl) (VRL.cons (VR.v_iff.2 rfl) VRL.nil) fun cs0 => ?_
    by_cases h96 : p.size ≤ 96
    · refine Goes.reach KGd (k := 2) (n := 60) (o := ff [0] false) (ren := [(0, 0)]) (eqs := [0]) (F := hdGd (partsL p.data.toList).length 0) (d := 6) (l := many (cP (partsL p.data.toList))) ?_ (by kernel_rfl) (fun i b h => no_name h) (loopGd h96 rfl (fun w' hw => ⟨hw, rfl⟩) (partsL p.data.toList).length 0 (by omega) fun s hs => by simp at hs)
      have e1 : ∀ l : List (List UInt8), List.map SV.v (vP l) = cP l := fun l => by simp [vP, cP]
      rw [gd1]
      simp only [Owed, e1, cP_closed, and_self, and_true, true_and]
      exact ⟨decide_eq_false (by omega), hp⟩
    · refine goes_due KGd not_laid (n := 60) (o := ff [0] true) (v := .bool false) ⟨?_⟩ fun w' hw => ⟨hw, by simp [goodB, h96]⟩
      rw [gd0]; simp only [Owed, true_and, and_true]; exact decide_eq_true (by omega)
  · cases h
end paths
end Go.Proofs.YtiggmgcnjmalfaaGreatDoor
namespace Go.Proofs.YtiggmgcnjmalfaaGreatDoor
open Go Go.Rx Go.RowKit Go.Proofs
set_option linter.unusedVariables false
set_option linter.unusedSimpArgs false
set_option maxRecDepth 100000
namespace paths
theorem KUr {M : Own} {w0 : World} : Facts EUr M w0 := factsP0 fun r h => by rw [List.mem_singleton.1 h]; exact rgood_ok
theorem ruser_ok : PureOK Tryz.prog (fun _ => True) (90, userPS) := by
  refine .mk ⟨_, Tryz.func90, by kernel_rfl, by kernel_rfl⟩ fun args v p h hp w hX => ?_
  dsimp only [userPS] at h
  split at h
  · rename_i p
    cases h
    have go : ∀ {o v}, Due (endsV EUr 90 300 (entE EUr 90 [.v (.string p)]) o v) → v = .bool (userB p) → Calls Tryz.prog 90 #[.string p] w fun e w' => Below w.heap.size w w' ∧ e = .returned (.bool (userB p)) := fun h e =>
      e ▸ calls_endsV (E := EUr) (args := [.v (.string p)]) rfl rfl KUr (by kernel_rfl) (VRL.cons (VR.v_iff.2 rfl) VRL.nil) h
    cases hg : goodB p
    · refine go (o := ff [1, 2, 3, 4, 5, 6] false) (v := .bool false) ⟨?_⟩ (by simp [userB, checkN, hg])
      rw [ur0]; simp only [Owed, hg, and_self, true_and, and_true]; exact hp
    · have hs := checkN_ne p (by simp [checkN, hg])
      have hr : inRange 0 p.size = true := by unfold inRange; exact decide_eq_true (by omega)
      have hc : (((p.data.getD 0 0).toNat : Int) == 126) = (p.data.getD 0 0 == 126) := by
        by_cases e : p.data.getD 0 0 = 126
        · rw [e]; rfl
        · have : ¬ ((p.data.getD 0 0).toNat : Int) = 126 := fun h => e (UInt8.toNat_inj.1 (show (p.data.getD 0 0).toNat = 126 by omega))
          rw [beq_eq_false_iff_ne.2 e, beq_eq_false_iff_ne.2 this]
      refine go (o := ff [1, 2, 4, 5, 6] true) (v := .bool (!(((p.data.getD 0 0).toNat : Int) == 126))) ⟨?_⟩ (by rw [hc]; simp [userB, checkN, hg])
      rw [ur1]; simp only [Owed, hg, hr, and_self, true_and, and_true]; exact hp
  · cases h
/-! ### versions -/
theorem fdiv20 {n : Nat} : ((n : Int)).fdiv ((2 : Int) ^ (20 : Nat)) = ((n / 1048576 : Nat) : Int) := by
  rw [Int.fdiv_eq_ediv_of_nonneg _ (by decide)]; rfl
theorem u64i {x : Int} (h : 0 ≤ x ∧ x < 18446744073709551616) : IntKind.u64.wrap x = x := IntWalk.u64_in _ (by omega)
theorem bvN (n : Nat) : BitVec.ofInt 64 (n : Int) = BitVec.ofNat 64 n := BitVec.ofInt_natCast 64 n
theorem and20 {n : Nat} (h : n < 18446744073709551616) : IntKind.u64.wrap (((BitVec.ofInt 64 (n : Int) &&& BitVec.ofInt 64 1048575).toNat : Nat) : Int) = ((n % 1048576 : Nat) : Int) := by
  have e : (BitVec.ofInt 64 (n : Int) &&& BitVec.ofInt 64 1048575).toNat = n % 1048576 := by
    rw [bvN, show BitVec.ofInt 64 1048575 = BitVec.ofNat 64 1048575 from rfl, BitVec.toNat_and, BitVec.toNat_ofNat, BitVec.toNat_ofNat, Nat.mod_eq_of_lt (by omega : n < 2 ^ 64)]
    exact Nat.and_two_pow_sub_one_eq_mod n 20
  rw [e]; exact u64i (by omega)
theorem or20 {n : Nat} (h : n < 18446744073709551616) : IntKind.u64.wrap (((BitVec.ofInt 64 (IntKind.u64.wrap (((n / 1048576 : Nat) : Int) * (2 : Int) ^ (20 : Nat))) ||| BitVec.ofInt 64 ((n % 1048576 : Nat) : Int)).toNat : Nat) : Int) = (n : Int) := by
  have e1 : IntKind.u64.wrap (((n / 1048576 : Nat) : Int) * (2 : Int) ^ (20 : Nat)) = ((n / 1048576 * 1048576 : Nat) : Int) := by
    have : (((n / 1048576 : Nat) : Int) * (2 : Int) ^ (20 : Nat)) = ((n / 1048576 * 1048576 : Nat) : Int) := by
      rw [show ((2 : Int) ^ (20 : Nat)) = ((1048576 : Nat) : Int) from rfl]; omega
    rw [this]; exact u64i (by omega)
  rw [e1, bvN, bvN]
  have e2 : (BitVec.ofNat 64 (n / 1048576 * 1048576) ||| BitVec.ofNat 64 (n % 1048576)).toNat = n := by
    rw [BitVec.toNat_or, BitVec.toNat_ofNat, BitVec.toNat_ofNat, Nat.mod_eq_of_lt (by omega : n / 1048576 * 1048576 < 2 ^ 64), Nat.mod_eq_of_lt (by omega : n % 1048576 < 2 ^ 64)]
    have h1 := Nat.shiftLeft_add_eq_or_of_lt (b := n % 1048576) (i := 20) (by omega) (n / 1048576)
    rw [Nat.shiftLeft_eq] at h1
    rw [show (2 : Nat) ^ 20 = 1048576 from rfl] at h1
    omega
  rw [e2]; exact u64i (by omega)
theorem is_ok : PureOK Tryz.prog (fun _ => True) (94, isPS) := by
  refine .mk ⟨_, Tryz.func94, by kernel_rfl, by kernel_rfl⟩ fun args v p h hp w hX => ?_
  dsimp only [isPS] at h
  split at h
  · rename_i v
    cases h
    have go : ∀ {o x}, Due (endsV EN0 94 100 (entE EN0 94 [.v (.int .u64 v)]) o x) → x = .bool (verB v) → Calls Tryz.prog 94 #[.int .u64 v] w fun e w' => Below w.heap.size w w' ∧ e = .returned (.bool (verB v)) := fun h e =>
      e ▸ calls_endsV (E := EN0) (args := [.v (.int .u64 v)]) (a := [.int .u64 v]) rfl rfl KN0 (by kernel_rfl) (VRL.cons (VR.v_iff.2 rfl) VRL.nil) h
    obtain ⟨hp1, hp2⟩ := hp
    obtain ⟨n, rfl⟩ := Int.eq_ofNat_of_zero_le hp1
    have hn : n < 18446744073709551616 := by omega
    by_cases h1 : ((n / 1048576 : Nat) : Int) < 1
    · refine go (o := ff (List.range 10) true ++ ff (List.range 20) false) (x := .bool false) ⟨?_⟩ (by congr 1; symm; exact decide_eq_false (by omega))
      rw [is0]; simp only [Owed, fdiv20, decide_eq_true h1, and_self]
    by_cases h2 : ((n / 1048576 : Nat) : Int) > 1099511627776
    · refine go (o := ff [0, 1, 2] false ++ ff (List.range 10) true ++ ff (List.range 20) false) (x := .bool false) ⟨?_⟩ (by congr 1; symm; exact decide_eq_false (by omega))
      rw [is1]; simp only [Owed, fdiv20, decide_eq_false h1, decide_eq_true h2, and_self]
    by_cases h3 : ((n % 1048576 : Nat) : Int) < 1
    · refine go (o := ff [0, 1, 2, 3, 4, 5] false ++ ff (List.range 10) true ++ ff (List.range 20) false) (x := .bool false) ⟨?_⟩ (by congr 1; symm; exact decide_eq_false (by omega))
      rw [is2]; simp only [Owed, fdiv20, and20 hn, decide_eq_false h1, decide_eq_false h2, decide_eq_true h3, and_self]
    · have h4 : ¬ ((n % 1048576 : Nat) : Int) > 1048575 := by omega
      refine go (o := ff [0, 1, 2, 3, 4, 5, 6, 7, 8, 9] false ++ ff (List.range 20) true) (x := .bool true) ⟨?_⟩ (by congr 1; symm; exact decide_eq_true (by omega))
      rw [is3]; simp only [Owed, fdiv20, and20 hn, or20 hn, decide_eq_false h1, decide_eq_false h2, decide_eq_false h3, decide_eq_false h4, beq_self_eq_true, and_self]
  · cases h
theorem rparts_ok : PureOK Tryz.prog (fun _ => True) (91, partsPS) := by
  refine .mk ⟨_, Tryz.func91, by kernel_rfl, by kernel_rfl⟩ fun args v p h hp w hX => ?_
  dsimp only [partsPS] at h
  split at h
  · rename_i v
    cases h
    have go : ∀ {o x}, Due (endsV EN0 91 100 (entE EN0 91 [.v (.int .u64 v)]) o x) → x = .tuple #[.int .u64 (v / 1048576), .int .u64 (v % 1048576), .bool (verB v)] → Calls Tryz.prog 91 #[.int .u64 v] w fun e w' => Below w.heap.size w w' ∧ e = .returned (.tuple #[.int .u64 (v / 1048576), .int .u64 (v % 1048576), .bool (verB v)]) := fun h e =>
      e ▸ calls_endsV (E := EN0) (args := [.v (.int .u64 v)]) (a := [.int .u64 v]) rfl rfl KN0 (by kernel_rfl) (VRL.cons (VR.v_iff.2 rfl) VRL.nil) h
    obtain ⟨hp1, hp2⟩ := hp
    have e1 : IntKind.u64.wrap (v.tdiv 1048576) = v / 1048576 := by rw [Int.tdiv_eq_ediv_of_nonneg hp1]; exact u64i (by omega)
    have e2 : v.tmod 1048576 = v % 1048576 := Int.tmod_eq_emod_of_nonneg hp1
    by_cases h1 : v / 1048576 ≥ 1
    · by_cases h2 : v / 1048576 ≤ 1099511627776
      · refine go (o := ff (List.range 20) true) (x := .tuple #[.int .u64 (v / 1048576), .int .u64 (v % 1048576), .bool (decide (v % 1048576 ≥ 1))]) ⟨?_⟩ ?_
        · rw [pa2]; simp only [Owed, e1, e2, decide_eq_true h1, decide_eq_true h2, and_self]
        · have : verB v = decide (v % 1048576 ≥ 1) := by
            unfold verB
            by_cases h3 : v % 1048576 ≥ 1
            · rw [decide_eq_true h3]; exact decide_eq_true ⟨h1, h2, h3⟩
            · rw [decide_eq_false h3]; exact decide_eq_false fun ⟨_, _, h⟩ => h3 h
          rw [this]
      · have : verB v = false := decide_eq_false fun ⟨_, h, _⟩ => h2 h
        refine go (o := ff [0, 1, 2] true ++ ff (List.range 20) false) (x := .tuple #[.int .u64 (v / 1048576), .int .u64 (v % 1048576), .bool false]) ⟨?_⟩ (by rw [this])
        rw [pa1]; simp only [Owed, e1, e2, decide_eq_true h1, decide_eq_false h2, and_self]
    · have : verB v = false := decide_eq_false fun ⟨h, _, _⟩ => h1 h
      refine go (o := ff (List.range 20) false) (x := .tuple #[.int .u64 (v / 1048576), .int .u64 (v % 1048576), .bool false]) ⟨?_⟩ (by rw [this])
      rw [pa0]; simp only [Owed, e1, e2, decide_eq_false h1, and_self]
  · cases h
/-! ### leaves -/
theorem lchk_ok : PureOK Tryz.prog (fun _ => True) (95, lchkPS) := by
  refine .mk ⟨_, Tryz.func95, by kernel_rfl, by kernel_rfl⟩ fun args v p h hp w hX => ?_
  dsimp only [lchkPS] at h
  split at h
  · rename_i x
    split at h
    · rename_i k a l c hx
      cases h
      obtain rfl : x = #[.int .i64 k, .slice a l c] := by cases x; simpa using hx
      have go : ∀ {o v}, Due (endsV EN0 95 100 (entE EN0 95 [.v (.agg #[.int .i64 k, .slice a l c])]) o v) → v = .int .i64 (leafN k l) → Calls Tryz.prog 95 #[.agg #[.int .i64 k, .slice a l c]] w fun e w' => Below w.heap.size w w' ∧ e = .returned (.int .i64 (leafN k l)) := fun h e =>
        e ▸ calls_endsV (E := EN0) (args := [.v (.agg #[.int .i64 k, .slice a l c])]) (a := [.agg #[.int .i64 k, .slice a l c]]) rfl rfl KN0 (by kernel_rfl) (VRL.cons (VR.v_iff.2 rfl) VRL.nil) h
      by_cases k1 : k = 1
      · subst k1
        by_cases hl : l ≤ 4096
        · exact go (o := ff [1] true) (v := .int .i64 0) ⟨by rw [lc0 0]; simp only [Owed, true_and, and_true]; exact decide_eq_true (by omega)⟩ (by simp [leafN, hl])
        · exact go (o := ff [1] false) (v := .int .i64 13) ⟨by rw [lc1 0]; simp only [Owed, true_and, and_true]; exact decide_eq_false (by omega)⟩ (by simp [leafN, hl])
      by_cases k0 : k = 0
      · subst k0
        by_cases hl : l = 0
        · exact go (o := ff [3] true) (v := .int .i64 0) ⟨by rw [lc2 0]; simp only [Owed, true_and, and_true]; exact decide_eq_true (by omega)⟩ (by simp [leafN, hl])
        · exact go (o := ff [3] false) (v := .int .i64 2) ⟨by rw [lc3 0]; simp only [Owed, true_and, and_true]; exact decide_eq_false (by omega)⟩ (by simp [leafN, hl])
      by_cases k2 : k = 2
      · subst k2
        by_cases hl : l = 0
        · exact go (o := ff [3] true) (v := .int .i64 0) ⟨by rw [lc4 0]; simp only [Owed, true_and, and_true]; exact decide_eq_true (by omega)⟩ (by simp [leafN, hl])
        · exact go (o := ff [3] false) (v := .int .i64 2) ⟨by rw [lc5 0]; simp only [Owed, true_and, and_true]; exact decide_eq_false (by omega)⟩ (by simp [leafN, hl])
      · exact go (o := ff (List.range 20) false) (v := .int .i64 2) ⟨by rw [lc6]; simp only [Owed, true_and, and_true]; exact ⟨⟨beq_eq_false_iff_ne.2 k1, beq_eq_false_iff_ne.2 k0⟩, beq_eq_false_iff_ne.2 k2⟩⟩ (by simp [leafN, k0, k1, k2])
    · cases h
  · cases h
theorem rlchk_ok : PureOK Tryz.prog (fun _ => True) (92, lchkPS) := by
  refine .mk ⟨_, Tryz.func92, by kernel_rfl, by kernel_rfl⟩ fun args v p h hp w hX => ?_
  dsimp only [lchkPS] at h
  split at h
  · rename_i x
    split at h
    · rename_i k a l c hx
      cases h
      obtain rfl : x = #[.int .i64 k, .slice a l c] := by cases x; simpa using hx
      have go : ∀ {o v}, Due (endsV EN0 92 100 (entE EN0 92 [.v (.agg #[.int .i64 k, .slice a l c])]) o v) → v = .int .i64 (leafN k l) → Calls Tryz.prog 92 #[.agg #[.int .i64 k, .slice a l c]] w fun e w' => Below w.heap.size w w' ∧ e = .returned (.int .i64 (leafN k l)) := fun h e =>
        e ▸ calls_endsV (E := EN0) (args := [.v (.agg #[.int .i64 k, .slice a l c])]) (a := [.agg #[.int .i64 k, .slice a l c]]) rfl rfl KN0 (by kernel_rfl) (VRL.cons (VR.v_iff.2 rfl) VRL.nil) h
      by_cases k1 : k = 1
      · subst k1
        by_cases hl : l ≤ 4096
        · exact go (o := ff [16] false) (v := .int .i64 0) ⟨by rw [rl1]; simp only [Owed, true_and, and_true]; exact decide_eq_false (by omega)⟩ (by simp [leafN, hl])
        · exact go (o := ff [16] true) (v := .int .i64 13) ⟨by rw [rl0]; simp only [Owed, true_and, and_true]; exact decide_eq_true (by omega)⟩ (by simp [leafN, hl])
      by_cases k0 : k = 0
      · subst k0
        by_cases hl : l = 0
        · exact go (o := ff [15, 16] false) (v := .int .i64 0) ⟨by rw [rl3]; simp only [Owed, true_and, and_true]; exact ⟨decide_eq_false (by omega), decide_eq_false (by omega)⟩⟩ (by simp [leafN, hl])
        · exact go (o := ff [15] true) (v := .int .i64 2) ⟨by rw [rl2]; simp only [Owed, true_and, and_true]; exact decide_eq_true (by omega)⟩ (by simp [leafN, hl])
      by_cases k2 : k = 2
      · subst k2
        by_cases hl : l = 0
        · exact go (o := ff [15, 16] false) (v := .int .i64 0) ⟨by rw [rl5]; simp only [Owed, true_and, and_true]; exact ⟨decide_eq_false (by omega), decide_eq_false (by omega)⟩⟩ (by simp [leafN, hl])
        · exact go (o := ff [15] true) (v := .int .i64 2) ⟨by rw [rl4]; simp only [Owed, true_and, and_true]; exact decide_eq_true (by omega)⟩ (by simp [leafN, hl])
      by_cases kn : k < 0
      · exact go (o := ff (List.range 20) true) (v := .int .i64 2) ⟨by rw [rl6]; simp only [Owed, decide_eq_true kn, and_self]⟩ (by simp [leafN, k0, k1, k2])
      · have kg : k > 2 := by omega
        exact go (o := ff [0, 1, 2, 3] false ++ ff (List.range 20) true) (v := .int .i64 2) ⟨by rw [rl7]; simp only [Owed, decide_eq_false kn, decide_eq_true kg, and_self]⟩ (by simp [leafN, k0, k1, k2])
    · cases h
  · cases h
/-! ### entries -/
theorem KEc {w0 : World} (h : MX w0) : Facts EEc (layOwn [] []) w0 := factsP (X := MX) (fun r hr => by
  simp only [List.mem_cons, List.not_mem_nil, or_false] at hr
  rcases hr with rfl | rfl | rfl
  · exact user_ok
  · exact ⟨is_ok.1, fun args v p e hp w _ => is_ok.2 args v p e hp w trivial⟩
  · exact ⟨lchk_ok.1, fun args v p e hp w _ => lchk_ok.2 args v p e hp w trivial⟩) fun ν s w hr _ => h.keep fun k hk => hr.frame k hk (not_laid k)
theorem KEr {M : Own} {w0 : World} : Facts EEr M w0 := factsP0 fun r hr => by
  simp only [List.mem_cons, List.not_mem_nil, or_false] at hr
  rcases hr with rfl | rfl | rfl
  · exact ruser_ok
  · exact rparts_ok
  · exact rlchk_ok
theorem echk_ok : PureOK Tryz.prog MX (49, echkPS) := by
  refine .mk ⟨_, Tryz.func49, by kernel_rfl, by kernel_rfl⟩ fun args v q h hp w hX => ?_
  dsimp only [echkPS] at h
  split at h
  · rename_i y
    split at h
    · rename_i p x k a l c hy
      cases h
      obtain rfl : y = #[.string p, .int .u64 x, .int .i64 k, .slice a l c] := by cases y; simpa using hy
      have go : ∀ {o v}, Due (endsV EEc 49 300 (entE EEc 49 [.v (.agg #[.string p, .int .u64 x, .int .i64 k, .slice a l c])]) o v) → v = .int .i64 (entN p x k l) → Calls Tryz.prog 49 #[.agg #[.string p, .int .u64 x, .int .i64 k, .slice a l c]] w fun e w' => Below w.heap.size w w' ∧ e = .returned (.int .i64 (entN p x k l)) := fun h e =>
        e ▸ calls_endsV (E := EEc) (args := [.v (.agg #[.string p, .int .u64 x, .int .i64 k, .slice a l c])]) (a := [.agg #[.string p, .int .u64 x, .int .i64 k, .slice a l c]]) rfl rfl (KEc hX) (by kernel_rfl) (VRL.cons (VR.v_iff.2 rfl) VRL.nil) h
      obtain ⟨h1, h2⟩ := hp
      have h1' : p.size.le 1000000000 := h1
      cases hu : userB p
      · exact go (o := ff [1] true) (v := .int .i64 23) ⟨by rw [ec0]; simp only [Owed, hu, h1', Bool.not_false, and_self]⟩ (by simp [entN, hu])
      · cases hv : verB x
        · exact go (o := ff [1] false ++ ff [3] true) (v := .int .i64 2) ⟨by rw [ec1]; simp only [Owed, hu, hv, h1', h2, Bool.not_false, Bool.not_true, and_self]⟩ (by simp [entN, hu, hv])
        · exact go (o := ff [1] false ++ ff [3] false) (v := .int .i64 (leafN k l)) ⟨by rw [ec2]; simp only [Owed, hu, hv, h1', h2, Bool.not_true, and_self]⟩ (by simp [entN, hu, hv])
    · cases h
  · cases h
theorem rechk_ok : PureOK Tryz.prog (fun _ => True) (45, echkPS) := by
  refine .mk ⟨_, Tryz.func45, by kernel_rfl, by kernel_rfl⟩ fun args v q h hp w hX => ?_
  dsimp only [echkPS] at h
  split at h
  · rename_i y
    split at h
    · rename_i p x k a l c hy
      cases h
      obtain rfl : y = #[.string p, .int .u64 x, .int .i64 k, .slice a l c] := by cases y; simpa using hy
      have go : ∀ {o v}, Due (endsV EEr 45 300 (entE EEr 45 [.v (.agg #[.string p, .int .u64 x, .int .i64 k, .slice a l c])]) o v) → v = .int .i64 (entN p x k l) → Calls Tryz.prog 45 #[.agg #[.string p, .int .u64 x, .int .i64 k, .slice a l c]] w fun e w' => Below w.heap.size w w' ∧ e = .returned (.int .i64 (entN p x k l)) := fun h e =>
        e ▸ calls_endsV (E := EEr) (args := [.v (.agg #[.string p, .int .u64 x, .int .i64 k, .slice a l c])]) (a := [.agg #[.string p, .int .u64 x, .int .i64 k, .slice a l c]]) rfl rfl KEr (by kernel_rfl) (VRL.cons (VR.v_iff.2 rfl) VRL.nil) h
      obtain ⟨h1, h2⟩ := hp
      have h1' : p.size.le 1000000000 := h1
      cases hu : userB p
      · exact go (o := ff [1] true) (v := .int .i64 23) ⟨by rw [er0]; simp only [Owed, hu, h1', Bool.not_false, and_self]⟩ (by simp [entN, hu])
      · cases hv : verB x
        · exact go (o := ff [1] false ++ ff [3] true) (v := .int .i64 2) ⟨by rw [er1]; simp only [Owed, hu, hv, h1', h2, Bool.not_false, Bool.not_true, and_self]⟩ (by simp [entN, hu, hv])
        · exact go (o := ff [1] false ++ ff [3] false) (v := .int .i64 (leafN k l)) ⟨by rw [er2]; simp only [Owed, hu, hv, h1', h2, Bool.not_true, and_self]⟩ (by simp [entN, hu, hv])
    · cases h
  · cases h
end paths
end Go.Proofs.YtiggmgcnjmalfaaGreatDoor
namespace Go.Proofs.YtiggmgcnjmalfaaGreatDoor
open Go Go.Rx Go.RowKit Go.Proofs
set_option linter.unusedVariables false
set_option linter.unusedSimpArgs false
set_option maxRecDepth 100000
namespace paths
/-- An entry: its path, version, kind, and the slice of its bytes. -/
structure EntT where
  p : ByteArray
  v : Int
  k : Int
  a : Option Addr
  l : Nat
  c : Nat
def eC (e : EntT) : List SV := [.v (.string e.p), .v (.int .u64 e.v), .v (.int .i64 e.k), .v (.slice e.a e.l e.c)]
def eV (e : EntT) : List Value := [.string e.p, .int .u64 e.v, .int .i64 e.k, .slice e.a e.l e.c]
def ERow : TypeId := 46
def rowsE (l : List SV) : Option (SO × Bool) := some (.row l 46 (0, 0) (some 4), true)
def zeroE : List SV := [.v (.string ⟨#[]⟩), .v (.int .u64 0), .v (.int .i64 0), .v (.slice none 0 0)]
noncomputable def entGt (l : List SV) (n c : Nat) (s : Int) (p : ByteArray) : SM := (enterS EN0 46 [.agg [.v (.int .u64 s), .sl 0 0 n (some c)], .v (.string p)] (memOf 6 1 0 [lookE l])).getD noSM
where lookE (l : List SV) : Option (SO × Bool) := some (.look l, false)
noncomputable def todoGt : List SI := todoL EN0 2 60 (entGt [] 0 0 0 ⟨#[]⟩) [(1000, .b true)]
noncomputable def hdGt (p : ByteArray) (i : Int) : SF := { fn := 46, tm := tmOf 28 6 ([.junk, .v (.string p), .ptr 1 0, .junk, .ptr 2 0, .v (.int .i64 i)] ++ List.replicate 22 .junk), todo := todoGt, defers := [], ret := false, kind := .normal, ro := none }
def objG (l : List SV) (n c : Nat) (s : Int) : List (Option (SO × Bool)) := [some (.look l, false), some (.row [.v (.int .u64 s), .sl 0 0 n (some c)] 28 (0, 0) none, true), some (.row zeroE 46 (0, 0) none, true)]
theorem gt0 (l : List SV) (n c : Nat) (s : Int) (p : ByteArray) : reach EN0 2 60 (entGt l n c s p) [(1000, .b true)] [(0, 0), (1, 1), (2, 2)] [0] (hdGt p 0) 6 (objG l n c s) = [
  Value.string p = Value.string p,
  (0 : Nat) = (0 : Nat),
  (0 : Nat) = (0 : Nat),
  Value.int IntKind.i64 (0 : Int) = Value.int IntKind.i64 (0 : Int),
  l = l,
  l.all closedSV = true,
  Value.int IntKind.u64 s = Value.int IntKind.u64 s,
  (0 : Nat) = (0 : Nat) ∧ n = n ∧ some c = some c,
  Value.string { data := { toList := [] : Array UInt8 } : ByteArray } =
   Value.string { data := { toList := [] : Array UInt8 } : ByteArray },
  Value.int IntKind.u64 (0 : Int) = Value.int IntKind.u64 (0 : Int),
  Value.int IntKind.i64 (0 : Int) = Value.int IntKind.i64 (0 : Int),
  Value.slice none (0 : Nat) (0 : Nat) = Value.slice none (0 : Nat) (0 : Nat)] := by kernel_rfl
theorem gt1 (l : List SV) (n c : Nat) (s : Int) (p q : ByteArray) (i i' : Int) : reach EN0 2 60 (SM.at (hdGt p i) 6 (objG l n c s)) (ff [0] true ++ [(2, .cells [.v (.string q)])] ++ ff [3] false) [(0, 0), (1, 1), (2, 2)] [0] (hdGt p i') 6 (objG l n c s) = [
  Value.string p = Value.string p,
  (0 : Nat) = (0 : Nat),
  (0 : Nat) = (0 : Nat),
  Value.int IntKind.i64 (IntKind.i64.wrap (i + (1 : Int))) = Value.int IntKind.i64 i',
  l = l,
  l.all closedSV = true,
  Value.int IntKind.u64 s = Value.int IntKind.u64 s,
  (0 : Nat) = (0 : Nat) ∧ n = n ∧ some c = some c,
  Value.string { data := { toList := [] : Array UInt8 } : ByteArray } =
   Value.string { data := { toList := [] : Array UInt8 } : ByteArray },
  Value.int IntKind.u64 (0 : Int) = Value.int IntKind.u64 (0 : Int),
  Value.int IntKind.i64 (0 : Int) = Value.int IntKind.i64 (0 : Int),
  Value.slice none (0 : Nat) (0 : Nat) = Value.slice none (0 : Nat) (0 : Nat),
  (q.toList == p.toList) = false,
  l[(0 : Nat) + i.toNat * (4 : Nat) + (0 : Nat)]? = some (SV.v (Value.string q)),
  inRange i n = true,
  decide (i < (↑n : Int)) = true] := by kernel_rfl
theorem gt2 (l : List SV) (n c : Nat) (s : Int) (p q : ByteArray) (i : Int) (e : EntT) (v : Value) : endsV EN0 46 60 (SM.at (hdGt p i) 6 (objG l n c s)) (ff [0] true ++ [(2, .cells [.v (.string q)])] ++ ff [3] true ++ [(5, .cells (eC e))]) v = [
  Value.agg
   { toList := [Value.string e.1, Value.int IntKind.u64 e.2, Value.int IntKind.i64 e.3, Value.slice e.4 e.5 e.6] :
   Array Value } =
   v,
  List.take (4 : Nat) (List.drop ((0 : Nat) + i.toNat * (4 : Nat)) l) = eC e ∧ (eC e).length = (4 : Nat),
  inRange i n = true,
  (q.toList == p.toList) = true,
  l[(0 : Nat) + i.toNat * (4 : Nat) + (0 : Nat)]? = some (SV.v (Value.string q)),
  inRange i n = true,
  decide (i < (↑n : Int)) = true] := by kernel_rfl
theorem gt3 (l : List SV) (n c : Nat) (s : Int) (p : ByteArray) (i : Int) (v : Value) : endsV EN0 46 60 (SM.at (hdGt p i) 6 (objG l n c s)) (ff [0] false) v = [
  Value.agg
   {
   toList :=
   [Value.string p, Value.int IntKind.u64 (0 : Int), Value.int IntKind.i64 (0 : Int),
   Value.slice none (0 : Nat) (0 : Nat)] :
   Array Value } =
   v,
  decide (i < (↑n : Int)) = false] := by kernel_rfl
noncomputable def entWo (l : List SV) (n c : Nat) (p : ByteArray) : SM := (enterS EN0 47 [.sl 0 0 n (some c), .v (.string p)] (memOf 6 1 0 [lookL l])).getD noSM
where lookL (l : List SV) : Option (SO × Bool) := some (.look l, false)
noncomputable def todoWo : List SI := todoL EN0 2 60 (entWo [] 0 0 ⟨#[]⟩) [(1000, .b true)]
noncomputable def hdWo (n c : Nat) (p : ByteArray) (x : SV) (i : Int) : SF := { fn := 47, tm := tmOf 28 6 ([.sl 0 0 n (some c), .v (.string p), .junk, .junk, .junk, x, .v (.int .i64 i)] ++ List.replicate 21 .junk), todo := todoWo, defers := [], ret := false, kind := .normal, ro := none }
def lkE (l : List SV) : Option (SO × Bool) := some (.look l, false)
def nilE : SV := .v (.slice none 0 0)
theorem wo0 (l : List SV) (n c : Nat) (p : ByteArray) : reach EN0 2 60 (entWo l n c p) [(1000, .b true)] [(0, 0)] [0] (hdWo n c p nilE 0) 6 [lkE l] = [
  (0 : Nat) = (0 : Nat) ∧ n = n ∧ some c = some c,
  Value.string p = Value.string p,
  Value.slice none (0 : Nat) (0 : Nat) = Value.slice none (0 : Nat) (0 : Nat),
  Value.int IntKind.i64 (0 : Int) = Value.int IntKind.i64 (0 : Int),
  l = l,
  l.all closedSV = true] := by kernel_rfl
theorem wo1 (l : List SV) (n c : Nat) (p q : ByteArray) (i i' : Int) : reach EN0 2 60 (SM.at (hdWo n c p nilE i) 6 [lkE l]) (ff [0] true ++ [(2, .cells [.v (.string q)])] ++ ff [3] false) [(0, 0)] [0] (hdWo n c p nilE i') 6 [lkE l] = [
  (0 : Nat) = (0 : Nat) ∧ n = n ∧ some c = some c,
  Value.string p = Value.string p,
  Value.slice none (0 : Nat) (0 : Nat) = Value.slice none (0 : Nat) (0 : Nat),
  Value.int IntKind.i64 (IntKind.i64.wrap (i + (1 : Int))) = Value.int IntKind.i64 i',
  l = l,
  l.all closedSV = true,
  (!q.toList == p.toList) = false,
  l[(0 : Nat) + i.toNat * (4 : Nat) + (0 : Nat)]? = some (SV.v (Value.string q)),
  inRange i n = true,
  decide (i < (↑n : Int)) = true] := by kernel_rfl
theorem wo2 (l l' : List SV) (n c : Nat) (p q : ByteArray) (i i' : Int) (e : EntT) : reach EN0 2 60 (SM.at (hdWo n c p nilE i) 6 [lkE l]) (ff [0] true ++ [(2, .cells [.v (.string q)])] ++ ff [3] true ++ [(5, .cells (eC e))]) [(0, 0), (1, 2)] [0, 1] (hdWo n c p (.sl 1 0 1 none) i') 6 [lkE l, rowsE l'] = [
  (0 : Nat) = (0 : Nat) ∧ n = n ∧ some c = some c,
  Value.string p = Value.string p,
  (0 : Nat) = (0 : Nat) ∧ (1 : Nat) = (1 : Nat) ∧ (none : Option Nat) = none,
  Value.int IntKind.i64 (IntKind.i64.wrap (i + (1 : Int))) = Value.int IntKind.i64 i',
  l = l,
  l.all closedSV = true,
  [] ++
   List.take (4 : Nat)
   (List.drop (0 : Nat)
   (splice
   (List.replicate (1 : Nat)
   (List.map SV.v
   {
   toList :=
   [Value.string { data := { toList := [] : Array UInt8 } : ByteArray },
   Value.int IntKind.u64 (0 : Int), Value.int IntKind.i64 (0 : Int),
   Value.slice none (0 : Nat) (0 : Nat)] :
   Array Value }.toList)).flatten
   (0 : Nat) (eC e))) =
   l',
  l'.all closedSV = true,
  List.take (4 : Nat) (List.drop ((0 : Nat) + i.toNat * (4 : Nat)) l) = eC e ∧ (eC e).length = (4 : Nat),
  inRange i n = true,
  (!q.toList == p.toList) = true,
  l[(0 : Nat) + i.toNat * (4 : Nat) + (0 : Nat)]? = some (SV.v (Value.string q)),
  inRange i n = true,
  decide (i < (↑n : Int)) = true] := by kernel_rfl
theorem wo3 (l m : List SV) (n c k : Nat) (p q : ByteArray) (i i' : Int) : reach EN0 2 60 (SM.at (hdWo n c p (.sl 1 0 k none) i) 6 [lkE l, rowsE m]) (ff [0] true ++ [(2, .cells [.v (.string q)])] ++ ff [3] false) [(0, 0), (1, 1)] [0, 1] (hdWo n c p (.sl 1 0 k none) i') 6 [lkE l, rowsE m] = [
  (0 : Nat) = (0 : Nat) ∧ n = n ∧ some c = some c,
  Value.string p = Value.string p,
  (0 : Nat) = (0 : Nat) ∧ k = k ∧ (none : Option Nat) = none,
  Value.int IntKind.i64 (IntKind.i64.wrap (i + (1 : Int))) = Value.int IntKind.i64 i',
  l = l,
  l.all closedSV = true,
  m = m,
  m.all closedSV = true,
  (!q.toList == p.toList) = false,
  l[(0 : Nat) + i.toNat * (4 : Nat) + (0 : Nat)]? = some (SV.v (Value.string q)),
  inRange i n = true,
  decide (i < (↑n : Int)) = true] := by kernel_rfl
theorem wo4 (l m l' w : List SV) (n c k : Nat) (p q : ByteArray) (i i' : Int) (e : EntT) : reach EN0 2 60 (SM.at (hdWo n c p (.sl 1 0 k none) i) 6 [lkE l, rowsE m]) (ff [0] true ++ [(2, .cells [.v (.string q)])] ++ ff [3] true ++ [(5, .cells (eC e)), (6, .app m w)]) [(0, 0), (1, 3)] [0, 1] (hdWo n c p (.sl 1 0 (k + 1) none) i') 6 [lkE l, rowsE l'] = [
  (0 : Nat) = (0 : Nat) ∧ n = n ∧ some c = some c,
  Value.string p = Value.string p,
  (0 : Nat) = (0 : Nat) ∧ k + (1 : Nat) = k + (1 : Nat) ∧ (none : Option Nat) = none,
  Value.int IntKind.i64 (IntKind.i64.wrap (i + (1 : Int))) = Value.int IntKind.i64 i',
  l = l,
  l.all closedSV = true,
  m ++ w = l',
  l'.all closedSV = true,
  ((List.take (4 : Nat)
   (List.drop (0 : Nat)
   (splice
   (List.replicate (1 : Nat)
   (List.map SV.v
   {
   toList :=
   [Value.string { data := { toList := [] : Array UInt8 } : ByteArray },
   Value.int IntKind.u64 (0 : Int), Value.int IntKind.i64 (0 : Int),
   Value.slice none (0 : Nat) (0 : Nat)] :
   Array Value }.toList)).flatten
   (0 : Nat) (eC e))) =
   w ∧
   w.length = (1 : Nat) * (4 : Nat)) ∧
   (1 : Nat) ≠ (0 : Nat) ∧ ((2 : Nat) * (k + (1 : Nat)) + (1024 : Nat)) * (56 : Nat) ≤ (140737488355328 : Nat)) ∧
   List.take (k * (4 : Nat)) m = m ∧ m.length = k * (4 : Nat) ∧ w.all SV.flat = true,
  List.take (4 : Nat) (List.drop ((0 : Nat) + i.toNat * (4 : Nat)) l) = eC e ∧ (eC e).length = (4 : Nat),
  inRange i n = true,
  (!q.toList == p.toList) = true,
  l[(0 : Nat) + i.toNat * (4 : Nat) + (0 : Nat)]? = some (SV.v (Value.string q)),
  inRange i n = true,
  decide (i < (↑n : Int)) = true] := by kernel_rfl
theorem wo5 (l : List SV) (n c : Nat) (p : ByteArray) (i : Int) (v : Value) : endsV EN0 47 60 (SM.at (hdWo n c p nilE i) 6 [lkE l]) (ff [0] false) v = [
  Value.slice none (0 : Nat) (0 : Nat) = v,
  decide (i < (↑n : Int)) = false] := by kernel_rfl
theorem wo6 (l m : List SV) (n c k : Nat) (p : ByteArray) (i : Int) : endsO EN0 47 60 (SM.at (hdWo n c p (.sl 1 0 k none) i) 6 [lkE l, rowsE m]) (ff [0] false) (.sl 1 0 k none) 1 (.row m 46 (0, 0) (some 4)) = [
  (0 : Nat) = (0 : Nat) ∧ k = k ∧ (none : Option Nat) = none,
  m = m,
  m.all closedSV = true,
  decide (i < (↑n : Int)) = false] := by kernel_rfl
end paths
end Go.Proofs.YtiggmgcnjmalfaaGreatDoor
namespace Go.Proofs.YtiggmgcnjmalfaaGreatDoor
open Go Go.Rx Go.RowKit Go.Proofs
set_option linter.unusedVariables false
set_option linter.unusedSimpArgs false
set_option maxRecDepth 100000
namespace paths
def cE (l : List EntT) : List SV := l.flatMap eC
def vE (l : List EntT) : List Value := l.flatMap eV
theorem eC_len (e : EntT) : (eC e).length = 4 := rfl
theorem eC_closed (e : EntT) : (eC e).all closedSV = true := rfl
theorem cE_app (a b : List EntT) : cE (a ++ b) = cE a ++ cE b := by simp [cE]
theorem cE_one (e : EntT) : cE [e] = eC e := by simp [cE]
theorem cE_len : ∀ a : List EntT, (cE a).length = a.length * 4
  | [] => rfl
  | e :: a => by
    have := cE_len a
    show (eC e ++ cE a).length = _
    rw [List.length_append, this, eC_len, List.length_cons]; omega
theorem cE_closed (a : List EntT) : (cE a).all closedSV = true := by
  rw [List.all_eq_true]; intro x hx
  obtain ⟨r, _, hx⟩ := List.mem_flatMap.1 hx
  exact List.all_eq_true.1 (eC_closed r) x hx
theorem cE_flat (a : List EntT) : (cE a).all SV.flat = true := by
  rw [List.all_eq_true]; intro x hx
  obtain ⟨r, _, hx⟩ := List.mem_flatMap.1 hx
  exact List.all_eq_true.1 (show (eC r).all SV.flat = true from rfl) x hx
theorem cE_map : ∀ l : List EntT, (vE l).map SV.v = cE l
  | [] => rfl
  | r :: l => by
    show (eV r ++ vE l).map SV.v = eC r ++ cE l
    rw [List.map_append, cE_map l]; rfl
theorem plain_sol {ν : Val} : ∀ {a : List Value} {u v : List Value}, VRL ν (a.map SV.v) u → VRL ν (a.map SV.v) v → u = v
  | [], u, v, hu, hv => by rw [VRL.nil_inv hu, VRL.nil_inv hv]
  | z :: a, u, v, hu, hv => by
    obtain ⟨p, ps, rfl, q1, q2⟩ := VRL.cons_inv (x := .v z) (xs := a.map SV.v) hu
    obtain ⟨p', ps', rfl, q3, q4⟩ := VRL.cons_inv (x := .v z) (xs := a.map SV.v) hv
    rw [VR.v_iff.1 q1, VR.v_iff.1 q3, plain_sol q2 q4]
theorem cE_val {ν : Val} {l : List EntT} {zs : List Value} (h : VRL ν (cE l) zs) : zs = vE l := by
  rw [← cE_map] at h
  exact plain_sol h (VRL.lits ν (vE l))
theorem cE_at {xs : List EntT} {k : Nat} {x : EntT} (h : xs[k]? = some x) : List.take 4 (List.drop (0 + k * 4) (cE xs)) = eC x := by
  rw [Nat.zero_add]; exact flatMap_at eC_len h
theorem cE_cell0 {xs : List EntT} {k : Nat} {x : EntT} (h : xs[k]? = some x) : (cE xs)[0 + k * 4 + 0]? = some (.v (.string x.p)) := by
  have h2 : (List.take 4 (List.drop (0 + k * 4) (cE xs)))[0]? = (eC x)[0]? := by rw [cE_at h]
  rw [List.getElem?_take, if_pos (by decide), List.getElem?_drop] at h2
  exact h2
def decE (l : List SV) : EntT := match l with
  | [.v (.string p), .v (.int _ v), .v (.int _ k), .v (.slice a l c)] => ⟨p, v, k, a, l, c⟩
  | _ => ⟨⟨#[]⟩, 0, 0, none, 0, 0⟩
theorem decE_eC (e : EntT) : decE (eC e) = e := rfl
/-- The entries that lie in a row. -/
def entsOf (ys : List SV) (n : Nat) : List EntT := decL decE 4 n ys
theorem entsOf_cE (l : List EntT) : entsOf (cE l) l.length = l := decL_flat eC_len decE_eC l
/-- A row holds just these. -/
structure HoldsE (ys : List SV) (n : Nat) (l : List EntT) : Prop where
  cells : ys = cE l
  len : n = l.length
  few : n ≤ 1000
def isE (p : ByteArray) (e : EntT) : Bool := e.p.data.toList == p.data.toList
def findE (p : ByteArray) (l : List EntT) : EntT := (l.find? (isE p)).getD ⟨p, 0, 0, none, 0, 0⟩
def dropE (p : ByteArray) (l : List EntT) : List EntT := l.filter fun e => !isE p e
theorem row_look1 {ν : Val} {i : Nat} {ys : List SV} {e : TypeId} {fz : Nat × Nat} {x : Option Nat} {ob : Obj} (h : OR ν i (.row ys e fz x) ob) : OR ν i (.look ys) ob := by
  obtain ⟨zs, rest, rfl, hz, _⟩ := h
  exact ⟨zs, _, _, _, rfl, hz, fun k y hk => by simpa using getElem?_append_left' hk⟩
theorem look_closed1 {ν ν' : Val} {i j : Nat} {ys : List SV} {ob : Obj} (hy : ys.all closedSV = true) (h : OR ν i (.look ys) ob) : OR ν' j (.look ys) ob := by
  obtain ⟨zs, c, e, fz, rfl, hz, hc⟩ := h
  exact ⟨zs, c, e, fz, rfl, closed_VRL hy hz, hc⟩
/-- A call of a function that reads a told row. -/
theorem calls_row {E : Env} {P : Program} (hP : E.P = P) (hG : E.G = []) {f : FuncId} {ν : Val} {M : Own} {w0 w : World} {sh : SH} (hr : HR ν M w0 sh w) {i : Nat} {ys : List SV} {e : TypeId} {fz : Nat × Nat} {x : Option Nat} {mk : Bool} (hl : sh.look i = some (.row ys e fz x, mk)) (hy : ys.all closedSV = true)
    {a : List Value} {args' : Nat → List SV} {S0 : Nat → SM} {R : Ending → World → Prop} (hloc : ∀ b, ν i = some b → VRL (layVal [b]) (args' b.2) a) (hS0 : ∀ c, enterS E f (args' c) (memOf 6 1 0 [some (.look ys, false)]) = some (S0 c))
    (hs : ∀ b cs0, Goes E (layOwn [b] [(.look ys, false)]) w cs0 f R (layVal [b]) (S0 b.2)) : Calls P f a.toArray w R := by
  obtain ⟨_, _, b, ob, hb, ho, hor, _⟩ := hr.look hl
  refine calls_readR (E := E) hP (d := 6) (l := [b]) (os := [.look ys]) rfl (by simp) (by simp) ?_ hG (hS0 b.2) (hloc b hb) fun cs0 => hs b cs0
  intro j o' b' c' h1 h2
  match j with
  | 0 =>
    simp only [List.getElem?_cons_zero, Option.some.injEq] at h1 h2
    subst h1
    subst h2
    exact ⟨_, ho, look_closed1 hy (row_look1 hor)⟩
  | j + 1 => simp at h1
theorem lay1' {b : Nat × Nat} {i : Nat} {x : Nat × Nat} (h : layVal [b] i = some x) : i = 0 := by
  match i with
  | 0 => rfl
  | i + 1 => simp [layVal] at h
theorem none1' {b : Nat × Nat} {ys : List SV} (z : Nat) : ¬ (layOwn [b] [(SO.look ys, false)]) z := layOwn_none (os := [_])
section
variable {w0 : World} {cs0 : List Frame} {R : Ending → World → Prop} {xs : List EntT} {p : ByteArray} {b : Nat × Nat} {c : Nat}
theorem loopGt {s : Int} (hl : xs.length ≤ 1000) (hR : ∀ w', Below w0.heap.size w0 w' → R (.returned (.agg (eV (findE p xs)).toArray)) w') : ∀ (j i : Nat), i + j = xs.length → (∀ e ∈ xs.take i, isE p e = false) →
    Goes EN0 (layOwn [b] [(.look (cE xs), false)]) w0 cs0 46 R (layVal [b]) (SM.at (hdGt p i) 6 (objG (cE xs) xs.length c s))
  | 0, i, hj, hn => by
    refine goes_due KN0 none1' (n := 60) (o := ff [0] false) (v := .agg #[.string p, .int .u64 0, .int .i64 0, .slice none 0 0]) ⟨?_⟩ fun w' hw => ?_
    · rw [gt3]; simp only [Owed, true_and, and_true]; exact decide_eq_false (by omega)
    · rw [List.take_of_length_le (by omega)] at hn
      have : xs.find? (isE p) = none := by
        rw [List.find?_eq_none]; intro e he; rw [hn e he]; simp
      have e2 : findE p xs = ⟨p, 0, 0, none, 0, 0⟩ := by unfold findE; rw [this]; rfl
      have := hR w' hw
      rw [e2] at this; exact this
  | j + 1, i, hj, hn => by
    have hi : i < xs.length := by omega
    have hxi : xs[i]? = some xs[i] := List.getElem?_eq_getElem hi
    have t1 : decide ((i : Int) < (xs.length : Int)) = true := decide_eq_true (by omega)
    have r1 := in_range hi
    have ws := wrap_succ (k := i) (by omega)
    have rc := cE_cell0 hxi
    have ra := cE_at hxi
    cases hq : isE p xs[i]
    · have hq' : (xs[i].p.toList == p.toList) = false := by rw [tlB, tlB]; exact hq
      refine Goes.reach KN0 (k := 2) (n := 60) (o := (ff [0] true ++ [(2, .cells [.v (.string xs[i].p)])] ++ ff [3] false)) (ren := [(0, 0), (1, 1), (2, 2)]) (eqs := [0]) ?_ (by kernel_rfl) (fun i b h => by rw [lay1' h]; rfl) (l := objG (cE xs) xs.length c s) (loopGt hl hR j (i + 1) (by omega) fun e he => by
        rw [List.take_succ_eq_append_getElem hi] at he
        rcases List.mem_append.1 he with h | h
        · exact hn e h
        · rw [List.mem_singleton.1 h]; exact hq)
      rw [gt1]
      simp only [Owed, Int.toNat_natCast, t1, r1, rc, hq', ws, cE_closed, and_self]
    · have hq' : (xs[i].p.toList == p.toList) = true := by rw [tlB, tlB]; exact hq
      refine goes_due KN0 none1' (n := 60) (o := (ff [0] true ++ [(2, .cells [.v (.string xs[i].p)])] ++ ff [3] true ++ [(5, .cells (eC xs[i]))])) (v := .agg (eV xs[i]).toArray) ⟨?_⟩ fun w' hw => ?_
      · rw [gt2]
        simp only [Owed, Int.toNat_natCast, t1, r1, rc, ra, hq', eC_len, and_self, true_and, and_true]
        rfl
      · have hf : xs.find? (isE p) = some xs[i] := by
          conv => lhs; rw [← List.take_append_drop i xs]
          rw [List.find?_append]
          have : (xs.take i).find? (isE p) = none := by
            rw [List.find?_eq_none]; intro e he; rw [hn e he]; simp
          rw [this, List.drop_eq_getElem_cons hi, List.find?_cons, hq]; rfl
        have e2 : findE p xs = xs[i] := by unfold findE; rw [hf]; rfl
        have := hR w' hw
        rw [e2] at this; exact this
end
def getG : PlG := fun args sh => match args with
  | [.agg [.v (.int .u64 s), .sl i 0 n none], .v (.string p)] => match sh.look i with
    | some (.row ys _ _ _, _) => some (.agg #[.string (findE p (entsOf ys n)).p, .int .u64 (findE p (entsOf ys n)).v, .int .i64 (findE p (entsOf ys n)).k, .slice (findE p (entsOf ys n)).a (findE p (entsOf ys n)).l (findE p (entsOf ys n)).c], HoldsE ys n (entsOf ys n))
    | _ => none
  | _ => none
theorem get_ok {X : World → Prop} : SumOK Tryz.prog X (46, plSumG getG) := by
  refine plSumG_ok ⟨_, Tryz.func46, by kernel_rfl, by kernel_rfl⟩ fun args sh v q h hp ν M w0 w a hr hX ha => ?_
  dsimp only [getG] at h
  split at h
  · rename_i s i n p
    split at h
    · rename_i ys e1 z1 x1 m1 hl
      cases h
      obtain ⟨hc, hn, hfew⟩ := hp
      generalize hE : entsOf ys n = xs at *
      subst hc hn
      obtain ⟨y1, as1, rfl, q1, ha2⟩ := ha.cons_inv
      obtain ⟨y2, as2, rfl, q2, ha3⟩ := ha2.cons_inv
      obtain rfl := ha3.nil_inv
      obtain rfl := VR.v_iff.1 q2
      obtain ⟨u, rfl, hu⟩ := VR.agg_iff.1 q1
      obtain ⟨y3, as3, rfl, q3, hu2⟩ := hu.cons_inv
      obtain ⟨y4, as4, rfl, q4, hu3⟩ := hu2.cons_inv
      obtain rfl := hu3.nil_inv
      obtain rfl := VR.v_iff.1 q3
      obtain ⟨bb, hbb, hle, rfl⟩ := VR.sl_iff.1 q4
      refine calls_row (E := EN0) rfl rfl hr hl (cE_closed xs) (args' := fun c => [.agg [.v (.int .u64 s), .sl 0 0 xs.length (some c)], .v (.string p)]) (S0 := fun c => entGt (cE xs) xs.length c s p) (fun b hb => ?_) (fun c => by kernel_rfl) fun b cs0 => ?_
      · rw [hbb] at hb; cases hb
        have hle' : xs.length ≤ bb.2 := hle
        exact VRL.cons (VR.agg_iff.2 ⟨_, rfl, VRL.cons (VR.v_iff.2 rfl) (VRL.cons (VR.sl_iff.2 ⟨bb, rfl, hle', rfl⟩) VRL.nil)⟩) (VRL.cons (VR.v_iff.2 rfl) VRL.nil)
      · have nx := loopGt (w0 := w) (cs0 := cs0) (b := b) (c := b.2) (p := p) (s := s) (xs := xs) (R := fun e w' => Below w.heap.size w w' ∧ e = .returned (.agg (eV (findE p xs)).toArray)) hfew (fun w' hw => ⟨hw, rfl⟩) xs.length 0 (by omega) fun e he => by simp at he
        refine Goes.reach KN0 (k := 2) (n := 60) (o := [(1000, .b true)]) (ren := [(0, 0), (1, 1), (2, 2)]) (eqs := [0]) (F := hdGt p 0) (d := 6) (l := objG (cE xs) xs.length b.2 s) ?_ (by kernel_rfl) (fun i b h => by rw [lay1' h]; rfl) nx
        rw [gt0]
        simp only [Owed, cE_closed, and_self]
    · cases h
  · cases h
end paths
end Go.Proofs.YtiggmgcnjmalfaaGreatDoor
namespace Go.Proofs.YtiggmgcnjmalfaaGreatDoor
open Go Go.Rx Go.RowKit Go.Proofs
set_option linter.unusedVariables false
set_option linter.unusedSimpArgs false
set_option maxRecDepth 100000
namespace paths
theorem dropE_snoc (p : ByteArray) {xs : List EntT} {i : Nat} (h : i < xs.length) : dropE p (xs.take (i + 1)) = dropE p (xs.take i) ++ (if isE p xs[i] = true then [] else [xs[i]]) := by
  rw [List.take_succ_eq_append_getElem h]
  unfold dropE
  rw [List.filter_append]
  congr 1
  cases hp : isE p xs[i] <;> simp [hp]
theorem dropE_len (p : ByteArray) (xs : List EntT) : (dropE p xs).length ≤ xs.length := List.length_filter_le _ _
theorem ends_sl {E : Env} {M : Own} {w0 : World} {cs0 : List Frame} {f : FuncId} {R : Ending → World → Prop} {ν : Val} {n : Nat} {S : SM} {o : List (Nat × Ans)} {m j : Nat} {l : List EntT} (K : Facts E M w0) (hM : ∀ z, ¬ M z)
    (h : Due (endsO E f n S o (.sl j 0 m none) j (.row (cE l) 46 (0, 0) (some 4)))) (hR : ∀ w' y, Below w0.heap.size w0 w' → NewSl w0 w' y (vE l) m 4 46 → R (.returned y) w') : Goes E M w0 cs0 f R ν S :=
  Goes.endsO K h.out fun ν' w' y b ob hv hb ho hor hw hB => by
    have hn : w0.heap.size ≤ b.1 := by
      rcases hw with h | h
      · exact h
      · exact absurd h (hM _)
    obtain ⟨_, _, _, _, hB, hr⟩ := hB
    exact hR w' y (below_of hM hB hr) (NewSl.of_row hv hb ho hor hn fun zs hz => cE_val hz)
/-- What comes of without. -/
def RW (w0 : World) (xs : List EntT) (e : Ending) (w' : World) : Prop :=
  Below w0.heap.size w0 w' ∧ ((xs = [] ∧ e = .returned (.slice none 0 0)) ∨ (xs ≠ [] ∧ ∃ y, e = .returned y ∧ NewSl w0 w' y (vE xs) xs.length 4 46))
section
variable {w0 : World} {cs0 : List Frame} {xs : List EntT} {p : ByteArray} {b : Nat × Nat} {c : Nat}
theorem loopWo2 (hl : xs.length ≤ 1000) : ∀ (j i : Nat), i + j = xs.length → dropE p (xs.take i) ≠ [] →
    Goes EN0 (layOwn [b] [(.look (cE xs), false)]) w0 cs0 47 (RW w0 (dropE p xs)) (layVal [b]) (SM.at (hdWo xs.length c p (.sl 1 0 (dropE p (xs.take i)).length none) i) 6 [lkE (cE xs), rowsE (cE (dropE p (xs.take i)))])
  | 0, i, hj, hne => by
    rw [List.take_of_length_le (by omega)] at hne ⊢
    refine ends_sl (j := 1) KN0 none1' (n := 60) (o := ff [0] false) ⟨?_⟩ fun w' y hB hy => ⟨hB, .inr ⟨hne, y, rfl, hy⟩⟩
    rw [wo6]
    simp only [Owed, cE_closed, and_self, and_true, true_and]
    exact decide_eq_false (by omega)
  | j + 1, i, hj, hne => by
    have hi : i < xs.length := by omega
    have hsn := dropE_snoc p hi
    have hxi : xs[i]? = some xs[i] := List.getElem?_eq_getElem hi
    have t1 : decide ((i : Int) < (xs.length : Int)) = true := decide_eq_true (by omega)
    have r1 := in_range hi
    have ws := wrap_succ (k := i) (by omega)
    have rc := cE_cell0 hxi
    have ra := cE_at hxi
    have hbl : (dropE p (xs.take i)).length ≤ 1000 := Nat.le_trans (dropE_len _ _) (by rw [List.length_take]; omega)
    cases hq : isE p xs[i]
    · have hq' : (xs[i].p.toList == p.toList) = false := by rw [tlB, tlB]; exact hq
      rw [hq, if_neg (by decide)] at hsn
      have nx := loopWo2 hl j (i + 1) (by omega) (by rw [hsn]; simp)
      rw [hsn, List.length_append, show ([xs[i]] : List EntT).length = 1 from rfl] at nx
      refine Goes.reach KN0 (k := 2) (n := 60) (o := (ff [0] true ++ [(2, .cells [.v (.string xs[i].p)])] ++ ff [3] true ++ [(5, .cells (eC xs[i])), (6, .app (cE (dropE p (xs.take i))) (eC xs[i]))])) (ren := [(0, 0), (1, 3)]) (eqs := [0, 1]) ?_ (by kernel_rfl) (fun i b h => by rw [lay1' h]; rfl) nx
      rw [wo4]
      simp only [Owed, Int.toNat_natCast, t1, r1, rc, ra, hq', ws, eC_len, cE_closed, cE_flat, cE_app, cE_one, cE_len, List.all_append, Bool.not_false, and_self, and_true, true_and]
      repeat' apply And.intro
      all_goals first | rfl | omega | exact List.take_of_length_le (by rw [cE_len]; exact Nat.le_refl _) | exact eC_closed _ | skip
    · have hq' : (xs[i].p.toList == p.toList) = true := by rw [tlB, tlB]; exact hq
      rw [hq, if_pos rfl, List.append_nil] at hsn
      have nx := loopWo2 hl j (i + 1) (by omega) (by rw [hsn]; exact hne)
      rw [hsn] at nx
      refine Goes.reach KN0 (k := 2) (n := 60) (o := (ff [0] true ++ [(2, .cells [.v (.string xs[i].p)])] ++ ff [3] false)) (ren := [(0, 0), (1, 1)]) (eqs := [0, 1]) ?_ (by kernel_rfl) (fun i b h => by rw [lay1' h]; rfl) nx
      rw [wo3]
      simp only [Owed, Int.toNat_natCast, t1, r1, rc, hq', ws, cE_closed, Bool.not_true, and_self]
theorem loopWo1 (hl : xs.length ≤ 1000) : ∀ (j i : Nat), i + j = xs.length → dropE p (xs.take i) = [] →
    Goes EN0 (layOwn [b] [(.look (cE xs), false)]) w0 cs0 47 (RW w0 (dropE p xs)) (layVal [b]) (SM.at (hdWo xs.length c p nilE i) 6 [lkE (cE xs)])
  | 0, i, hj, hn => by
    rw [List.take_of_length_le (by omega)] at hn
    refine goes_due KN0 none1' (n := 60) (o := ff [0] false) (v := .slice none 0 0) ⟨?_⟩ fun w' hw => ⟨hw, .inl ⟨hn, rfl⟩⟩
    rw [wo5]
    simp only [Owed, and_self, and_true, true_and]
    exact decide_eq_false (by omega)
  | j + 1, i, hj, hn => by
    have hi : i < xs.length := by omega
    have hsn := dropE_snoc p hi
    have hxi : xs[i]? = some xs[i] := List.getElem?_eq_getElem hi
    have t1 : decide ((i : Int) < (xs.length : Int)) = true := decide_eq_true (by omega)
    have r1 := in_range hi
    have ws := wrap_succ (k := i) (by omega)
    have rc := cE_cell0 hxi
    have ra := cE_at hxi
    cases hq : isE p xs[i]
    · have hq' : (xs[i].p.toList == p.toList) = false := by rw [tlB, tlB]; exact hq
      rw [hq, if_neg (by decide), hn, List.nil_append] at hsn
      have nx := loopWo2 (w0 := w0) (cs0 := cs0) (b := b) (c := c) (p := p) hl j (i + 1) (by omega) (by rw [hsn]; simp)
      rw [hsn, show ([xs[i]] : List EntT).length = 1 from rfl] at nx
      refine Goes.reach KN0 (k := 2) (n := 60) (o := (ff [0] true ++ [(2, .cells [.v (.string xs[i].p)])] ++ ff [3] true ++ [(5, .cells (eC xs[i]))])) (ren := [(0, 0), (1, 2)]) (eqs := [0, 1]) ?_ (by kernel_rfl) (fun i b h => by rw [lay1' h]; rfl) nx
      rw [wo2]
      simp only [Owed, Int.toNat_natCast, t1, r1, rc, ra, hq', ws, eC_len, cE_closed, cE_one, Bool.not_false, and_self, and_true, true_and]
      repeat' apply And.intro
      all_goals first | rfl | omega | exact eC_closed _ | skip
    · have hq' : (xs[i].p.toList == p.toList) = true := by rw [tlB, tlB]; exact hq
      rw [hq, if_pos rfl, List.append_nil] at hsn
      have nx := loopWo1 hl j (i + 1) (by omega) (by rw [hsn]; exact hn)
      refine Goes.reach KN0 (k := 2) (n := 60) (o := (ff [0] true ++ [(2, .cells [.v (.string xs[i].p)])] ++ ff [3] false)) (ren := [(0, 0)]) (eqs := [0]) ?_ (by kernel_rfl) (fun i b h => by rw [lay1' h]; rfl) nx
      rw [wo1]
      simp only [Owed, Int.toNat_natCast, t1, r1, rc, hq', ws, cE_closed, nilE, Bool.not_true, and_self]
end
/-- without, where something is left; where nothing is. -/
def withoutS : SlG := fun args sh => match args with
  | [.sl i 0 n none, .v (.string p)] => match sh.look i with
    | some (.row ys _ _ _, _) => some (vE (dropE p (entsOf ys n)), (dropE p (entsOf ys n)).length, 4, 46, none, HoldsE ys n (entsOf ys n) ∧ dropE p (entsOf ys n) ≠ [])
    | _ => none
  | _ => none
def withoutN : PlG := fun args sh => match args with
  | [.sl i 0 n none, .v (.string p)] => match sh.look i with
    | some (.row ys _ _ _, _) => some (.slice none 0 0, HoldsE ys n (entsOf ys n) ∧ dropE p (entsOf ys n) = [])
    | _ => none
  | _ => none
theorem without_calls {ν : Val} {M : Own} {w0 w : World} {sh : SH} (hr : HR ν M w0 sh w) {i n : Nat} {ys : List SV} {e : TypeId} {fz : Nat × Nat} {x : Option Nat} {mk : Bool} {p : ByteArray} {xs : List EntT} (hl : sh.look i = some (.row ys e fz x, mk)) (h : HoldsE ys n xs) {a : List Value}
    (ha : VRL ν [.sl i 0 n none, .v (.string p)] a) : Calls Tryz.prog 47 a.toArray w (RW w (dropE p xs)) := by
  obtain ⟨rfl, rfl, hfew⟩ := h
  obtain ⟨y1, as1, rfl, q1, ha2⟩ := ha.cons_inv
  obtain ⟨y2, as2, rfl, q2, ha3⟩ := ha2.cons_inv
  obtain rfl := ha3.nil_inv
  obtain rfl := VR.v_iff.1 q2
  obtain ⟨bb, hbb, hle, rfl⟩ := VR.sl_iff.1 q1
  refine calls_row (E := EN0) rfl rfl hr hl (cE_closed xs) (args' := fun c => [.sl 0 0 xs.length (some c), .v (.string p)]) (S0 := fun c => entWo (cE xs) xs.length c p) (fun b hb => ?_) (fun c => by kernel_rfl) fun b cs0 => ?_
  · rw [hbb] at hb; cases hb
    have hle' : xs.length ≤ bb.2 := hle
    exact VRL.cons (VR.sl_iff.2 ⟨bb, rfl, hle', rfl⟩) (VRL.cons (VR.v_iff.2 rfl) VRL.nil)
  · have nx := loopWo1 (w0 := w) (cs0 := cs0) (b := b) (c := b.2) (p := p) (xs := xs) hfew xs.length 0 (by omega) rfl
    refine Goes.reach KN0 (k := 2) (n := 60) (o := [(1000, .b true)]) (ren := [(0, 0)]) (eqs := [0]) (F := hdWo xs.length b.2 p nilE 0) (d := 6) (l := [lkE (cE xs)]) ?_ (by kernel_rfl) (fun i b h => by rw [lay1' h]; rfl) nx
    rw [wo0]
    simp only [Owed, cE_closed, and_self]
theorem without_ok {X : World → Prop} : SumOK Tryz.prog X (47, brSum (slSumG withoutS) (plSumG withoutN)) := by
  refine SumOK.br (slSumG_ok ⟨_, Tryz.func47, by kernel_rfl, by kernel_rfl⟩ fun args sh ys n C elem ex p h hp ν M w0 w a hr hX ha => ?_) (plSumG_ok ⟨_, Tryz.func47, by kernel_rfl, by kernel_rfl⟩ fun args sh v p h hp ν M w0 w a hr hX ha => ?_)
  · dsimp only [withoutS] at h
    split at h
    · rename_i i n p
      split at h
      · rename_i zs e1 z1 x1 m1 hl
        cases h
        refine (without_calls hr hl hp.1 ha).mono fun e w' ⟨hB, h⟩ => ⟨hB, ?_⟩
        rcases h with ⟨h1, _⟩ | ⟨_, y, h2, h3⟩
        · exact absurd h1 hp.2
        · exact ⟨y, h2, h3⟩
      · cases h
    · cases h
  · dsimp only [withoutN] at h
    split at h
    · rename_i i n p
      split at h
      · rename_i zs e1 z1 x1 m1 hl
        cases h
        refine (without_calls hr hl hp.1 ha).mono fun e w' ⟨hB, h⟩ => ⟨hB, ?_⟩
        rcases h with ⟨_, h2⟩ | ⟨h1, _⟩
        · exact h2
        · exact absurd hp.2 h1
      · cases h
    · cases h
end paths
end Go.Proofs.YtiggmgcnjmalfaaGreatDoor
namespace Go.Proofs.YtiggmgcnjmalfaaGreatDoor
open Go Go.Rx Go.RowKit Go.Proofs
set_option linter.unusedVariables false
set_option linter.unusedSimpArgs false
set_option maxRecDepth 100000
namespace paths
/-! ### with -/
noncomputable def EWi : Env := EP [(93, cmpPS)] []
noncomputable def entWi (l : List SV) (n c : Nat) (x : EntT) : SM := (enterS EWi 48 [.sl 0 0 n (some c), .v (.agg #[.string x.p, .int .u64 x.v, .int .i64 x.k, .slice x.a x.l x.c])] (memOf 6 1 0 [lkE l])).getD noSM
noncomputable def todoWi : List SI := todoL EWi 2 60 (entWi [] 0 0 ⟨⟨#[]⟩, 0, 0, none, 0, 0⟩) [(1000, .b true)]
noncomputable def hdWi (n c : Nat) (x : SV) (d : Bool) (i : Int) : SF := { fn := 48, tm := tmOf 45 6 ([.sl 0 0 n (some c), .junk, .junk, .ptr 1 0, .junk, x, .v (.bool d), .v (.int .i64 i)] ++ List.replicate 37 .junk), todo := todoWi, defers := [], ret := false, kind := .normal, ro := none }
def boxE (x : EntT) : Option (SO × Bool) := some (.row (eC x) 46 (0, 0) none, true)
theorem wi0 (l : List SV) (n c : Nat) (x : EntT) : reach EWi 2 60 (entWi l n c x) [(1000, .b true)] [(0, 0), (1, 1)] [0] (hdWi n c nilE false 0) 6 [lkE l, boxE x] = [
  (0 : Nat) = (0 : Nat) ∧ n = n ∧ some c = some c,
  (0 : Nat) = (0 : Nat),
  Value.slice none (0 : Nat) (0 : Nat) = Value.slice none (0 : Nat) (0 : Nat),
  Value.bool false = Value.bool false,
  Value.int IntKind.i64 (0 : Int) = Value.int IntKind.i64 (0 : Int),
  l = l,
  l.all closedSV = true,
  Value.string x.1 = Value.string x.1,
  Value.int IntKind.u64 x.2 = Value.int IntKind.u64 x.2,
  Value.int IntKind.i64 x.3 = Value.int IntKind.i64 x.3,
  Value.slice x.4 x.5 x.6 = Value.slice x.4 x.5 x.6] := by kernel_rfl
theorem wi1 (l l' m w w2 : List SV) (n c k : Nat) (x e : EntT) (i i' : Int) : reach EWi 2 100 (SM.at (hdWi n c nilE false i) 6 [lkE l, boxE x]) (ff [0] true ++ [(7, .cells [.v (.string e.p)]), (16, .cells (eC e))] ++ ff [14] false) [(0, 0), (1, 1), (2, 3)] [0, 2] (hdWi n c (.sl 2 0 1 none) false i') 6 [lkE l, boxE x, rowsE l'] = [
  (0 : Nat) = (0 : Nat) ∧ n = n ∧ some c = some c,
  (0 : Nat) = (0 : Nat),
  (0 : Nat) = (0 : Nat) ∧ (1 : Nat) = (1 : Nat) ∧ (none : Option Nat) = none,
  Value.bool false = Value.bool false,
  Value.int IntKind.i64 (IntKind.i64.wrap (i + (1 : Int))) = Value.int IntKind.i64 i',
  l = l,
  l.all closedSV = true,
  Value.string x.1 = Value.string x.1,
  Value.int IntKind.u64 x.2 = Value.int IntKind.u64 x.2,
  Value.int IntKind.i64 x.3 = Value.int IntKind.i64 x.3,
  Value.slice x.4 x.5 x.6 = Value.slice x.4 x.5 x.6,
  [] ++
   List.take (4 : Nat)
   (List.drop (0 : Nat)
   (splice
   (List.replicate (1 : Nat)
   (List.map SV.v
   {
   toList :=
   [Value.string { data := { toList := [] : Array UInt8 } : ByteArray },
   Value.int IntKind.u64 (0 : Int), Value.int IntKind.i64 (0 : Int),
   Value.slice none (0 : Nat) (0 : Nat)] :
   Array Value }.toList)).flatten
   (0 : Nat) (eC e))) =
   l',
  l'.all closedSV = true,
  List.take (4 : Nat) (List.drop ((0 : Nat) + i.toNat * (4 : Nat)) l) = eC e ∧ (eC e).length = (4 : Nat),
  inRange i n = true,
  decide (cmpN e.1 x.1 > (0 : Int)) = false,
  e.1.size ≤ (1000000000 : Nat) ∧ x.1.size ≤ (1000000000 : Nat),
  l[(0 : Nat) + i.toNat * (4 : Nat) + (0 : Nat)]? = some (SV.v (Value.string e.1)),
  inRange i n = true,
  decide (i < (↑n : Int)) = true] := by kernel_rfl
theorem wi2 (l l' m w w2 : List SV) (n c k : Nat) (x e : EntT) (i i' : Int) : reach EWi 2 100 (SM.at (hdWi n c (.sl 2 0 k none) false i) 6 [lkE l, boxE x, rowsE m]) (ff [0] true ++ [(7, .cells [.v (.string e.p)]), (16, .cells (eC e)), (17, .app m w)] ++ ff [14] false) [(0, 0), (1, 1), (2, 4)] [0, 2] (hdWi n c (.sl 2 0 (k + 1) none) false i') 6 [lkE l, boxE x, rowsE l'] = [
  (0 : Nat) = (0 : Nat) ∧ n = n ∧ some c = some c,
  (0 : Nat) = (0 : Nat),
  (0 : Nat) = (0 : Nat) ∧ k + (1 : Nat) = k + (1 : Nat) ∧ (none : Option Nat) = none,
  Value.bool false = Value.bool false,
  Value.int IntKind.i64 (IntKind.i64.wrap (i + (1 : Int))) = Value.int IntKind.i64 i',
  l = l,
  l.all closedSV = true,
  Value.string x.1 = Value.string x.1,
  Value.int IntKind.u64 x.2 = Value.int IntKind.u64 x.2,
  Value.int IntKind.i64 x.3 = Value.int IntKind.i64 x.3,
  Value.slice x.4 x.5 x.6 = Value.slice x.4 x.5 x.6,
  m ++ w = l',
  l'.all closedSV = true,
  ((List.take (4 : Nat)
   (List.drop (0 : Nat)
   (splice
   (List.replicate (1 : Nat)
   (List.map SV.v
   {
   toList :=
   [Value.string { data := { toList := [] : Array UInt8 } : ByteArray },
   Value.int IntKind.u64 (0 : Int), Value.int IntKind.i64 (0 : Int),
   Value.slice none (0 : Nat) (0 : Nat)] :
   Array Value }.toList)).flatten
   (0 : Nat) (eC e))) =
   w ∧
   w.length = (1 : Nat) * (4 : Nat)) ∧
   (1 : Nat) ≠ (0 : Nat) ∧ ((2 : Nat) * (k + (1 : Nat)) + (1024 : Nat)) * (56 : Nat) ≤ (140737488355328 : Nat)) ∧
   List.take (k * (4 : Nat)) m = m ∧ m.length = k * (4 : Nat) ∧ w.all SV.flat = true,
  List.take (4 : Nat) (List.drop ((0 : Nat) + i.toNat * (4 : Nat)) l) = eC e ∧ (eC e).length = (4 : Nat),
  inRange i n = true,
  decide (cmpN e.1 x.1 > (0 : Int)) = false,
  e.1.size ≤ (1000000000 : Nat) ∧ x.1.size ≤ (1000000000 : Nat),
  l[(0 : Nat) + i.toNat * (4 : Nat) + (0 : Nat)]? = some (SV.v (Value.string e.1)),
  inRange i n = true,
  decide (i < (↑n : Int)) = true] := by kernel_rfl
theorem wi3 (l l' m w w2 : List SV) (n c k : Nat) (x e : EntT) (i i' : Int) : reach EWi 2 100 (SM.at (hdWi n c nilE false i) 6 [lkE l, boxE x]) (ff [0] true ++ [(7, .cells [.v (.string e.p)])] ++ ff [14] true ++ [(17, .cells (eC e))]) [(0, 0), (1, 1), (2, 5)] [0, 2] (hdWi n c (.sl 2 0 2 none) true i') 6 [lkE l, boxE x, rowsE l'] = [
  (0 : Nat) = (0 : Nat) ∧ n = n ∧ some c = some c,
  (0 : Nat) = (0 : Nat),
  (0 : Nat) = (0 : Nat) ∧ (2 : Nat) = (2 : Nat) ∧ (none : Option Nat) = none,
  Value.bool true = Value.bool true,
  Value.int IntKind.i64 (IntKind.i64.wrap (i + (1 : Int))) = Value.int IntKind.i64 i',
  l = l,
  l.all closedSV = true,
  Value.string x.1 = Value.string x.1,
  Value.int IntKind.u64 x.2 = Value.int IntKind.u64 x.2,
  Value.int IntKind.i64 x.3 = Value.int IntKind.i64 x.3,
  Value.slice x.4 x.5 x.6 = Value.slice x.4 x.5 x.6,
  List.take (4 : Nat)
   ([] ++
   List.take (4 : Nat)
   (List.drop (0 : Nat)
   (splice
   (List.replicate (1 : Nat)
   (List.map SV.v
   {
   toList :=
   [Value.string { data := { toList := [] : Array UInt8 } : ByteArray },
   Value.int IntKind.u64 (0 : Int), Value.int IntKind.i64 (0 : Int),
   Value.slice none (0 : Nat) (0 : Nat)] :
   Array Value }.toList)).flatten
   (0 : Nat) (List.take (4 : Nat) (List.drop (0 : Nat) (eC x)))))) ++
   List.take (4 : Nat)
   (List.drop (0 : Nat)
   (splice
   (List.replicate (1 : Nat)
   (List.map SV.v
   {
   toList :=
   [Value.string { data := { toList := [] : Array UInt8 } : ByteArray },
   Value.int IntKind.u64 (0 : Int), Value.int IntKind.i64 (0 : Int),
   Value.slice none (0 : Nat) (0 : Nat)] :
   Array Value }.toList)).flatten
   (0 : Nat) (eC e))) =
   l',
  l'.all closedSV = true,
  List.take (4 : Nat) (List.drop ((0 : Nat) + i.toNat * (4 : Nat)) l) = eC e ∧ (eC e).length = (4 : Nat),
  inRange i n = true,
  decide (cmpN e.1 x.1 > (0 : Int)) = true,
  e.1.size ≤ (1000000000 : Nat) ∧ x.1.size ≤ (1000000000 : Nat),
  l[(0 : Nat) + i.toNat * (4 : Nat) + (0 : Nat)]? = some (SV.v (Value.string e.1)),
  inRange i n = true,
  decide (i < (↑n : Int)) = true] := by kernel_rfl
theorem wi4 (l l' m w w2 : List SV) (n c k : Nat) (x e : EntT) (i i' : Int) : reach EWi 2 100 (SM.at (hdWi n c (.sl 2 0 k none) false i) 6 [lkE l, boxE x, rowsE m]) (ff [0] true ++ [(7, .cells [.v (.string e.p)])] ++ ff [14] true ++ [(15, .app m w), (17, .cells (eC e)), (18, .app (m ++ w) w2)]) [(0, 0), (1, 1), (2, 6)] [0, 2] (hdWi n c (.sl 2 0 (k + 2) none) true i') 6 [lkE l, boxE x, rowsE l'] = [
  (0 : Nat) = (0 : Nat) ∧ n = n ∧ some c = some c,
  (0 : Nat) = (0 : Nat),
  (0 : Nat) = (0 : Nat) ∧ k + (1 : Nat) + (1 : Nat) = k + (2 : Nat) ∧ (none : Option Nat) = none,
  Value.bool true = Value.bool true,
  Value.int IntKind.i64 (IntKind.i64.wrap (i + (1 : Int))) = Value.int IntKind.i64 i',
  l = l,
  l.all closedSV = true,
  Value.string x.1 = Value.string x.1,
  Value.int IntKind.u64 x.2 = Value.int IntKind.u64 x.2,
  Value.int IntKind.i64 x.3 = Value.int IntKind.i64 x.3,
  Value.slice x.4 x.5 x.6 = Value.slice x.4 x.5 x.6,
  m ++ w ++ w2 = l',
  l'.all closedSV = true,
  ((List.take (4 : Nat)
   (List.drop (0 : Nat)
   (splice
   (List.replicate (1 : Nat)
   (List.map SV.v
   {
   toList :=
   [Value.string { data := { toList := [] : Array UInt8 } : ByteArray },
   Value.int IntKind.u64 (0 : Int), Value.int IntKind.i64 (0 : Int),
   Value.slice none (0 : Nat) (0 : Nat)] :
   Array Value }.toList)).flatten
   (0 : Nat) (eC e))) =
   w2 ∧
   w2.length = (1 : Nat) * (4 : Nat)) ∧
   (1 : Nat) ≠ (0 : Nat) ∧
   ((2 : Nat) * (k + (1 : Nat) + (1 : Nat)) + (1024 : Nat)) * (56 : Nat) ≤ (140737488355328 : Nat)) ∧
   List.take ((k + (1 : Nat)) * (4 : Nat)) (m ++ w) = m ++ w ∧
   (m ++ w).length = (k + (1 : Nat)) * (4 : Nat) ∧ w2.all SV.flat = true,
  List.take (4 : Nat) (List.drop ((0 : Nat) + i.toNat * (4 : Nat)) l) = eC e ∧ (eC e).length = (4 : Nat),
  inRange i n = true,
  ((List.take (4 : Nat)
   (List.drop (0 : Nat)
   (splice
   (List.replicate (1 : Nat)
   (List.map SV.v
   {
   toList :=
   [Value.string { data := { toList := [] : Array UInt8 } : ByteArray },
   Value.int IntKind.u64 (0 : Int), Value.int IntKind.i64 (0 : Int),
   Value.slice none (0 : Nat) (0 : Nat)] :
   Array Value }.toList)).flatten
   (0 : Nat) (List.take (4 : Nat) (List.drop (0 : Nat) (eC x))))) =
   w ∧
   w.length = (1 : Nat) * (4 : Nat)) ∧
   (1 : Nat) ≠ (0 : Nat) ∧ ((2 : Nat) * (k + (1 : Nat)) + (1024 : Nat)) * (56 : Nat) ≤ (140737488355328 : Nat)) ∧
   List.take (k * (4 : Nat)) m = m ∧ m.length = k * (4 : Nat) ∧ w.all SV.flat = true,
  decide (cmpN e.1 x.1 > (0 : Int)) = true,
  e.1.size ≤ (1000000000 : Nat) ∧ x.1.size ≤ (1000000000 : Nat),
  l[(0 : Nat) + i.toNat * (4 : Nat) + (0 : Nat)]? = some (SV.v (Value.string e.1)),
  inRange i n = true,
  decide (i < (↑n : Int)) = true] := by kernel_rfl
theorem wi5 (l l' m w w2 : List SV) (n c k : Nat) (x e : EntT) (i i' : Int) : reach EWi 2 100 (SM.at (hdWi n c (.sl 2 0 k none) true i) 6 [lkE l, boxE x, rowsE m]) (ff [0] true ++ [(13, .cells (eC e)), (14, .app m w)]) [(0, 0), (1, 1), (2, 4)] [0, 2] (hdWi n c (.sl 2 0 (k + 1) none) true i') 6 [lkE l, boxE x, rowsE l'] = [
  (0 : Nat) = (0 : Nat) ∧ n = n ∧ some c = some c,
  (0 : Nat) = (0 : Nat),
  (0 : Nat) = (0 : Nat) ∧ k + (1 : Nat) = k + (1 : Nat) ∧ (none : Option Nat) = none,
  Value.bool true = Value.bool true,
  Value.int IntKind.i64 (IntKind.i64.wrap (i + (1 : Int))) = Value.int IntKind.i64 i',
  l = l,
  l.all closedSV = true,
  Value.string x.1 = Value.string x.1,
  Value.int IntKind.u64 x.2 = Value.int IntKind.u64 x.2,
  Value.int IntKind.i64 x.3 = Value.int IntKind.i64 x.3,
  Value.slice x.4 x.5 x.6 = Value.slice x.4 x.5 x.6,
  m ++ w = l',
  l'.all closedSV = true,
  ((List.take (4 : Nat)
   (List.drop (0 : Nat)
   (splice
   (List.replicate (1 : Nat)
   (List.map SV.v
   {
   toList :=
   [Value.string { data := { toList := [] : Array UInt8 } : ByteArray },
   Value.int IntKind.u64 (0 : Int), Value.int IntKind.i64 (0 : Int),
   Value.slice none (0 : Nat) (0 : Nat)] :
   Array Value }.toList)).flatten
   (0 : Nat) (eC e))) =
   w ∧
   w.length = (1 : Nat) * (4 : Nat)) ∧
   (1 : Nat) ≠ (0 : Nat) ∧ ((2 : Nat) * (k + (1 : Nat)) + (1024 : Nat)) * (56 : Nat) ≤ (140737488355328 : Nat)) ∧
   List.take (k * (4 : Nat)) m = m ∧ m.length = k * (4 : Nat) ∧ w.all SV.flat = true,
  List.take (4 : Nat) (List.drop ((0 : Nat) + i.toNat * (4 : Nat)) l) = eC e ∧ (eC e).length = (4 : Nat),
  inRange i n = true,
  decide (i < (↑n : Int)) = true] := by kernel_rfl
theorem wi6 (l l' m w w2 : List SV) (n c k : Nat) (x e : EntT) (i i' : Int) : endsO EWi 48 60 (SM.at (hdWi n c nilE false i) 6 [lkE l, boxE x]) (ff [0] false) (.sl 3 0 1 none) 3 (.row l' 46 (0, 0) (some 4)) = [
  (0 : Nat) = (0 : Nat) ∧ (1 : Nat) = (1 : Nat) ∧ (none : Option Nat) = none,
  [] ++
   List.take (4 : Nat)
   (List.drop (0 : Nat)
   (splice
   (List.replicate (1 : Nat)
   (List.map SV.v
   {
   toList :=
   [Value.string { data := { toList := [] : Array UInt8 } : ByteArray },
   Value.int IntKind.u64 (0 : Int), Value.int IntKind.i64 (0 : Int),
   Value.slice none (0 : Nat) (0 : Nat)] :
   Array Value }.toList)).flatten
   (0 : Nat) (List.take (4 : Nat) (List.drop (0 : Nat) (eC x))))) =
   l',
  l'.all closedSV = true,
  decide (i < (↑n : Int)) = false] := by kernel_rfl
theorem wi7 (l l' m w w2 : List SV) (n c k : Nat) (x e : EntT) (i i' : Int) : endsO EWi 48 60 (SM.at (hdWi n c (.sl 2 0 k none) false i) 6 [lkE l, boxE x, rowsE m]) (ff [0] false ++ [(2, .app m w)]) (.sl 4 0 (k + 1) none) 4 (.row l' 46 (0, 0) (some 4)) = [
  (0 : Nat) = (0 : Nat) ∧ k + (1 : Nat) = k + (1 : Nat) ∧ (none : Option Nat) = none,
  m ++ w = l',
  l'.all closedSV = true,
  ((List.take (4 : Nat)
   (List.drop (0 : Nat)
   (splice
   (List.replicate (1 : Nat)
   (List.map SV.v
   {
   toList :=
   [Value.string { data := { toList := [] : Array UInt8 } : ByteArray },
   Value.int IntKind.u64 (0 : Int), Value.int IntKind.i64 (0 : Int),
   Value.slice none (0 : Nat) (0 : Nat)] :
   Array Value }.toList)).flatten
   (0 : Nat) (List.take (4 : Nat) (List.drop (0 : Nat) (eC x))))) =
   w ∧
   w.length = (1 : Nat) * (4 : Nat)) ∧
   (1 : Nat) ≠ (0 : Nat) ∧ ((2 : Nat) * (k + (1 : Nat)) + (1024 : Nat)) * (56 : Nat) ≤ (140737488355328 : Nat)) ∧
   List.take (k * (4 : Nat)) m = m ∧ m.length = k * (4 : Nat) ∧ w.all SV.flat = true,
  decide (i < (↑n : Int)) = false] := by kernel_rfl
theorem wi8 (l l' m w w2 : List SV) (n c k : Nat) (x e : EntT) (i i' : Int) : endsO EWi 48 60 (SM.at (hdWi n c (.sl 2 0 k none) true i) 6 [lkE l, boxE x, rowsE m]) (ff [0] false) (.sl 2 0 k none) 2 (.row l' 46 (0, 0) (some 4)) = [
  (0 : Nat) = (0 : Nat) ∧ k = k ∧ (none : Option Nat) = none,
  m = l',
  l'.all closedSV = true,
  decide (i < (↑n : Int)) = false] := by kernel_rfl
noncomputable def entW0 (x : EntT) : SM := (enterS EWi 48 [.v (.slice none 0 0), .v (.agg #[.string x.p, .int .u64 x.v, .int .i64 x.k, .slice x.a x.l x.c])] (memOf 6 0 0 [])).getD noSM
theorem wi9 (x : EntT) (l' : List SV) : endsO EWi 48 60 (entW0 x) [(1000, .b true)] (.sl 2 0 1 none) 2 (.row l' 46 (0, 0) (some 4)) = [
  (0 : Nat) = (0 : Nat) ∧ (1 : Nat) = (1 : Nat) ∧ (none : Option Nat) = none,
  [] ++
   List.take (4 : Nat)
   (List.drop (0 : Nat)
   (splice
   (List.replicate (1 : Nat)
   (List.map SV.v
   {
   toList :=
   [Value.string { data := { toList := [] : Array UInt8 } : ByteArray },
   Value.int IntKind.u64 (0 : Int), Value.int IntKind.i64 (0 : Int),
   Value.slice none (0 : Nat) (0 : Nat)] :
   Array Value }.toList)).flatten
   (0 : Nat)
   (List.take (4 : Nat)
   (List.drop (0 : Nat)
   (List.map SV.v
   {
   toList :=
   [Value.string x.1, Value.int IntKind.u64 x.2, Value.int IntKind.i64 x.3,
   Value.slice x.4 x.5 x.6] :
   Array Value }.toList))))) =
   l',
  l'.all closedSV = true] := by kernel_rfl
end paths
end Go.Proofs.YtiggmgcnjmalfaaGreatDoor
namespace Go.Proofs.YtiggmgcnjmalfaaGreatDoor
open Go Go.Rx Go.RowKit Go.Proofs
set_option linter.unusedVariables false
set_option linter.unusedSimpArgs false
set_option maxRecDepth 100000
namespace paths
/-- With an entry more, ahead of the first that stands behind it. -/
def insE (x : EntT) : List EntT → List EntT
  | [] => [x]
  | e :: l => if cmpN e.p x.p > 0 then x :: e :: l else e :: insE x l
theorem insE_len (x : EntT) : ∀ l : List EntT, (insE x l).length = l.length + 1
  | [] => rfl
  | e :: l => by
    unfold insE
    split
    · rfl
    · rw [List.length_cons, insE_len x l, List.length_cons]
/-- What comes of with. -/
def RI (w0 : World) (xs : List EntT) (e : Ending) (w' : World) : Prop := Below w0.heap.size w0 w' ∧ ∃ y, e = .returned y ∧ NewSl w0 w' y (vE xs) xs.length 4 46
theorem KWi {M : Own} {w0 : World} : Facts EWi M w0 := factsP0 fun r h => by rw [List.mem_singleton.1 h]; exact rcmp_ok
section
variable {w0 : World} {cs0 : List Frame} {xs : List EntT} {x : EntT} {b : Nat × Nat} {c : Nat}
theorem loopWi3 (hl : xs.length ≤ 1000) : ∀ (j i : Nat), i + j = xs.length → ∀ (out : List EntT), out.length ≤ i + 1 →
    Goes EWi (layOwn [b] [(.look (cE xs), false)]) w0 cs0 48 (RI w0 (out ++ xs.drop i)) (layVal [b]) (SM.at (hdWi xs.length c (.sl 2 0 out.length none) true i) 6 [lkE (cE xs), boxE x, rowsE (cE out)])
  | 0, i, hj, out, ho => by
    rw [List.drop_eq_nil_of_le (by omega), List.append_nil]
    refine ends_sl (j := 2) KWi none1' (n := 60) (o := ff [0] false) ⟨?_⟩ fun w' y hB hy => ⟨hB, y, rfl, hy⟩
    rw [wi8 (l := cE xs) (m := cE out) (w := []) (w2 := []) (e := x) (i' := 0)]
    simp only [Owed, cE_closed, and_self, and_true, true_and]
    exact decide_eq_false (by omega)
  | j + 1, i, hj, out, ho => by
    have hi : i < xs.length := by omega
    have hxi : xs[i]? = some xs[i] := List.getElem?_eq_getElem hi
    have t1 : decide ((i : Int) < (xs.length : Int)) = true := decide_eq_true (by omega)
    have r1 := in_range hi
    have ws := wrap_succ (k := i) (by omega)
    have ra := cE_at hxi
    have nx := loopWi3 hl j (i + 1) (by omega) (out ++ [xs[i]]) (by rw [List.length_append]; simp; omega)
    rw [List.append_assoc, List.singleton_append, ← List.drop_eq_getElem_cons hi, List.length_append, show ([xs[i]] : List EntT).length = 1 from rfl] at nx
    refine Goes.reach KWi (k := 2) (n := 100) (o := (ff [0] true ++ [(13, .cells (eC xs[i])), (14, .app (cE out) (eC xs[i]))])) (ren := [(0, 0), (1, 1), (2, 4)]) (eqs := [0, 2]) ?_ (by kernel_rfl) (fun i b h => by rw [lay1' h]; rfl) nx
    rw [wi5 (w2 := [])]
    simp only [Owed, Int.toNat_natCast, t1, r1, ra, ws, eC_len, cE_closed, cE_flat, cE_app, cE_one, cE_len, List.all_append, and_self, and_true, true_and]
    repeat' apply And.intro
    all_goals first | rfl | omega | exact List.take_of_length_le (by rw [cE_len]; exact Nat.le_refl _) | exact eC_closed _ | skip
theorem loopWi2 (hl : xs.length ≤ 1000) (hp : x.p.size ≤ 1000000000) (hs : ∀ e ∈ xs, e.p.size ≤ 1000000000) : ∀ (j i : Nat), i + j = xs.length → 0 < i →
    Goes EWi (layOwn [b] [(.look (cE xs), false)]) w0 cs0 48 (RI w0 (xs.take i ++ insE x (xs.drop i))) (layVal [b]) (SM.at (hdWi xs.length c (.sl 2 0 (xs.take i).length none) false i) 6 [lkE (cE xs), boxE x, rowsE (cE (xs.take i))])
  | 0, i, hj, h0 => by
    have hlen : (xs.take i).length = i := by rw [List.length_take]; omega
    rw [List.drop_eq_nil_of_le (by omega), show insE x [] = [x] from rfl]
    refine ends_sl (j := 4) KWi none1' (n := 60) (o := (ff [0] false ++ [(2, .app (cE (xs.take i)) (eC x))])) ⟨?_⟩ fun w' y hB hy => ⟨hB, y, rfl, hy⟩
    rw [List.length_append, show ([x] : List EntT).length = 1 from rfl, wi7 (w2 := []) (e := x) (i' := 0)]
    simp only [Owed, eC_len, cE_closed, cE_flat, cE_app, cE_one, cE_len, hlen, List.all_append, and_self, and_true, true_and]
    repeat' apply And.intro
    all_goals first | rfl | omega | exact List.take_of_length_le (by rw [cE_len, hlen]; exact Nat.le_refl _) | exact eC_closed _ | exact decide_eq_false (by omega) | skip
  | j + 1, i, hj, h0 => by
    have hi : i < xs.length := by omega
    have hlen : (xs.take i).length = i := by rw [List.length_take]; omega
    have hxi : xs[i]? = some xs[i] := List.getElem?_eq_getElem hi
    have t1 : decide ((i : Int) < (xs.length : Int)) = true := decide_eq_true (by omega)
    have r1 := in_range hi
    have ws := wrap_succ (k := i) (by omega)
    have ra := cE_at hxi
    have rc := cE_cell0 hxi
    have z1 := hs _ (List.getElem_mem hi)
    have hd := List.drop_eq_getElem_cons hi
    have ht := List.take_succ_eq_append_getElem hi
    by_cases hc : cmpN xs[i].p x.p > 0
    · have tc := decide_eq_true hc
      have nx := loopWi3 (w0 := w0) (cs0 := cs0) (x := x) (b := b) (c := c) hl j (i + 1) (by omega) (xs.take i ++ [x] ++ [xs[i]]) (by rw [List.length_append, List.length_append, hlen]; simp)
      have e1 : xs.take i ++ [x] ++ [xs[i]] ++ xs.drop (i + 1) = xs.take i ++ insE x (xs.drop i) := by
        rw [hd]; unfold insE; rw [if_pos hc]; simp
      rw [e1, List.length_append, List.length_append, show ([x] : List EntT).length = 1 from rfl, show ([xs[i]] : List EntT).length = 1 from rfl] at nx
      refine Goes.reach KWi (k := 2) (n := 100) (o := (ff [0] true ++ [(7, .cells [.v (.string xs[i].p)])] ++ ff [14] true ++ [(15, .app (cE (xs.take i)) (eC x)), (17, .cells (eC xs[i])), (18, .app (cE (xs.take i) ++ eC x) (eC xs[i]))])) (ren := [(0, 0), (1, 1), (2, 6)]) (eqs := [0, 2]) ?_ (by kernel_rfl) (fun i b h => by rw [lay1' h]; rfl) nx
      rw [show (xs.take i).length + 1 + 1 = (xs.take i).length + 2 from rfl, wi4]
      simp only [Owed, Int.toNat_natCast, t1, r1, ra, rc, ws, tc, z1, hp, eC_len, cE_closed, cE_flat, cE_app, cE_one, cE_len, hlen, List.all_append, List.length_append, and_self, and_true, true_and]
      repeat' apply And.intro
      all_goals first | rfl | omega | exact List.take_of_length_le (by rw [cE_len, hlen]; exact Nat.le_refl _) | exact List.take_of_length_le (by rw [List.length_append, cE_len, hlen, eC_len]; omega) | exact eC_closed _ | skip
    · have tc := decide_eq_false hc
      have nx := loopWi2 hl hp hs j (i + 1) (by omega) (by omega)
      have e1 : xs.take (i + 1) ++ insE x (xs.drop (i + 1)) = xs.take i ++ insE x (xs.drop i) := by
        rw [hd, ht]; conv => rhs; unfold insE
        rw [if_neg hc, List.append_assoc]; rfl
      rw [e1, ht, List.length_append, show ([xs[i]] : List EntT).length = 1 from rfl] at nx
      refine Goes.reach KWi (k := 2) (n := 100) (o := (ff [0] true ++ [(7, .cells [.v (.string xs[i].p)]), (16, .cells (eC xs[i])), (17, .app (cE (xs.take i)) (eC xs[i]))] ++ ff [14] false)) (ren := [(0, 0), (1, 1), (2, 4)]) (eqs := [0, 2]) ?_ (by kernel_rfl) (fun i b h => by rw [lay1' h]; rfl) nx
      rw [wi2 (w2 := [])]
      simp only [Owed, Int.toNat_natCast, t1, r1, ra, rc, ws, tc, z1, hp, eC_len, cE_closed, cE_flat, cE_app, cE_one, cE_len, hlen, List.all_append, and_self, and_true, true_and]
      repeat' apply And.intro
      all_goals first | rfl | omega | exact List.take_of_length_le (by rw [cE_len, hlen]; exact Nat.le_refl _) | exact eC_closed _ | skip
theorem firstWi (hl : xs.length ≤ 1000) (hp : x.p.size ≤ 1000000000) (hs : ∀ e ∈ xs, e.p.size ≤ 1000000000) (h0 : 0 < xs.length) :
    Goes EWi (layOwn [b] [(.look (cE xs), false)]) w0 cs0 48 (RI w0 (insE x xs)) (layVal [b]) (SM.at (hdWi xs.length c nilE false (0 : Nat)) 6 [lkE (cE xs), boxE x]) := by
  have hxi : xs[0]? = some xs[0] := List.getElem?_eq_getElem h0
  have t1 : decide (((0 : Nat) : Int) < (xs.length : Int)) = true := decide_eq_true (by omega)
  have r1 := in_range h0
  have ws := wrap_succ (k := 0) (by omega)
  have ra := cE_at hxi
  have rc := cE_cell0 hxi
  have z1 := hs _ (List.getElem_mem h0)
  have hd := List.drop_eq_getElem_cons h0
  rw [List.drop_zero] at hd
  have ht := List.take_succ_eq_append_getElem h0
  rw [List.take_zero, List.nil_append] at ht
  by_cases hc : cmpN xs[0].p x.p > 0
  · have tc := decide_eq_true hc
    have nx := loopWi3 (w0 := w0) (cs0 := cs0) (x := x) (b := b) (c := c) hl (xs.length - 1) (0 + 1) (by omega) ([x] ++ [xs[0]]) (by simp)
    have e1 : [x] ++ [xs[0]] ++ xs.drop (0 + 1) = insE x xs := by
      conv => rhs; rw [hd]
      unfold insE; rw [if_pos hc]; simp
    rw [e1, show (([x] : List EntT) ++ [xs[0]]).length = 2 from rfl] at nx
    refine Goes.reach KWi (k := 2) (n := 100) (o := (ff [0] true ++ [(7, .cells [.v (.string xs[0].p)])] ++ ff [14] true ++ [(17, .cells (eC xs[0]))])) (ren := [(0, 0), (1, 1), (2, 5)]) (eqs := [0, 2]) ?_ (by kernel_rfl) (fun i b h => by rw [lay1' h]; rfl) nx
    rw [wi3 (m := []) (w := []) (w2 := []) (k := 0)]
    simp only [Owed, Int.toNat_natCast, t1, r1, ra, rc, ws, tc, z1, hp, eC_len, cE_closed, cE_app, cE_one, and_self, and_true, true_and]
    repeat' apply And.intro
    all_goals first | rfl | omega | exact eC_closed _ | (simp [eC_closed, List.all_append]; done) | skip
  · have tc := decide_eq_false hc
    have nx := loopWi2 (w0 := w0) (cs0 := cs0) (x := x) (b := b) (c := c) hl hp hs (xs.length - 1) (0 + 1) (by omega) (by omega)
    have e1 : xs.take (0 + 1) ++ insE x (xs.drop (0 + 1)) = insE x xs := by
      rw [ht]
      conv => rhs; rw [hd]; unfold insE
      rw [if_neg hc]; rfl
    rw [e1, ht, show ([xs[0]] : List EntT).length = 1 from rfl] at nx
    refine Goes.reach KWi (k := 2) (n := 100) (o := (ff [0] true ++ [(7, .cells [.v (.string xs[0].p)]), (16, .cells (eC xs[0]))] ++ ff [14] false)) (ren := [(0, 0), (1, 1), (2, 3)]) (eqs := [0, 2]) ?_ (by kernel_rfl) (fun i b h => by rw [lay1' h]; rfl) nx
    rw [wi1 (m := []) (w := []) (w2 := []) (k := 0)]
    simp only [Owed, Int.toNat_natCast, t1, r1, ra, rc, ws, tc, z1, hp, eC_len, cE_closed, cE_one, and_self, and_true, true_and]
    repeat' apply And.intro
    all_goals first | rfl | omega | exact eC_closed _ | skip
end
end paths
end Go.Proofs.YtiggmgcnjmalfaaGreatDoor
namespace Go.Proofs.YtiggmgcnjmalfaaGreatDoor
open Go Go.Rx Go.RowKit Go.Proofs
set_option linter.unusedVariables false
set_option linter.unusedSimpArgs false
set_option maxRecDepth 100000
namespace paths
/-- An entry, as a value tells it. -/
def decV : Value → Option EntT
  | .agg a => match a.toList with
    | [.string p, .int .u64 v, .int .i64 k, .slice a l c] => some ⟨p, v, k, a, l, c⟩
    | _ => none
  | _ => none
def decX (x : SV) : Option EntT := (plainV x).bind decV
theorem decV_ok {y : Value} {x : EntT} (h : decV y = some x) : y = .agg (eV x).toArray := by
  unfold decV at h
  split at h
  · rename_i a
    split at h
    · rename_i p v k a' l c ha
      cases h
      cases a with | mk l' => cases ha; rfl
    · cases h
  · cases h
theorem decX_ok {ν : Val} {X : SV} {x : EntT} {y : Value} (h : decX X = some x) (hv : VR ν X y) : y = .agg (eV x).toArray := by
  unfold decX at h
  obtain ⟨z, hz, h⟩ := Option.bind_eq_some_iff.1 h
  rw [plainV_ok hz hv]
  exact decV_ok h
/-- A list that comes: nil, or a row. -/
def listOf (a : SV) (s : SH) : Option (List EntT × Prop) := match a with
  | .v (.slice none 0 0) => some ([], True)
  | .sl i 0 n none => match s.look i with
    | some (.row ys e (0, 0) (some 4), _) => some (entsOf ys n, e = 46 ∧ HoldsE ys n (entsOf ys n) ∧ entsOf ys n ≠ [])
    | _ => none
  | _ => none
/-- .. as it is found. -/
theorem listOf_ok {a : SV} {s : SH} {xs : List EntT} {p : Prop} (h : listOf a s = some (xs, p)) (hp : p) : (xs = [] ∧ a = .v (.slice none 0 0)) ∨ (xs ≠ [] ∧ xs.length ≤ 1000 ∧ ∃ i mk, a = .sl i 0 xs.length none ∧ s.look i = some (.row (cE xs) 46 (0, 0) (some 4), mk)) := by
  unfold listOf at h
  split at h
  · cases h; exact .inl ⟨rfl, rfl⟩
  · rename_i i n
    split at h
    · rename_i ys e mk hl
      cases h
      obtain ⟨he, ⟨hc, hn, hf⟩, hne⟩ := hp
      subst he
      generalize entsOf ys n = xs at *
      subst hc hn
      exact .inr ⟨hne, hf, i, mk, rfl, hl⟩
    · cases h
  · cases h
def withS : SlG := fun args s => match args with
  | [A, X] => match decX X, listOf A s with
    | some x, some (xs, p) => some (vE (insE x xs), xs.length + 1, 4, 46, none, p ∧ x.p.size ≤ 1000000000 ∧ ∀ e ∈ xs, e.p.size ≤ 1000000000)
    | _, _ => none
  | _ => none
theorem with_ok {X : World → Prop} : SumOK Tryz.prog X (48, slSumG withS) := by
  refine slSumG_ok ⟨_, Tryz.func48, by kernel_rfl, by kernel_rfl⟩ fun args sh ys n C elem ex p h hp ν M w0 w a hr hX ha => ?_
  dsimp only [withS] at h
  split at h
  · rename_i A Xa
    split at h
    · rename_i x xs q hx hxs
      cases h
      obtain ⟨hq, hxp, hes⟩ := hp
      obtain ⟨y1, as1, rfl, q1, ha2⟩ := ha.cons_inv
      obtain ⟨y2, as2, rfl, q2, ha3⟩ := ha2.cons_inv
      obtain rfl := ha3.nil_inv
      obtain rfl := decX_ok hx q2
      rcases listOf_ok hxs hq with ⟨rfl, rfl⟩ | ⟨hne, hfew, i, mk, rfl, hl⟩
      · obtain rfl := VR.v_iff.1 q1
        refine calls_bareR (E := EWi) rfl rfl (args := [.v (.slice none 0 0), .v (.agg #[.string x.p, .int .u64 x.v, .int .i64 x.k, .slice x.a x.l x.c])]) (S0 := entW0 x) (by kernel_rfl) (VRL.cons (VR.v_iff.2 rfl) (VRL.cons (VR.v_iff.2 rfl) VRL.nil)) fun cs0 => ?_
        refine ends_sl (l := [x]) (m := 1) (j := 2) KWi not_laid (n := 60) (o := [(1000, .b true)]) ⟨?_⟩ fun w' y hB hy => ⟨hB, y, rfl, hy⟩
        rw [wi9]
        simp only [Owed, cE_one, eC_closed, and_self, and_true, true_and]
        first | done | rfl | skip
      · obtain ⟨bb, hbb, hle, rfl⟩ := VR.sl_iff.1 q1
        refine calls_row (E := EWi) rfl rfl hr hl (cE_closed xs) (args' := fun c => [.sl 0 0 xs.length (some c), .v (.agg #[.string x.p, .int .u64 x.v, .int .i64 x.k, .slice x.a x.l x.c])]) (S0 := fun c => entWi (cE xs) xs.length c x) (fun b hb => ?_) (fun c => by kernel_rfl) fun b cs0 => ?_
        · rw [hbb] at hb; cases hb
          have hle' : xs.length ≤ bb.2 := hle
          exact VRL.cons (VR.sl_iff.2 ⟨bb, rfl, hle', rfl⟩) (VRL.cons (VR.v_iff.2 rfl) VRL.nil)
        · have nx := firstWi (w0 := w) (cs0 := cs0) (b := b) (c := b.2) (x := x) (xs := xs) hfew hxp hes (List.length_pos_iff.2 hne)
          unfold RI at nx
          rw [insE_len] at nx
          refine Goes.reach KWi (k := 2) (n := 60) (o := [(1000, .b true)]) (ren := [(0, 0), (1, 1)]) (eqs := [0]) (F := hdWi xs.length b.2 nilE false 0) (d := 6) (l := [lkE (cE xs), boxE x]) ?_ (by kernel_rfl) (fun i b h => by rw [lay1' h]; rfl) nx
          rw [wi0]
          simp only [Owed, cE_closed, eC_closed, and_self]
    · cases h
  · cases h
end paths
end Go.Proofs.YtiggmgcnjmalfaaGreatDoor
