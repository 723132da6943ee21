/- What the law AuditBooks leans on, part 6: the symbolic executor, proved sound, contracts of functions, plain lemmas. By an AI agent. -/
import Derived.Test.YtbjmmnegkpeboaaGreatPk5
set_option linter.unusedSimpArgs false
set_option linter.unusedVariables false
set_option maxRecDepth 100000
namespace Go.Proofs.YtbjmmnegkpeboaaGreat
open Go Go.Rx Go.RowKit Go.Proofs
namespace paths
noncomputable def entOr (l:List SV) (off n c:Nat):SM:=(enterS EN0 12 [.sl 0 off n (some c)] (memOf 6 1 0 [lkE l])).getD noSM
noncomputable def todoOr:List SI:=todoL EN0 2 60 (entOr [] 0 0 0) [(1000,.b true)]
noncomputable def hdOr (off n c:Nat) (x:SV) (i:Int):SF:={ fn:=12,tm:=tmOf 50 6 ([.sl 0 off n (some c),.junk,.junk,x,.v (.int .i64 i)]++List.replicate 45 .junk),todo:=todoOr,defers:=[],ret:=false,kind:=.normal,ro:=none }
theorem or0 (l:List SV) (off n c:Nat):reach EN0 2 60 (entOr l off n c) [(1000,.b true)] [(0,0)] [0] (hdOr off n c nilE 0) 6 [lkE l]=[
 off=off∧n=n∧some c=some c,
 Value.slice none (0:Nat) (0:Nat)=Value.slice none (0:Nat) (0:Nat),
 Value.int IntKind.i64 (0:Int)=Value.int IntKind.i64 (0:Int),
 l=l,
 l.all closedSV=true]:=by kernel_rfl
theorem orA0 (l l' : List SV) (off n c : Nat) (x : OutT) (i i' : Int) : reach EN0 2 100 (SM.at (hdOr off n c nilE i) 6 [lkE l]) (ff [0] true ++ [(2, .cells (oC x))] ++ ff [3, 4, 5, 6] true ++ ff [20] false) [(0, 0), (1, 3)] [0, 1] (hdOr off n c (.sl 1 0 1 none) i') 6 [lkE l, strR l'] = [
  off = off ∧ n = n ∧ some c = some c,
  (0 : Nat) = (0 : Nat) ∧ (1 : Nat) = (1 : Nat) ∧ (none : Option Nat) = none,
  Value.int IntKind.i64 (IntKind.i64.wrap (i + (1 : Int))) = Value.int IntKind.i64 i',
  l = l,
  l.all closedSV = true,
  [] ++
   List.take (1 : Nat)
   (List.drop (0 : Nat)
   (splice
   (List.replicate (1 : Nat)
   (List.map SV.v
   { toList := [Value.string { data := { toList := [] : Array UInt8 } : ByteArray }] :
   Array Value }.toList)).flatten
   (0 : Nat) [SV.v (Value.string x.1)])) =
   l',
  l'.all closedSV = true,
  false = false,
  decide (x.2 < (1 : Int)) = true,
  decide (x.2 < (1 : Int)) = true,
  decide (x.2 < (1 : Int)) = true,
  decide (x.2 < (1 : Int)) = true,
  List.take (3 : Nat) (List.drop (off + i.toNat * (3 : Nat)) l) = oC x ∧ (oC x).length = (3 : Nat),
  inRange i n = true,
  decide (i < (↑n : Int)) = true] := by kernel_rfl
theorem orA1 (l m w l' : List SV) (off n c k : Nat) (x : OutT) (i i' : Int) : reach EN0 2 100 (SM.at (hdOr off n c (.sl 1 0 k none) i) 6 [lkE l, strR m]) (ff [0] true ++ [(2, .cells (oC x))] ++ ff [3, 4, 5, 6] true ++ [(20, .app m w)]) [(0, 0), (1, 4)] [0, 1] (hdOr off n c (.sl 1 0 (k + 1) none) i') 6 [lkE l, strR l'] = [
  off = off ∧ n = n ∧ some c = some c,
  (0 : Nat) = (0 : Nat) ∧ k + (1 : Nat) = k + (1 : Nat) ∧ (none : Option Nat) = none,
  Value.int IntKind.i64 (IntKind.i64.wrap (i + (1 : Int))) = Value.int IntKind.i64 i',
  l = l,
  l.all closedSV = true,
  m ++ w = l',
  l'.all closedSV = true,
  ((List.take (1 : Nat)
   (List.drop (0 : Nat)
   (splice
   (List.replicate (1 : Nat)
   (List.map SV.v
   { toList := [Value.string { data := { toList := [] : Array UInt8 } : ByteArray }] :
   Array Value }.toList)).flatten
   (0 : Nat) [SV.v (Value.string x.1)])) =
   w ∧
   w.length = (1 : Nat) * (1 : Nat)) ∧
   (1 : Nat) ≠ (0 : Nat) ∧ ((2 : Nat) * (k + (1 : Nat)) + (1024 : Nat)) * (16 : Nat) ≤ (140737488355328 : Nat)) ∧
   List.take (k * (1 : Nat)) m = m ∧ m.length = k * (1 : Nat) ∧ w.all SV.flat = true,
  decide (x.2 < (1 : Int)) = true,
  decide (x.2 < (1 : Int)) = true,
  decide (x.2 < (1 : Int)) = true,
  decide (x.2 < (1 : Int)) = true,
  List.take (3 : Nat) (List.drop (off + i.toNat * (3 : Nat)) l) = oC x ∧ (oC x).length = (3 : Nat),
  inRange i n = true,
  decide (i < (↑n : Int)) = true] := by kernel_rfl
theorem orB0 (l l' : List SV) (off n c : Nat) (x : OutT) (i i' : Int) : reach EN0 2 100 (SM.at (hdOr off n c nilE i) 6 [lkE l]) (ff [0] true ++ [(2, .cells (oC x))] ++ ff [3, 4, 5, 6] false ++ ff [7, 8, 9, 10, 11, 12] true ++ ff [20] false) [(0, 0), (1, 3)] [0, 1] (hdOr off n c (.sl 1 0 1 none) i') 6 [lkE l, strR l'] = [
  off = off ∧ n = n ∧ some c = some c,
  (0 : Nat) = (0 : Nat) ∧ (1 : Nat) = (1 : Nat) ∧ (none : Option Nat) = none,
  Value.int IntKind.i64 (IntKind.i64.wrap (i + (1 : Int))) = Value.int IntKind.i64 i',
  l = l,
  l.all closedSV = true,
  [] ++
   List.take (1 : Nat)
   (List.drop (0 : Nat)
   (splice
   (List.replicate (1 : Nat)
   (List.map SV.v
   { toList := [Value.string { data := { toList := [] : Array UInt8 } : ByteArray }] :
   Array Value }.toList)).flatten
   (0 : Nat) [SV.v (Value.string x.1)])) =
   l',
  l'.all closedSV = true,
  false = false,
  decide (x.2 > (6 : Int)) = true,
  decide (x.2 > (6 : Int)) = true,
  decide (x.2 > (6 : Int)) = true,
  decide (x.2 > (6 : Int)) = true,
  decide (x.2 > (6 : Int)) = true,
  decide (x.2 > (6 : Int)) = true,
  decide (x.2 < (1 : Int)) = false,
  decide (x.2 < (1 : Int)) = false,
  decide (x.2 < (1 : Int)) = false,
  decide (x.2 < (1 : Int)) = false,
  List.take (3 : Nat) (List.drop (off + i.toNat * (3 : Nat)) l) = oC x ∧ (oC x).length = (3 : Nat),
  inRange i n = true,
  decide (i < (↑n : Int)) = true] := by kernel_rfl
theorem orB1 (l m w l' : List SV) (off n c k : Nat) (x : OutT) (i i' : Int) : reach EN0 2 100 (SM.at (hdOr off n c (.sl 1 0 k none) i) 6 [lkE l, strR m]) (ff [0] true ++ [(2, .cells (oC x))] ++ ff [3, 4, 5, 6] false ++ ff [7, 8, 9, 10, 11, 12] true ++ [(20, .app m w)]) [(0, 0), (1, 4)] [0, 1] (hdOr off n c (.sl 1 0 (k + 1) none) i') 6 [lkE l, strR l'] = [
  off = off ∧ n = n ∧ some c = some c,
  (0 : Nat) = (0 : Nat) ∧ k + (1 : Nat) = k + (1 : Nat) ∧ (none : Option Nat) = none,
  Value.int IntKind.i64 (IntKind.i64.wrap (i + (1 : Int))) = Value.int IntKind.i64 i',
  l = l,
  l.all closedSV = true,
  m ++ w = l',
  l'.all closedSV = true,
  ((List.take (1 : Nat)
   (List.drop (0 : Nat)
   (splice
   (List.replicate (1 : Nat)
   (List.map SV.v
   { toList := [Value.string { data := { toList := [] : Array UInt8 } : ByteArray }] :
   Array Value }.toList)).flatten
   (0 : Nat) [SV.v (Value.string x.1)])) =
   w ∧
   w.length = (1 : Nat) * (1 : Nat)) ∧
   (1 : Nat) ≠ (0 : Nat) ∧ ((2 : Nat) * (k + (1 : Nat)) + (1024 : Nat)) * (16 : Nat) ≤ (140737488355328 : Nat)) ∧
   List.take (k * (1 : Nat)) m = m ∧ m.length = k * (1 : Nat) ∧ w.all SV.flat = true,
  decide (x.2 > (6 : Int)) = true,
  decide (x.2 > (6 : Int)) = true,
  decide (x.2 > (6 : Int)) = true,
  decide (x.2 > (6 : Int)) = true,
  decide (x.2 > (6 : Int)) = true,
  decide (x.2 > (6 : Int)) = true,
  decide (x.2 < (1 : Int)) = false,
  decide (x.2 < (1 : Int)) = false,
  decide (x.2 < (1 : Int)) = false,
  decide (x.2 < (1 : Int)) = false,
  List.take (3 : Nat) (List.drop (off + i.toNat * (3 : Nat)) l) = oC x ∧ (oC x).length = (3 : Nat),
  inRange i n = true,
  decide (i < (↑n : Int)) = true] := by kernel_rfl
theorem orC0 (l l' : List SV) (off n c : Nat) (x : OutT) (i i' : Int) : reach EN0 2 100 (SM.at (hdOr off n c nilE i) 6 [lkE l]) (ff [0] true ++ [(2, .cells (oC x))] ++ ff [3, 4, 5, 6, 7, 8, 9, 10] false ++ ff [11, 12, 13] true ++ ff [14] false ++ ff [15] true ++ ff [16] false ++ ff [17, 18, 19, 20, 21, 22] true ++ ff [24] false) [(0, 0), (1, 3)] [0, 1] (hdOr off n c (.sl 1 0 1 none) i') 6 [lkE l, strR l'] = [
  off = off ∧ n = n ∧ some c = some c,
  (0 : Nat) = (0 : Nat) ∧ (1 : Nat) = (1 : Nat) ∧ (none : Option Nat) = none,
  Value.int IntKind.i64 (IntKind.i64.wrap (i + (1 : Int))) = Value.int IntKind.i64 i',
  l = l,
  l.all closedSV = true,
  [] ++
   List.take (1 : Nat)
   (List.drop (0 : Nat)
   (splice
   (List.replicate (1 : Nat)
   (List.map SV.v
   { toList := [Value.string { data := { toList := [] : Array UInt8 } : ByteArray }] :
   Array Value }.toList)).flatten
   (0 : Nat) [SV.v (Value.string x.1)])) =
   l',
  l'.all closedSV = true,
  false = false,
  (x.3 == (0 : Int)) = true,
  (x.3 == (0 : Int)) = true,
  (x.3 == (0 : Int)) = true,
  (x.3 == (0 : Int)) = true,
  (x.3 == (0 : Int)) = true,
  (x.3 == (0 : Int)) = true,
  decide (x.2 > (6 : Int)) = false,
  (x.2 == (5 : Int)) = true,
  decide (x.2 > (6 : Int)) = false,
  (x.2 == (5 : Int)) = true,
  (x.2 == (5 : Int)) = true,
  (x.2 == (5 : Int)) = true,
  decide (x.2 > (6 : Int)) = false,
  decide (x.2 > (6 : Int)) = false,
  decide (x.2 > (6 : Int)) = false,
  decide (x.2 > (6 : Int)) = false,
  decide (x.2 < (1 : Int)) = false,
  decide (x.2 < (1 : Int)) = false,
  decide (x.2 < (1 : Int)) = false,
  decide (x.2 < (1 : Int)) = false,
  List.take (3 : Nat) (List.drop (off + i.toNat * (3 : Nat)) l) = oC x ∧ (oC x).length = (3 : Nat),
  inRange i n = true,
  decide (i < (↑n : Int)) = true] := by kernel_rfl
theorem orC1 (l m w l' : List SV) (off n c k : Nat) (x : OutT) (i i' : Int) : reach EN0 2 100 (SM.at (hdOr off n c (.sl 1 0 k none) i) 6 [lkE l, strR m]) (ff [0] true ++ [(2, .cells (oC x))] ++ ff [3, 4, 5, 6, 7, 8, 9, 10] false ++ ff [11, 12, 13] true ++ ff [14] false ++ ff [15] true ++ ff [16] false ++ ff [17, 18, 19, 20, 21, 22] true ++ [(24, .app m w)]) [(0, 0), (1, 4)] [0, 1] (hdOr off n c (.sl 1 0 (k + 1) none) i') 6 [lkE l, strR l'] = [
  off = off ∧ n = n ∧ some c = some c,
  (0 : Nat) = (0 : Nat) ∧ k + (1 : Nat) = k + (1 : Nat) ∧ (none : Option Nat) = none,
  Value.int IntKind.i64 (IntKind.i64.wrap (i + (1 : Int))) = Value.int IntKind.i64 i',
  l = l,
  l.all closedSV = true,
  m ++ w = l',
  l'.all closedSV = true,
  ((List.take (1 : Nat)
   (List.drop (0 : Nat)
   (splice
   (List.replicate (1 : Nat)
   (List.map SV.v
   { toList := [Value.string { data := { toList := [] : Array UInt8 } : ByteArray }] :
   Array Value }.toList)).flatten
   (0 : Nat) [SV.v (Value.string x.1)])) =
   w ∧
   w.length = (1 : Nat) * (1 : Nat)) ∧
   (1 : Nat) ≠ (0 : Nat) ∧ ((2 : Nat) * (k + (1 : Nat)) + (1024 : Nat)) * (16 : Nat) ≤ (140737488355328 : Nat)) ∧
   List.take (k * (1 : Nat)) m = m ∧ m.length = k * (1 : Nat) ∧ w.all SV.flat = true,
  (x.3 == (0 : Int)) = true,
  (x.3 == (0 : Int)) = true,
  (x.3 == (0 : Int)) = true,
  (x.3 == (0 : Int)) = true,
  (x.3 == (0 : Int)) = true,
  (x.3 == (0 : Int)) = true,
  decide (x.2 > (6 : Int)) = false,
  (x.2 == (5 : Int)) = true,
  decide (x.2 > (6 : Int)) = false,
  (x.2 == (5 : Int)) = true,
  (x.2 == (5 : Int)) = true,
  (x.2 == (5 : Int)) = true,
  decide (x.2 > (6 : Int)) = false,
  decide (x.2 > (6 : Int)) = false,
  decide (x.2 > (6 : Int)) = false,
  decide (x.2 > (6 : Int)) = false,
  decide (x.2 < (1 : Int)) = false,
  decide (x.2 < (1 : Int)) = false,
  decide (x.2 < (1 : Int)) = false,
  decide (x.2 < (1 : Int)) = false,
  List.take (3 : Nat) (List.drop (off + i.toNat * (3 : Nat)) l) = oC x ∧ (oC x).length = (3 : Nat),
  inRange i n = true,
  decide (i < (↑n : Int)) = true] := by kernel_rfl
theorem orD0 (l:List SV) (off n c:Nat) (x:OutT) (i i':Int):reach EN0 2 100 (SM.at (hdOr off n c nilE i) 6 [lkE l]) (ff [0] true++[(2,.cells (oC x))]++ff [3,4,5,6,7,8,9,10,14,16,17,18,19,20,21,22,23,24,25,26,27,28,29,30,31,32,33,34,35,36,37,38,39] false++ff [11,12,13,15] true) [(0,0)] [0] (hdOr off n c nilE i') 6 [lkE l]=[
 off=off∧n=n∧some c=some c,
 Value.slice none (0:Nat) (0:Nat)=Value.slice none (0:Nat) (0:Nat),
 Value.int IntKind.i64 (IntKind.i64.wrap (i+(1:Int)))=Value.int IntKind.i64 i',
 l=l,
 l.all closedSV=true,
 false=false,
 (x.3==(0:Int))=false,
 decide (x.2<(5:Int))=false,
 (x.3==(0:Int))=false,
 decide (x.2<(5:Int))=false,
 decide (x.2<(5:Int))=false,
 decide (x.2<(5:Int))=false,
 (x.3==(0:Int))=false,
 (x.3==(0:Int))=false,
 (x.3==(0:Int))=false,
 (x.3==(0:Int))=false,
 decide (x.2>(6:Int))=false,
 (x.2==(5:Int))=true,
 decide (x.2>(6:Int))=false,
 (x.2==(5:Int))=true,
 (x.2==(5:Int))=true,
 (x.2==(5:Int))=true,
 decide (x.2>(6:Int))=false,
 decide (x.2>(6:Int))=false,
 decide (x.2>(6:Int))=false,
 decide (x.2>(6:Int))=false,
 decide (x.2<(1:Int))=false,
 decide (x.2<(1:Int))=false,
 decide (x.2<(1:Int))=false,
 decide (x.2<(1:Int))=false,
 List.take (3:Nat) (List.drop (off+i.toNat*(3:Nat)) l)=oC x∧(oC x).length=(3:Nat),
 inRange i n=true,
 decide (i<(↑n:Int))=true]:=by kernel_rfl
theorem orD1 (l m:List SV) (off n c k:Nat) (x:OutT) (i i':Int):reach EN0 2 100 (SM.at (hdOr off n c (.sl 1 0 k none) i) 6 [lkE l,strR m]) (ff [0] true++[(2,.cells (oC x))]++ff [3,4,5,6,7,8,9,10,14,16,17,18,19,20,21,22,23,24,25,26,27,28,29,30,31,32,33,34,35,36,37,38,39] false++ff [11,12,13,15] true) [(0,0),(1,1)] [0,1] (hdOr off n c (.sl 1 0 k none) i') 6 [lkE l,strR m]=[
 off=off∧n=n∧some c=some c,
 (0:Nat)=(0:Nat)∧k=k∧(none:Option Nat)=none,
 Value.int IntKind.i64 (IntKind.i64.wrap (i+(1:Int)))=Value.int IntKind.i64 i',
 l=l,
 l.all closedSV=true,
 m=m,
 m.all closedSV=true,
 false=false,
 (x.3==(0:Int))=false,
 decide (x.2<(5:Int))=false,
 (x.3==(0:Int))=false,
 decide (x.2<(5:Int))=false,
 decide (x.2<(5:Int))=false,
 decide (x.2<(5:Int))=false,
 (x.3==(0:Int))=false,
 (x.3==(0:Int))=false,
 (x.3==(0:Int))=false,
 (x.3==(0:Int))=false,
 decide (x.2>(6:Int))=false,
 (x.2==(5:Int))=true,
 decide (x.2>(6:Int))=false,
 (x.2==(5:Int))=true,
 (x.2==(5:Int))=true,
 (x.2==(5:Int))=true,
 decide (x.2>(6:Int))=false,
 decide (x.2>(6:Int))=false,
 decide (x.2>(6:Int))=false,
 decide (x.2>(6:Int))=false,
 decide (x.2<(1:Int))=false,
 decide (x.2<(1:Int))=false,
 decide (x.2<(1:Int))=false,
 decide (x.2<(1:Int))=false,
 List.take (3:Nat) (List.drop (off+i.toNat*(3:Nat)) l)=oC x∧(oC x).length=(3:Nat),
 inRange i n=true,
 decide (i<(↑n:Int))=true]:=by kernel_rfl
theorem orE0 (l:List SV) (off n c:Nat) (x:OutT) (i i':Int):reach EN0 2 100 (SM.at (hdOr off n c nilE i) 6 [lkE l]) (ff [0] true++[(2,.cells (oC x))]++ff [3,4,5,6,7,8,9,10,11,12,13,14,15,16,17,18,19,20,21,22,23,24,25,26,27,28,29,30,31,32,33,34,35,36,37,38,39] false) [(0,0)] [0] (hdOr off n c nilE i') 6 [lkE l]=[
 off=off∧n=n∧some c=some c,
 Value.slice none (0:Nat) (0:Nat)=Value.slice none (0:Nat) (0:Nat),
 Value.int IntKind.i64 (IntKind.i64.wrap (i+(1:Int)))=Value.int IntKind.i64 i',
 l=l,
 l.all closedSV=true,
 false=false,
 false=false,
 decide (x.2<(5:Int))=false,
 false=false,
 decide (x.2<(5:Int))=false,
 decide (x.2<(5:Int))=false,
 decide (x.2<(5:Int))=false,
 false=false,
 false=false,
 false=false,
 false=false,
 decide (x.2>(6:Int))=false,
 (x.2==(5:Int))=false,
 decide (x.2>(6:Int))=false,
 (x.2==(5:Int))=false,
 (x.2==(5:Int))=false,
 (x.2==(5:Int))=false,
 decide (x.2>(6:Int))=false,
 decide (x.2>(6:Int))=false,
 decide (x.2>(6:Int))=false,
 decide (x.2>(6:Int))=false,
 decide (x.2<(1:Int))=false,
 decide (x.2<(1:Int))=false,
 decide (x.2<(1:Int))=false,
 decide (x.2<(1:Int))=false,
 List.take (3:Nat) (List.drop (off+i.toNat*(3:Nat)) l)=oC x∧(oC x).length=(3:Nat),
 inRange i n=true,
 decide (i<(↑n:Int))=true]:=by kernel_rfl
theorem orE1 (l m:List SV) (off n c k:Nat) (x:OutT) (i i':Int):reach EN0 2 100 (SM.at (hdOr off n c (.sl 1 0 k none) i) 6 [lkE l,strR m]) (ff [0] true++[(2,.cells (oC x))]++ff [3,4,5,6,7,8,9,10,11,12,13,14,15,16,17,18,19,20,21,22,23,24,25,26,27,28,29,30,31,32,33,34,35,36,37,38,39] false) [(0,0),(1,1)] [0,1] (hdOr off n c (.sl 1 0 k none) i') 6 [lkE l,strR m]=[
 off=off∧n=n∧some c=some c,
 (0:Nat)=(0:Nat)∧k=k∧(none:Option Nat)=none,
 Value.int IntKind.i64 (IntKind.i64.wrap (i+(1:Int)))=Value.int IntKind.i64 i',
 l=l,
 l.all closedSV=true,
 m=m,
 m.all closedSV=true,
 false=false,
 false=false,
 decide (x.2<(5:Int))=false,
 false=false,
 decide (x.2<(5:Int))=false,
 decide (x.2<(5:Int))=false,
 decide (x.2<(5:Int))=false,
 false=false,
 false=false,
 false=false,
 false=false,
 decide (x.2>(6:Int))=false,
 (x.2==(5:Int))=false,
 decide (x.2>(6:Int))=false,
 (x.2==(5:Int))=false,
 (x.2==(5:Int))=false,
 (x.2==(5:Int))=false,
 decide (x.2>(6:Int))=false,
 decide (x.2>(6:Int))=false,
 decide (x.2>(6:Int))=false,
 decide (x.2>(6:Int))=false,
 decide (x.2<(1:Int))=false,
 decide (x.2<(1:Int))=false,
 decide (x.2<(1:Int))=false,
 decide (x.2<(1:Int))=false,
 List.take (3:Nat) (List.drop (off+i.toNat*(3:Nat)) l)=oC x∧(oC x).length=(3:Nat),
 inRange i n=true,
 decide (i<(↑n:Int))=true]:=by kernel_rfl
theorem orF0 (l l' : List SV) (off n c : Nat) (x : OutT) (i i' : Int) : reach EN0 2 100 (SM.at (hdOr off n c nilE i) 6 [lkE l]) (ff [0] true ++ [(2, .cells (oC x))] ++ ff [3, 4, 5, 6, 7, 8, 9, 10, 11, 12, 13, 14, 15, 16, 17, 18, 19, 20, 24, 26] false ++ ff [21, 22, 23, 25, 27] true ++ ff [28] false) [(0, 0), (1, 3)] [0, 1] (hdOr off n c (.sl 1 0 1 none) i') 6 [lkE l, strR l'] = [
  off = off ∧ n = n ∧ some c = some c,
  (0 : Nat) = (0 : Nat) ∧ (1 : Nat) = (1 : Nat) ∧ (none : Option Nat) = none,
  Value.int IntKind.i64 (IntKind.i64.wrap (i + (1 : Int))) = Value.int IntKind.i64 i',
  l = l,
  l.all closedSV = true,
  [] ++
   List.take (1 : Nat)
   (List.drop (0 : Nat)
   (splice
   (List.replicate (1 : Nat)
   (List.map SV.v
   { toList := [Value.string { data := { toList := [] : Array UInt8 } : ByteArray }] :
   Array Value }.toList)).flatten
   (0 : Nat) [SV.v (Value.string x.1)])) =
   l',
  l'.all closedSV = true,
  false = false,
  (!x.3 == (0 : Int)) = true,
  false = false,
  decide (x.2 < (5 : Int)) = true,
  false = false,
  decide (x.2 < (5 : Int)) = true,
  decide (x.2 < (5 : Int)) = true,
  decide (x.2 < (5 : Int)) = true,
  false = false,
  false = false,
  false = false,
  false = false,
  decide (x.2 > (6 : Int)) = false,
  (x.2 == (5 : Int)) = false,
  decide (x.2 > (6 : Int)) = false,
  (x.2 == (5 : Int)) = false,
  (x.2 == (5 : Int)) = false,
  (x.2 == (5 : Int)) = false,
  decide (x.2 > (6 : Int)) = false,
  decide (x.2 > (6 : Int)) = false,
  decide (x.2 > (6 : Int)) = false,
  decide (x.2 > (6 : Int)) = false,
  decide (x.2 < (1 : Int)) = false,
  decide (x.2 < (1 : Int)) = false,
  decide (x.2 < (1 : Int)) = false,
  decide (x.2 < (1 : Int)) = false,
  List.take (3 : Nat) (List.drop (off + i.toNat * (3 : Nat)) l) = oC x ∧ (oC x).length = (3 : Nat),
  inRange i n = true,
  decide (i < (↑n : Int)) = true] := by kernel_rfl
theorem orF1 (l m w l' : List SV) (off n c k : Nat) (x : OutT) (i i' : Int) : reach EN0 2 100 (SM.at (hdOr off n c (.sl 1 0 k none) i) 6 [lkE l, strR m]) (ff [0] true ++ [(2, .cells (oC x))] ++ ff [3, 4, 5, 6, 7, 8, 9, 10, 11, 12, 13, 14, 15, 16, 17, 18, 19, 20, 24, 26] false ++ ff [21, 22, 23, 25, 27] true ++ [(28, .app m w)]) [(0, 0), (1, 4)] [0, 1] (hdOr off n c (.sl 1 0 (k + 1) none) i') 6 [lkE l, strR l'] = [
  off = off ∧ n = n ∧ some c = some c,
  (0 : Nat) = (0 : Nat) ∧ k + (1 : Nat) = k + (1 : Nat) ∧ (none : Option Nat) = none,
  Value.int IntKind.i64 (IntKind.i64.wrap (i + (1 : Int))) = Value.int IntKind.i64 i',
  l = l,
  l.all closedSV = true,
  m ++ w = l',
  l'.all closedSV = true,
  ((List.take (1 : Nat)
   (List.drop (0 : Nat)
   (splice
   (List.replicate (1 : Nat)
   (List.map SV.v
   { toList := [Value.string { data := { toList := [] : Array UInt8 } : ByteArray }] :
   Array Value }.toList)).flatten
   (0 : Nat) [SV.v (Value.string x.1)])) =
   w ∧
   w.length = (1 : Nat) * (1 : Nat)) ∧
   (1 : Nat) ≠ (0 : Nat) ∧ ((2 : Nat) * (k + (1 : Nat)) + (1024 : Nat)) * (16 : Nat) ≤ (140737488355328 : Nat)) ∧
   List.take (k * (1 : Nat)) m = m ∧ m.length = k * (1 : Nat) ∧ w.all SV.flat = true,
  (!x.3 == (0 : Int)) = true,
  false = false,
  decide (x.2 < (5 : Int)) = true,
  false = false,
  decide (x.2 < (5 : Int)) = true,
  decide (x.2 < (5 : Int)) = true,
  decide (x.2 < (5 : Int)) = true,
  false = false,
  false = false,
  false = false,
  false = false,
  decide (x.2 > (6 : Int)) = false,
  (x.2 == (5 : Int)) = false,
  decide (x.2 > (6 : Int)) = false,
  (x.2 == (5 : Int)) = false,
  (x.2 == (5 : Int)) = false,
  (x.2 == (5 : Int)) = false,
  decide (x.2 > (6 : Int)) = false,
  decide (x.2 > (6 : Int)) = false,
  decide (x.2 > (6 : Int)) = false,
  decide (x.2 > (6 : Int)) = false,
  decide (x.2 < (1 : Int)) = false,
  decide (x.2 < (1 : Int)) = false,
  decide (x.2 < (1 : Int)) = false,
  decide (x.2 < (1 : Int)) = false,
  List.take (3 : Nat) (List.drop (off + i.toNat * (3 : Nat)) l) = oC x ∧ (oC x).length = (3 : Nat),
  inRange i n = true,
  decide (i < (↑n : Int)) = true] := by kernel_rfl
theorem orG0 (l:List SV) (off n c:Nat) (x:OutT) (i i':Int):reach EN0 2 100 (SM.at (hdOr off n c nilE i) 6 [lkE l]) (ff [0] true++[(2,.cells (oC x))]++ff [3,4,5,6,7,8,9,10,11,12,13,14,15,16,17,18,19,20,24,26,27,28,29,30,31,32,33,34,35,36,37,38,39] false++ff [21,22,23,25] true) [(0,0)] [0] (hdOr off n c nilE i') 6 [lkE l]=[
 off=off∧n=n∧some c=some c,
 Value.slice none (0:Nat) (0:Nat)=Value.slice none (0:Nat) (0:Nat),
 Value.int IntKind.i64 (IntKind.i64.wrap (i+(1:Int)))=Value.int IntKind.i64 i',
 l=l,
 l.all closedSV=true,
 (!x.3==(0:Int))=false,
 false=false,
 decide (x.2<(5:Int))=true,
 false=false,
 decide (x.2<(5:Int))=true,
 decide (x.2<(5:Int))=true,
 decide (x.2<(5:Int))=true,
 false=false,
 false=false,
 false=false,
 false=false,
 decide (x.2>(6:Int))=false,
 (x.2==(5:Int))=false,
 decide (x.2>(6:Int))=false,
 (x.2==(5:Int))=false,
 (x.2==(5:Int))=false,
 (x.2==(5:Int))=false,
 decide (x.2>(6:Int))=false,
 decide (x.2>(6:Int))=false,
 decide (x.2>(6:Int))=false,
 decide (x.2>(6:Int))=false,
 decide (x.2<(1:Int))=false,
 decide (x.2<(1:Int))=false,
 decide (x.2<(1:Int))=false,
 decide (x.2<(1:Int))=false,
 List.take (3:Nat) (List.drop (off+i.toNat*(3:Nat)) l)=oC x∧(oC x).length=(3:Nat),
 inRange i n=true,
 decide (i<(↑n:Int))=true]:=by kernel_rfl
theorem orG1 (l m:List SV) (off n c k:Nat) (x:OutT) (i i':Int):reach EN0 2 100 (SM.at (hdOr off n c (.sl 1 0 k none) i) 6 [lkE l,strR m]) (ff [0] true++[(2,.cells (oC x))]++ff [3,4,5,6,7,8,9,10,11,12,13,14,15,16,17,18,19,20,24,26,27,28,29,30,31,32,33,34,35,36,37,38,39] false++ff [21,22,23,25] true) [(0,0),(1,1)] [0,1] (hdOr off n c (.sl 1 0 k none) i') 6 [lkE l,strR m]=[
 off=off∧n=n∧some c=some c,
 (0:Nat)=(0:Nat)∧k=k∧(none:Option Nat)=none,
 Value.int IntKind.i64 (IntKind.i64.wrap (i+(1:Int)))=Value.int IntKind.i64 i',
 l=l,
 l.all closedSV=true,
 m=m,
 m.all closedSV=true,
 (!x.3==(0:Int))=false,
 false=false,
 decide (x.2<(5:Int))=true,
 false=false,
 decide (x.2<(5:Int))=true,
 decide (x.2<(5:Int))=true,
 decide (x.2<(5:Int))=true,
 false=false,
 false=false,
 false=false,
 false=false,
 decide (x.2>(6:Int))=false,
 (x.2==(5:Int))=false,
 decide (x.2>(6:Int))=false,
 (x.2==(5:Int))=false,
 (x.2==(5:Int))=false,
 (x.2==(5:Int))=false,
 decide (x.2>(6:Int))=false,
 decide (x.2>(6:Int))=false,
 decide (x.2>(6:Int))=false,
 decide (x.2>(6:Int))=false,
 decide (x.2<(1:Int))=false,
 decide (x.2<(1:Int))=false,
 decide (x.2<(1:Int))=false,
 decide (x.2<(1:Int))=false,
 List.take (3:Nat) (List.drop (off+i.toNat*(3:Nat)) l)=oC x∧(oC x).length=(3:Nat),
 inRange i n=true,
 decide (i<(↑n:Int))=true]:=by kernel_rfl
theorem ore0 (l:List SV) (off n c:Nat) (i:Int) (v:Value):endsV EN0 12 60 (SM.at (hdOr off n c nilE i) 6 [lkE l]) (ff [0] false) v=[
 Value.slice none (0:Nat) (0:Nat)=v,
 decide (i<(↑n:Int))=false]:=by kernel_rfl
theorem ore1 (l m:List SV) (off n c k:Nat) (i:Int):endsO EN0 12 60 (SM.at (hdOr off n c (.sl 1 0 k none) i) 6 [lkE l,strR m]) (ff [0] false) (.sl 1 0 k none) 1 (.row m 9 (0,0) (some 1))=[
 (0:Nat)=(0:Nat)∧k=k∧(none:Option Nat)=none,
 m=m,
 m.all closedSV=true,
 decide (i<(↑n:Int))=false]:=by kernel_rfl
theorem orn (a:Option Addr) (c:Nat) (v:Value):endsV EN0 12 60 (entE EN0 12 [.v (.slice a 0 c)]) [(1000,.b true)] v=[
 Value.slice none (0:Nat) (0:Nat)=v]:=by kernel_rfl
theorem or_t {k e:Int} (h:strayB k e=true):k<1∨(¬ k<1∧k>6)∨(k=5∧e=0)∨(1≤k∧k<5∧e≠0):=by
 unfold strayB at h
 simp only [Bool.or_eq_true,Bool.and_eq_true,decide_eq_true_eq,Bool.not_eq_true',decide_eq_false_iff_not] at h
 omega
theorem or_f {k e:Int} (h:strayB k e=false):(k=5∧e≠0)∨k=6∨(1≤k∧k<5∧e=0):=by
 unfold strayB at h
 simp only [Bool.or_eq_false_iff,Bool.and_eq_false_iff,decide_eq_false_iff_not,Bool.not_eq_false',decide_eq_true_eq] at h
 omega
section
variable {w0:World} {cs0:List Frame} {xs:List OutT} {M:Own} {ν:Val} {off c:Nat}
theorem loopOr1 (hM:∀ z,¬ M z) (hν:∀ i b,ν i=some b→i=0) (few:xs.length≤100000):∀ (j i:Nat),i+j=xs.length→strayO (xs.take i)≠[]→
  Goes EN0 M w0 cs0 12 (RRb w0 (strayO xs)) ν (SM.at (hdOr off xs.length c (.sl 1 0 (strayO (xs.take i)).length none) (i:Int)) 6 [lkE (rowsAt oC off xs),strR (strs (strayO (xs.take i)))])
 | 0,i,hj,hne=>by
  rw [List.take_of_length_le (by omega)] at hne ⊢
  refine Goes.endsO KN0 (n:=60) (o:=ff [0] false) (x:=.sl 1 0 (strayO xs).length none) (i:=1) (so:=.row (strs (strayO xs)) 9 (0,0) (some 1)) (by
   rw [ore1]
   simp only [Owed,strs_closed,and_self,and_true,true_and]
   exact decide_eq_false (by omega)) fun ν' w' y b1 ob hv hb ho hor hw hB'=>?_
  obtain ⟨M3,w3,M4,s',hBb,hr⟩:=hB'
  have hn:w0.heap.size≤b1.1:=by
   rcases hw with h | h
   ·exact h
   ·exact absurd h (hM _)
  exact ⟨below_of hM hBb hr,y,rfl,.inr ⟨hne,NewSl.of_row hv hb ho hor hn fun zs hz=>strs_val hz⟩⟩
 | j+1,i,hj,hne=>by
  have hi:i<xs.length:=by omega
  have hxi:xs[i]?=some xs[i]:=List.getElem?_eq_getElem hi
  have ra:=rowsAt_at (off:=off) oC_len hxi
  have hcl:(rowsAt oC off xs).all closedSV=true:=rowsAt_closed oC_closed
  have t1:decide ((i:Int)<(xs.length:Int))=true:=decide_eq_true (by omega)
  have hfl:(strayO (xs.take i)).length≤100000:=Nat.le_trans (strayO_len _) (by rw [List.length_take];omega)
  have hsn:=strayO_snoc hi
  cases hd:strayB xs[i].k xs[i].e
  ·rw [hd,if_neg (by decide),List.append_nil] at hsn
   have nx:=loopOr1 hM hν few j (i+1) (by omega) (by rw [hsn];exact hne)
   rw [hsn] at nx
   rcases or_f hd with ⟨h,h'⟩ | h | ⟨h1,h2,h3⟩
   ·have q0:decide (xs[i].k<1)=false:=decide_eq_false (by omega)
    have q1:decide (xs[i].k>6)=false:=decide_eq_false (by omega)
    have q2:(xs[i].k==(5:Int))=true:=beq_iff_eq.2 (by omega)
    have q3:decide (xs[i].k<5)=false:=decide_eq_false (by omega)
    have q4:(xs[i].e==(0:Int))=false:=beq_eq_false_iff_ne.2 (by omega)
    refine Goes.reach KN0 (k:=2) (n:=100) (o:=ff [0] true++[(2,.cells (oC xs[i]))]++ff [3,4,5,6,7,8,9,10,14,16,17,18,19,20,21,22,23,24,25,26,27,28,29,30,31,32,33,34,35,36,37,38,39] false++ff [11,12,13,15] true) (ren:=[(0,0),(1,1)]) (eqs:=[0,1]) ?_ (by kernel_rfl) (fun i b h=>by rw [hν i b h];rfl) nx
    rw [orD1]
    simp only [Owed,q0,q1,q2,q3,q4,Bool.not_true,Bool.not_false,Int.toNat_natCast,wrap_succ (k:=i) (by omega),in_range hi,t1,ra,hcl,oC_len,strs_closed,and_self,and_true,true_and]
    try (repeat' apply And.intro)
    all_goals first | rfl | omega | skip
   ·have q0:decide (xs[i].k<1)=false:=decide_eq_false (by omega)
    have q1:decide (xs[i].k>6)=false:=decide_eq_false (by omega)
    have q2:(xs[i].k==(5:Int))=false:=beq_eq_false_iff_ne.2 (by omega)
    have q3:decide (xs[i].k<5)=false:=decide_eq_false (by omega)
    refine Goes.reach KN0 (k:=2) (n:=100) (o:=ff [0] true++[(2,.cells (oC xs[i]))]++ff [3,4,5,6,7,8,9,10,11,12,13,14,15,16,17,18,19,20,21,22,23,24,25,26,27,28,29,30,31,32,33,34,35,36,37,38,39] false) (ren:=[(0,0),(1,1)]) (eqs:=[0,1]) ?_ (by kernel_rfl) (fun i b h=>by rw [hν i b h];rfl) nx
    rw [orE1]
    simp only [Owed,q0,q1,q2,q3,Bool.not_true,Bool.not_false,Int.toNat_natCast,wrap_succ (k:=i) (by omega),in_range hi,t1,ra,hcl,oC_len,strs_closed,and_self,and_true,true_and]
    try (repeat' apply And.intro)
    all_goals first | rfl | omega | skip
   ·have q0:decide (xs[i].k<1)=false:=decide_eq_false (by omega)
    have q1:decide (xs[i].k>6)=false:=decide_eq_false (by omega)
    have q2:(xs[i].k==(5:Int))=false:=beq_eq_false_iff_ne.2 (by omega)
    have q3:decide (xs[i].k<5)=true:=decide_eq_true (by omega)
    have q4:(xs[i].e==(0:Int))=true:=beq_iff_eq.2 (by omega)
    refine Goes.reach KN0 (k:=2) (n:=100) (o:=ff [0] true++[(2,.cells (oC xs[i]))]++ff [3,4,5,6,7,8,9,10,11,12,13,14,15,16,17,18,19,20,24,26,27,28,29,30,31,32,33,34,35,36,37,38,39] false++ff [21,22,23,25] true) (ren:=[(0,0),(1,1)]) (eqs:=[0,1]) ?_ (by kernel_rfl) (fun i b h=>by rw [hν i b h];rfl) nx
    rw [orG1]
    simp only [Owed,q0,q1,q2,q3,q4,Bool.not_true,Bool.not_false,Int.toNat_natCast,wrap_succ (k:=i) (by omega),in_range hi,t1,ra,hcl,oC_len,strs_closed,and_self,and_true,true_and]
    try (repeat' apply And.intro)
    all_goals first | rfl | omega | skip
  ·rw [hd,if_pos rfl] at hsn
   have nx:=loopOr1 hM hν few j (i+1) (by omega) (by rw [hsn];simp)
   rw [hsn,List.length_append,show ([xs[i].p]:List ByteArray).length=1 from rfl,strs_app,strs_one] at nx
   rcases or_t hd with h | ⟨h0,h⟩ | ⟨h,h'⟩ | ⟨h1,h2,h3⟩
   ·have q0:decide (xs[i].k<1)=true:=decide_eq_true (by omega)
    refine Goes.reach KN0 (k:=2) (n:=100) (o:=ff [0] true++[(2,.cells (oC xs[i]))]++ff [3,4,5,6] true++[(20,.app (strs (strayO (xs.take i))) [.v (.string xs[i].p)])]) (ren:=[(0,0),(1,4)]) (eqs:=[0,1]) ?_ (by kernel_rfl) (fun i b h=>by rw [hν i b h];rfl) nx
    rw [orA1]
    simp only [Owed,q0,Bool.not_true,Bool.not_false,Int.toNat_natCast,wrap_succ (k:=i) (by omega),in_range hi,t1,ra,hcl,oC_len,strs_closed,strs_flat,strs_len,List.all_append,and_self,and_true,true_and]
    try (repeat' apply And.intro)
    all_goals first | rfl | omega | exact List.take_of_length_le (by rw [strs_len];omega) | skip
   ·have q0:decide (xs[i].k<1)=false:=decide_eq_false (by omega)
    have q1:decide (xs[i].k>6)=true:=decide_eq_true (by omega)
    refine Goes.reach KN0 (k:=2) (n:=100) (o:=ff [0] true++[(2,.cells (oC xs[i]))]++ff [3,4,5,6] false++ff [7,8,9,10,11,12] true++[(20,.app (strs (strayO (xs.take i))) [.v (.string xs[i].p)])]) (ren:=[(0,0),(1,4)]) (eqs:=[0,1]) ?_ (by kernel_rfl) (fun i b h=>by rw [hν i b h];rfl) nx
    rw [orB1]
    simp only [Owed,q0,q1,Bool.not_true,Bool.not_false,Int.toNat_natCast,wrap_succ (k:=i) (by omega),in_range hi,t1,ra,hcl,oC_len,strs_closed,strs_flat,strs_len,List.all_append,and_self,and_true,true_and]
    try (repeat' apply And.intro)
    all_goals first | rfl | omega | exact List.take_of_length_le (by rw [strs_len];omega) | skip
   ·have q0:decide (xs[i].k<1)=false:=decide_eq_false (by omega)
    have q1:decide (xs[i].k>6)=false:=decide_eq_false (by omega)
    have q2:(xs[i].k==(5:Int))=true:=beq_iff_eq.2 (by omega)
    have q3:(xs[i].e==(0:Int))=true:=beq_iff_eq.2 (by omega)
    refine Goes.reach KN0 (k:=2) (n:=100) (o:=ff [0] true++[(2,.cells (oC xs[i]))]++ff [3,4,5,6,7,8,9,10] false++ff [11,12,13] true++ff [14] false++ff [15] true++ff [16] false++ff [17,18,19,20,21,22] true++[(24,.app (strs (strayO (xs.take i))) [.v (.string xs[i].p)])]) (ren:=[(0,0),(1,4)]) (eqs:=[0,1]) ?_ (by kernel_rfl) (fun i b h=>by rw [hν i b h];rfl) nx
    rw [orC1]
    simp only [Owed,q0,q1,q2,q3,Bool.not_true,Bool.not_false,Int.toNat_natCast,wrap_succ (k:=i) (by omega),in_range hi,t1,ra,hcl,oC_len,strs_closed,strs_flat,strs_len,List.all_append,and_self,and_true,true_and]
    try (repeat' apply And.intro)
    all_goals first | rfl | omega | exact List.take_of_length_le (by rw [strs_len];omega) | skip
   ·have q0:decide (xs[i].k<1)=false:=decide_eq_false (by omega)
    have q1:decide (xs[i].k>6)=false:=decide_eq_false (by omega)
    have q2:(xs[i].k==(5:Int))=false:=beq_eq_false_iff_ne.2 (by omega)
    have q3:decide (xs[i].k<5)=true:=decide_eq_true (by omega)
    have q4:(xs[i].e==(0:Int))=false:=beq_eq_false_iff_ne.2 (by omega)
    refine Goes.reach KN0 (k:=2) (n:=100) (o:=ff [0] true++[(2,.cells (oC xs[i]))]++ff [3,4,5,6,7,8,9,10,11,12,13,14,15,16,17,18,19,20,24,26] false++ff [21,22,23,25,27] true++[(28,.app (strs (strayO (xs.take i))) [.v (.string xs[i].p)])]) (ren:=[(0,0),(1,4)]) (eqs:=[0,1]) ?_ (by kernel_rfl) (fun i b h=>by rw [hν i b h];rfl) nx
    rw [orF1]
    simp only [Owed,q0,q1,q2,q3,q4,Bool.not_true,Bool.not_false,Int.toNat_natCast,wrap_succ (k:=i) (by omega),in_range hi,t1,ra,hcl,oC_len,strs_closed,strs_flat,strs_len,List.all_append,and_self,and_true,true_and]
    try (repeat' apply And.intro)
    all_goals first | rfl | omega | exact List.take_of_length_le (by rw [strs_len];omega) | skip
theorem loopOr0 (hM:∀ z,¬ M z) (hν:∀ i b,ν i=some b→i=0) (few:xs.length≤100000):∀ (j i:Nat),i+j=xs.length→strayO (xs.take i)=[]→
  Goes EN0 M w0 cs0 12 (RRb w0 (strayO xs)) ν (SM.at (hdOr off xs.length c nilE (i:Int)) 6 [lkE (rowsAt oC off xs)])
 | 0,i,hj,hne=>by
  rw [List.take_of_length_le (by omega)] at hne
  refine Goes.endsV KN0 (n:=60) (o:=ff [0] false) (v:=.slice none 0 0) ?_ fun ν' M1 w1 s' w' _ hB' hr=>⟨below_of hM hB' hr,_,rfl,.inl ⟨hne,rfl⟩⟩
  rw [ore0]
  simp only [Owed,and_self,and_true,true_and]
  exact decide_eq_false (by omega)
 | j+1,i,hj,hne=>by
  have hi:i<xs.length:=by omega
  have hxi:xs[i]?=some xs[i]:=List.getElem?_eq_getElem hi
  have ra:=rowsAt_at (off:=off) oC_len hxi
  have hcl:(rowsAt oC off xs).all closedSV=true:=rowsAt_closed oC_closed
  have t1:decide ((i:Int)<(xs.length:Int))=true:=decide_eq_true (by omega)
  have hsn:=strayO_snoc hi
  rw [hne,List.nil_append] at hsn
  cases hd:strayB xs[i].k xs[i].e
  ·rw [hd,if_neg (by decide)] at hsn
   have nx:=loopOr0 hM hν few j (i+1) (by omega) hsn
   rcases or_f hd with ⟨h,h'⟩ | h | ⟨h1,h2,h3⟩
   ·have q0:decide (xs[i].k<1)=false:=decide_eq_false (by omega)
    have q1:decide (xs[i].k>6)=false:=decide_eq_false (by omega)
    have q2:(xs[i].k==(5:Int))=true:=beq_iff_eq.2 (by omega)
    have q3:decide (xs[i].k<5)=false:=decide_eq_false (by omega)
    have q4:(xs[i].e==(0:Int))=false:=beq_eq_false_iff_ne.2 (by omega)
    refine Goes.reach KN0 (k:=2) (n:=100) (o:=ff [0] true++[(2,.cells (oC xs[i]))]++ff [3,4,5,6,7,8,9,10,14,16,17,18,19,20,21,22,23,24,25,26,27,28,29,30,31,32,33,34,35,36,37,38,39] false++ff [11,12,13,15] true) (ren:=[(0,0)]) (eqs:=[0]) ?_ (by kernel_rfl) (fun i b h=>by rw [hν i b h];rfl) nx
    rw [orD0]
    simp only [Owed,q0,q1,q2,q3,q4,Bool.not_true,Bool.not_false,Int.toNat_natCast,wrap_succ (k:=i) (by omega),in_range hi,t1,ra,hcl,oC_len,nilE,and_self,and_true,true_and]
    try (repeat' apply And.intro)
    all_goals first | rfl | omega | skip
   ·have q0:decide (xs[i].k<1)=false:=decide_eq_false (by omega)
    have q1:decide (xs[i].k>6)=false:=decide_eq_false (by omega)
    have q2:(xs[i].k==(5:Int))=false:=beq_eq_false_iff_ne.2 (by omega)
    have q3:decide (xs[i].k<5)=false:=decide_eq_false (by omega)
    refine Goes.reach KN0 (k:=2) (n:=100) (o:=ff [0] true++[(2,.cells (oC xs[i]))]++ff [3,4,5,6,7,8,9,10,11,12,13,14,15,16,17,18,19,20,21,22,23,24,25,26,27,28,29,30,31,32,33,34,35,36,37,38,39] false) (ren:=[(0,0)]) (eqs:=[0]) ?_ (by kernel_rfl) (fun i b h=>by rw [hν i b h];rfl) nx
    rw [orE0]
    simp only [Owed,q0,q1,q2,q3,Bool.not_true,Bool.not_false,Int.toNat_natCast,wrap_succ (k:=i) (by omega),in_range hi,t1,ra,hcl,oC_len,nilE,and_self,and_true,true_and]
    try (repeat' apply And.intro)
    all_goals first | rfl | omega | skip
   ·have q0:decide (xs[i].k<1)=false:=decide_eq_false (by omega)
    have q1:decide (xs[i].k>6)=false:=decide_eq_false (by omega)
    have q2:(xs[i].k==(5:Int))=false:=beq_eq_false_iff_ne.2 (by omega)
    have q3:decide (xs[i].k<5)=true:=decide_eq_true (by omega)
    have q4:(xs[i].e==(0:Int))=true:=beq_iff_eq.2 (by omega)
    refine Goes.reach KN0 (k:=2) (n:=100) (o:=ff [0] true++[(2,.cells (oC xs[i]))]++ff [3,4,5,6,7,8,9,10,11,12,13,14,15,16,17,18,19,20,24,26,27,28,29,30,31,32,33,34,35,36,37,38,39] false++ff [21,22,23,25] true) (ren:=[(0,0)]) (eqs:=[0]) ?_ (by kernel_rfl) (fun i b h=>by rw [hν i b h];rfl) nx
    rw [orG0]
    simp only [Owed,q0,q1,q2,q3,q4,Bool.not_true,Bool.not_false,Int.toNat_natCast,wrap_succ (k:=i) (by omega),in_range hi,t1,ra,hcl,oC_len,nilE,and_self,and_true,true_and]
    try (repeat' apply And.intro)
    all_goals first | rfl | omega | skip
  ·rw [hd,if_pos rfl] at hsn
   have nx:=loopOr1 (w0:=w0) (cs0:=cs0) (c:=c) (off:=off) hM hν few j (i+1) (by omega) (by rw [hsn];simp)
   rw [hsn,show ([xs[i].p]:List ByteArray).length=1 from rfl,strs_one] at nx
   rcases or_t hd with h | ⟨h0,h⟩ | ⟨h,h'⟩ | ⟨h1,h2,h3⟩
   ·have q0:decide (xs[i].k<1)=true:=decide_eq_true (by omega)
    refine Goes.reach KN0 (k:=2) (n:=100) (o:=ff [0] true++[(2,.cells (oC xs[i]))]++ff [3,4,5,6] true++ff [20] false) (ren:=[(0,0),(1,3)]) (eqs:=[0,1]) ?_ (by kernel_rfl) (fun i b h=>by rw [hν i b h];rfl) nx
    rw [orA0]
    simp only [Owed,q0,Bool.not_true,Bool.not_false,Int.toNat_natCast,wrap_succ (k:=i) (by omega),in_range hi,t1,ra,hcl,oC_len,and_self,and_true,true_and]
    try (repeat' apply And.intro)
    all_goals first | rfl | omega | skip
   ·have q0:decide (xs[i].k<1)=false:=decide_eq_false (by omega)
    have q1:decide (xs[i].k>6)=true:=decide_eq_true (by omega)
    refine Goes.reach KN0 (k:=2) (n:=100) (o:=ff [0] true++[(2,.cells (oC xs[i]))]++ff [3,4,5,6] false++ff [7,8,9,10,11,12] true++ff [20] false) (ren:=[(0,0),(1,3)]) (eqs:=[0,1]) ?_ (by kernel_rfl) (fun i b h=>by rw [hν i b h];rfl) nx
    rw [orB0]
    simp only [Owed,q0,q1,Bool.not_true,Bool.not_false,Int.toNat_natCast,wrap_succ (k:=i) (by omega),in_range hi,t1,ra,hcl,oC_len,and_self,and_true,true_and]
    try (repeat' apply And.intro)
    all_goals first | rfl | omega | skip
   ·have q0:decide (xs[i].k<1)=false:=decide_eq_false (by omega)
    have q1:decide (xs[i].k>6)=false:=decide_eq_false (by omega)
    have q2:(xs[i].k==(5:Int))=true:=beq_iff_eq.2 (by omega)
    have q3:(xs[i].e==(0:Int))=true:=beq_iff_eq.2 (by omega)
    refine Goes.reach KN0 (k:=2) (n:=100) (o:=ff [0] true++[(2,.cells (oC xs[i]))]++ff [3,4,5,6,7,8,9,10] false++ff [11,12,13] true++ff [14] false++ff [15] true++ff [16] false++ff [17,18,19,20,21,22] true++ff [24] false) (ren:=[(0,0),(1,3)]) (eqs:=[0,1]) ?_ (by kernel_rfl) (fun i b h=>by rw [hν i b h];rfl) nx
    rw [orC0]
    simp only [Owed,q0,q1,q2,q3,Bool.not_true,Bool.not_false,Int.toNat_natCast,wrap_succ (k:=i) (by omega),in_range hi,t1,ra,hcl,oC_len,and_self,and_true,true_and]
    try (repeat' apply And.intro)
    all_goals first | rfl | omega | skip
   ·have q0:decide (xs[i].k<1)=false:=decide_eq_false (by omega)
    have q1:decide (xs[i].k>6)=false:=decide_eq_false (by omega)
    have q2:(xs[i].k==(5:Int))=false:=beq_eq_false_iff_ne.2 (by omega)
    have q3:decide (xs[i].k<5)=true:=decide_eq_true (by omega)
    have q4:(xs[i].e==(0:Int))=false:=beq_eq_false_iff_ne.2 (by omega)
    refine Goes.reach KN0 (k:=2) (n:=100) (o:=ff [0] true++[(2,.cells (oC xs[i]))]++ff [3,4,5,6,7,8,9,10,11,12,13,14,15,16,17,18,19,20,24,26] false++ff [21,22,23,25,27] true++ff [28] false) (ren:=[(0,0),(1,3)]) (eqs:=[0,1]) ?_ (by kernel_rfl) (fun i b h=>by rw [hν i b h];rfl) nx
    rw [orF0]
    simp only [Owed,q0,q1,q2,q3,q4,Bool.not_true,Bool.not_false,Int.toNat_natCast,wrap_succ (k:=i) (by omega),in_range hi,t1,ra,hcl,oC_len,and_self,and_true,true_and]
    try (repeat' apply And.intro)
    all_goals first | rfl | omega | skip
end
theorem rout_calls {W:World} {a:Option Addr} {l c:Nat} {D:List OutT} (h:OutsIn W a l c D) (few:D.length≤100000):Calls Tryz.prog 12 #[.slice a l c] W (RRb W (strayO D)):=by
 rcases h with ⟨rfl,rfl⟩ | ⟨b,off,cs,e,fz,rfl,rfl,hlc,hh,hoff,hc⟩
 ·refine (calls_endsV (E:=EN0) (args:=[.v (.slice a 0 c)]) (a:=[.slice a 0 c]) (n:=60) (o:=[(1000,.b true)]) (v:=.slice none 0 0) rfl rfl KN0 (by kernel_rfl) (VRL.cons (VR.v_iff.2 rfl) VRL.nil) ⟨?_⟩).mono fun e w' ⟨hB,he⟩=>⟨hB,_,he,.inl ⟨rfl,rfl⟩⟩
  rw [orn]
  simp only [Owed,and_self,and_true,true_and]
 ·refine (calls_readR (E:=EN0) rfl (d:=6) (l:=[(b,0)]) (os:=[.look (rowsAt oC off D)]) rfl (by simp) (by simp) ?_ rfl (args:=[.sl 0 off D.length (some c)]) (a:=[.slice (some ⟨b,off,none⟩) D.length c]) (S0:=entOr (rowsAt oC off D) off D.length c) (by kernel_rfl) (VRL.cons (VR.sl_iff.2 ⟨(b,0),rfl,hlc,rfl⟩) VRL.nil) fun cs0=>?_)
  ·intro j o' b' c' h1 h2
   match j with
   | 0=>
    simp only [List.getElem?_cons_zero,Option.some.injEq] at h1 h2
    subst h1
    cases h2
    exact ⟨_,hh,rowsAt_look (h:=oV) (fun ν x=>VRL.lits ν (oV x)) hoff hc⟩
   | j+1=>simp at h1
  ·have hM:∀ z,¬ (layOwn [(b,0)] ([SO.look (rowsAt oC off D)].map fun o=>(o,false))) z:=fun z=>layOwn_none
   have hν:∀ i c,layVal [(b,0)] i=some c→i=0:=fun i c h=>lay1' h
   have hcl:(rowsAt oC off D).all closedSV=true:=rowsAt_closed oC_closed
   have nx:=loopOr0 (w0:=W) (cs0:=cs0) (c:=c) (off:=off) hM hν few D.length 0 (by omega) rfl
   refine Goes.reach KN0 (k:=2) (n:=60) (o:=[(1000,.b true)]) (ren:=[(0,0)]) (eqs:=[0]) (F:=hdOr off D.length c nilE 0) (d:=6) (l:=[lkE (rowsAt oC off D)]) ?_ (by kernel_rfl) (fun i b h=>by rw [hν i b h];rfl) nx
   rw [or0]
   simp only [Owed,hcl,nilE,and_self,and_true,true_and]
theorem ents_px {W:World} {D:List EntT} (hm:MX W) (h:∀ x∈D,EntIs W x):∃ ys,PX D ys W∧∀ x∈D,x.a=none→ys x=[]:=by
 classical
 have key:∀ x∈D,CellsIn W x.a x.l (if hx:x∈D then Classical.choose (h x hx).ys else []):=fun x hx=>by
  simp only [dif_pos hx]
  exact (Classical.choose_spec (h x hx).ys).1
 refine ⟨fun x=>if hx:x∈D then Classical.choose (h x hx).ys else [],⟨hm,key⟩,fun x hx ha=>?_⟩
 exact List.length_eq_zero_iff.1 ((key x hx).1.trans ((h x hx).nil ha))
theorem two_wide {lo hi:Nat} {w:World} {D E:List EntT} {ys:EntT→List Int} {b:Nat} {y:Value} {c:EntT→List Int} {l:List EntT} {L:List ByteArray} {xs:List EntT} (h:TwoB lo hi w D ys b y c l L xs) (hs:∀ e∈D,e∈E):TwoB lo hi w E ys b y c l L xs:=
 ⟨h.book,h.look,h.names,fun e he=>hs e (h.sub e he),h.few,h.row⟩
def outD (ys:EntT→List Int) (xs1 xs2:List EntT):List ByteArray:=(putAll (putAll [] (xs1.map (·.p))) (xs2.map (·.p))).filter (difR ys xs1 xs2)
section
variable {lo1 hi1 lo2 hi2:Nat} {w:World} {D:List EntT} {ys:EntT→List Int} {b1 b2:Nat} {y1 y2:Value} {c1 c2:EntT→List Int} {l1 l2:List EntT} {L1 L2:List ByteArray} {xs1 xs2:List EntT}
theorem names_books (hy:∀ x∈D,x.a=none→ys x=[]) (t1:TwoB lo1 hi1 w D ys b1 y1 c1 l1 L1 xs1) (t2:TwoB lo2 hi2 w D ys b2 y2 c2 l2 L2 xs2):outB c1 c2 l1 l2 (L1++L2)=outD ys xs1 xs2:=by
 unfold outB outD
 rw [names_one t1.names t2.names]
 congr 1
 funext q
 exact dif_one hy t1.look t2.look t1.sub t2.sub q
theorem few_outD (t1:TwoB lo1 hi1 w D ys b1 y1 c1 l1 L1 xs1) (t2:TwoB lo2 hi2 w D ys b2 y2 c2 l2 L2 xs2):(outD ys xs1 xs2).length≤100000:=by
 unfold outD
 have h1:=putAll_len (xs1.map (·.p)) []
 have h2:=putAll_len (xs2.map (·.p)) (putAll [] (xs1.map (·.p)))
 have h3:=List.length_filter_le (difR ys xs1 xs2) (putAll (putAll [] (xs1.map (·.p))) (xs2.map (·.p)))
 have h4:=t1.few
 have h5:=t2.few
 simp only [List.length_map,List.length_nil] at h1 h2
 omega
theorem rb_two (hX:PX D ys w) (hz:∀ x∈D,x.p.size≤1000000000) (hn:∀ x∈D,x.a=none→x.l=0) (hlt:hi1≤lo2) (t1:TwoB lo1 hi1 w D ys b1 y1 c1 l1 L1 xs1) (t2:TwoB lo2 hi2 w D ys b2 y2 c2 l2 L2 xs2):
  Calls Tryz.prog 10 #[.agg #[.int .u64 0,y1],.agg #[.int .u64 0,y2]] w (RRb w (outD ys xs1 xs2)):=by
 have hd:∀ x∈D,Dat w x.a x.l (ys x):=fun x hx=>⟨hX.2 x hx,hn x hx⟩
 have hH:RbH D xs1 xs2:=⟨by have:=t1.few;have:=t2.few;omega,fun e he=>hz e (t1.sub e he),fun e he=>hz e (t2.sub e he),t1.sub,t2.sub⟩
 unfold outD
 rcases t1.row with ⟨rfl,rfl⟩ | ⟨n1,g1,k1,_,q1,r1⟩
 ·rcases t2.row with ⟨rfl,rfl⟩ | ⟨n2,g2,k2,q2,_,r2⟩
  ·exact rbNN hd hH
  ·exact rbNR hd hH n2 r2
 ·rcases t2.row with ⟨rfl,rfl⟩ | ⟨n2,g2,k2,q2,_,r2⟩
  ·exact rbRN hd hH n1 r1
  ·exact rbRR hd hH n1 r1 n2 r2 (by omega)
end
theorem new_keep {w w1 w2 W:World} {H:Hp} {y:Value} {zs:List Value} {n C:Nat} {e:TypeId} (hs:W.heap.size≤w.heap.size) (h:NewSl w w1 y zs n C e) (hk:(H.grow w w1).Sub w2.hp):NewSl W w2 y zs n C e:=by
 obtain ⟨g,cc,rest,hy,hbase,hnc,hh,hsz⟩:=h
 refine ⟨g,cc,rest,hy,Nat.le_trans hs hbase,hnc,hk _ _ ?_,hsz⟩
 unfold Hp.grow
 rw [if_neg (by omega)];exact hh
theorem strs_keep {w w1 w2 W:World} {H:Hp} {N:List ByteArray} {v:Value} (hs:W.heap.size≤w.heap.size) (h:StrsIs w w1 N v) (hk:(H.grow w w1).Sub w2.hp):StrsIs W w2 N v:=by
 rcases h with h | ⟨h0,h⟩
 ·exact .inl h
 ·exact .inr ⟨h0,new_keep hs h hk⟩
def FoundK (k:Int) (w w':World) (l:List ByteArray) (v:Value):Prop:=(l=[]∧v=.slice none 0 0)∨(l≠[]∧NewSl w w' v (findVk k l) l.length 2 57)
theorem foundk_keep {k:Int} {w w1 w2 W:World} {H:Hp} {N:List ByteArray} {v:Value} (hs:W.heap.size≤w.heap.size) (h:FoundK k w w1 N v) (hk:(H.grow w w1).Sub w2.hp):FoundK k W w2 N v:=by
 rcases h with h | ⟨h0,h⟩
 ·exact .inl h
 ·exact .inr ⟨h0,new_keep hs h hk⟩
theorem found3 {w w':World} {l:List ByteArray} {v:Value} (h:FoundIs w w' l v):FoundK 3 w w' l v:=h
theorem new_two {A B w wa:World} {v u:Value} {zs ws:List Value} {n m C D:Nat} {e e2:TypeId} (h1:NewSl A wa v zs n C e) (h2:NewSl B w u ws m D e2) (h3:NewSl A w v zs n C e) (hl:wa.heap.size≤B.heap.size):
  ∃ g1 g2 c d r1 r2,g1≠g2∧v=.slice (some ⟨g1,0,none⟩) n c∧u=.slice (some ⟨g2,0,none⟩) m d∧n≤c∧m≤d∧w.heap[g1]?=some (.cells (zs++r1).toArray e)∧w.heap[g2]?=some (.cells (ws++r2).toArray e2):=by
 obtain ⟨g1,c1,q1,rfl,_,_,a1,_⟩:=h1
 obtain ⟨g2,c2,q2,rfl,b2,n2,a2,_⟩:=h2
 obtain ⟨g3,c3,q3,y3,_,n3,a3,_⟩:=h3
 injection y3 with y3 y4 y5
 injection y3 with y3
 injection y3 with y3
 subst y3 y5
 have h1:=(Array.getElem?_eq_some_iff.1 a1).1
 exact ⟨g1,g2,c1,c2,q3,q2,by omega,rfl,rfl,n3,n2,a3,a2⟩
theorem are3_of {A B w wa:World} {v u:Value} {N:List ByteArray} (h1:FoundK 3 A wa N v) (h3:FoundK 3 A w N v) (h2:StrsIs B w N u) (hl:wa.heap.size≤B.heap.size) (few:N.length≤100000):
  Calls Tryz.prog 8 #[v,.int .i64 3,u] w fun e w'=>Below w.heap.size w w'∧e=.returned (.bool true):=by
 rcases h1 with ⟨rfl,rfl⟩ | ⟨hN,h1⟩
 ·rcases h2 with ⟨_,rfl⟩ | ⟨h,_⟩
  ·exact are_nil 3
  ·exact absurd rfl h
 ·rcases h2 with ⟨h,_⟩ | ⟨_,h2⟩
  ·exact absurd h hN
  rcases h3 with ⟨h,_⟩ | ⟨_,h3⟩
  ·exact absurd h hN
  obtain ⟨g1,g2,c,d,r1,r2,hne,rfl,rfl,n1,n2,x1,x2⟩:=new_two h1 h2 h3 hl
  exact are3_calls hne x1 x2 n1 n2 few
theorem are5_of {A B w wa:World} {v u:Value} {N:List ByteArray} (h1:FoundK 5 A wa N v) (h3:FoundK 5 A w N v) (h2:StrsIs B w N u) (hl:wa.heap.size≤B.heap.size) (few:N.length≤100000):
  Calls Tryz.prog 8 #[v,.int .i64 5,u] w fun e w'=>Below w.heap.size w w'∧e=.returned (.bool true):=by
 rcases h1 with ⟨rfl,rfl⟩ | ⟨hN,h1⟩
 ·rcases h2 with ⟨_,rfl⟩ | ⟨h,_⟩
  ·exact are_nil 5
  ·exact absurd rfl h
 ·rcases h2 with ⟨h,_⟩ | ⟨_,h2⟩
  ·exact absurd h hN
  rcases h3 with ⟨h,_⟩ | ⟨_,h3⟩
  ·exact absurd h hN
  obtain ⟨g1,g2,c,d,r1,r2,hne,rfl,rfl,n1,n2,x1,x2⟩:=new_two h1 h2 h3 hl
  exact are5_calls hne x1 x2 n1 n2 few
theorem grow_new {w w1 w2:World} {H:Hp} (hk:(H.grow w w1).Sub w2.hp):NewIn w.heap.size w1 w2:=fun k o hk1 ho=>hk k o (by unfold Hp.grow;rw [if_neg (by omega)];exact ho)
end paths
end Go.Proofs.YtbjmmnegkpeboaaGreat
set_option linter.unusedSimpArgs false
set_option linter.unusedVariables false
set_option maxHeartbeats 0
set_option maxRecDepth 100000
namespace Go.Proofs.YtbjmmnegkpeboaaGreat
open Go Go.Rx Go.RowKit Go.Proofs
namespace paths
def slA:List (FuncId × PS):=[(6,fun args=>match args with | []=>some (.bool true,True) | _=>none)]
noncomputable def EA:Env:=EP slA []
structure ArgA where
 a0:Option Addr
 l0:Nat
 c0:Nat
 a1:Option Addr
 l1:Nat
 c1:Nat
 a2:Option Addr
 l2:Nat
 c2:Nat
 n:Int
noncomputable def entA (x:ArgA):SM:=(enterS EA 3 [.v (.slice x.a0 x.l0 x.c0),.v (.slice x.a1 x.l1 x.c1),.v (.slice x.a2 x.l2 x.c2),.v (.int .i64 x.n)] (laidMem 12 [])).getD noSM
def oL:List (Nat × Ans):=ff [1000] true
def outP (b:Nat) (a:Option Addr) (n c:Nat):Value:=.tuple #[ptrB b,.agg #[.int .u64 0,.slice a n c],.bool true]
structure BkA where
 b:Nat
 a:Option Addr
 n:Nat
 c:Nat
noncomputable def lA1 (x:ArgA) (b:Bool):SM:=backT EA 4 60 (entA x) oL (.v (.bool b))
noncomputable def lA2 (x:ArgA) (b:Bool):SM:=backT EA 4 60 (lA1 x true) oL (.v (.bool b))
noncomputable def lA3 (x:ArgA) (b:Bool):SM:=backT EA 5 60 (lA2 x true) oL (.v (.bool b))
noncomputable def lA4 (x:ArgA) (p:BkA):SM:=backT EA 7 100 (lA3 x true) oL (.v (outP p.b p.a p.n p.c))
noncomputable def lA5 (x:ArgA) (p q:BkA):SM:=backT EA 7 100 (lA4 x p) oL (.v (outP q.b q.a q.n q.c))
noncomputable def lA6 (S:SM) (o:List (Nat × Ans)) (v:Value):SM:=backT EA 9 200 S o (.v v)
noncomputable def lA7 (S:SM) (o:List (Nat × Ans)) (v u:Value):SM:=backT EA 10 60 (lA6 S o v) oL (.v u)
noncomputable def lA8 (S:SM) (o:List (Nat × Ans)) (v u:Value):SM:=backT EA 8 60 (lA7 S o v u) oL (.v (.bool true))
noncomputable def lA9 (S:SM) (o:List (Nat × Ans)) (v u v2:Value):SM:=backT EA 11 60 (lA8 S o v u) oL (.v v2)
noncomputable def lA10 (S:SM) (o:List (Nat × Ans)) (v u v2 u2:Value):SM:=backT EA 12 60 (lA9 S o v u v2) oL (.v u2)
noncomputable def lA11 (S:SM) (o:List (Nat × Ans)) (v u v2 u2:Value):SM:=backT EA 8 60 (lA10 S o v u v2 u2) oL (.v (.bool true))
noncomputable def lA12 (S:SM) (o:List (Nat × Ans)) (v u v2 u2:Value) (s:ByteArray):SM:=backT EA 13 60 (lA11 S o v u v2 u2) oL (.v (.string s))
def oI (s:ByteArray):List (Nat × Ans):=ff [0,1,2,3] true++[(5,.cells [.v (.string s)])]
def oZ:List (Nat × Ans):=ff [1,2,3,4] true
def oLo:List (Nat × Ans):=ff [0,1,2] false
def oHi:List (Nat × Ans):=ff [0,1,2] true++ff [3] false
theorem la0 (x:ArgA):callO EA 4 60 (entA x) oL=[
 ]:=by kernel_rfl
theorem la1 (x:ArgA):callO EA 4 60 (lA1 x true) oL=[
 ]:=by kernel_rfl
theorem la2 (x:ArgA):callO EA 5 60 (lA2 x true) oL=[
 ]:=by kernel_rfl
theorem la3 (x:ArgA):callO EA 7 100 (lA3 x true) oL=[
 ]:=by kernel_rfl
theorem la4 (x:ArgA) (p:BkA):callO EA 7 100 (lA4 x p) oL=[
 ]:=by kernel_rfl
theorem lb0 (x:ArgA) (b:Bool):backO EA 4 60 (entA x) oL (.v (.bool b))=[
 ]:=by kernel_rfl
theorem lb1 (x:ArgA) (b:Bool):backO EA 4 60 (lA1 x true) oL (.v (.bool b))=[
 ]:=by kernel_rfl
theorem lb2 (x:ArgA) (b:Bool):backO EA 5 60 (lA2 x true) oL (.v (.bool b))=[
 ]:=by kernel_rfl
theorem lb3 (x:ArgA) (p:BkA):backO EA 7 100 (lA3 x true) oL (.v (outP p.b p.a p.n p.c))=[
 ]:=by kernel_rfl
theorem lb4 (x:ArgA) (p q:BkA):backO EA 7 100 (lA4 x p) oL (.v (outP q.b q.a q.n q.c))=[
 ]:=by kernel_rfl
theorem le1 (x:ArgA):endsV EA 3 300 (lA1 x false) oL (.bool true)=[
 Value.bool true=Value.bool true,
 True]:=by kernel_rfl
theorem le2 (x:ArgA):endsV EA 3 300 (lA2 x false) oL (.bool true)=[
 Value.bool true=Value.bool true,
 True]:=by kernel_rfl
theorem le3 (x:ArgA):endsV EA 3 300 (lA3 x false) oL (.bool true)=[
 Value.bool true=Value.bool true,
 True]:=by kernel_rfl
theorem lc6I (x : ArgA) (p q : BkA) (s : ByteArray) (v u v2 u2 : Value) : callO EA 9 200 (lA5 x p q) (oI s) = [
  (splice
   (splice
   (splice
   (splice
   (splice
   (List.replicate (5 : Nat)
   (List.map SV.v
   { toList := [Value.string { data := { toList := [] : Array UInt8 } : ByteArray }] :
   Array Value }.toList)).flatten
   (0 : Nat)
   [SV.v
   (Value.string
   {
   data :=
   {
   toList :=
   [(117 : UInt8), (110 : UInt8), (108 : UInt8), (105 : UInt8), (107 : UInt8), (101 : UInt8)] :
   Array UInt8 } :
   ByteArray })])
   (1 : Nat)
   [SV.v
   (Value.string
   {
   data :=
   {
   toList :=
   [(116 : UInt8), (111 : UInt8), (117 : UInt8), (99 : UInt8), (104 : UInt8), (101 : UInt8),
   (100 : UInt8)] :
   Array UInt8 } :
   ByteArray })])
   (2 : Nat)
   [SV.v
   (Value.string
   {
   data :=
   { toList := [(97 : UInt8), (112 : UInt8), (97 : UInt8), (114 : UInt8), (116 : UInt8)] :
   Array UInt8 } :
   ByteArray })])
   (3 : Nat)
   [SV.v
   (Value.string
   { data := { toList := [(111 : UInt8), (118 : UInt8), (101 : UInt8), (114 : UInt8)] : Array UInt8 } :
   ByteArray })])
   (4 : Nat)
   [SV.v
   (Value.string
   {
   data :=
   { toList := [(115 : UInt8), (116 : UInt8), (114 : UInt8), (97 : UInt8), (121 : UInt8)] : Array UInt8 } :
   ByteArray })])[(0 : Nat) + (IntKind.i64.wrap (x.10 - (1 : Int))).toNat * (1 : Nat)]? =
   some (SV.v (Value.string s)),
  inRange (IntKind.i64.wrap (x.10 - (1 : Int))) (5 : Nat) = true,
  decide (x.10 ≤ (5 : Int)) = true,
  decide (x.10 ≥ (1 : Int)) = true,
  decide (x.10 ≥ (1 : Int)) = true,
  decide (x.10 ≥ (1 : Int)) = true] := by kernel_rfl
theorem lb6I (x : ArgA) (p q : BkA) (s : ByteArray) (v u v2 u2 : Value) : backO EA 9 200 (lA5 x p q) (oI s) (.v v) = [
  decide (p.2 = p.2 ∧ p.3 = p.3 ∧ p.4 = p.4) = true,
  true = true,
  decide (q.2 = q.2 ∧ q.3 = q.3 ∧ q.4 = q.4) = true,
  true = true,
  (splice
   (splice
   (splice
   (splice
   (splice
   (List.replicate (5 : Nat)
   (List.map SV.v
   { toList := [Value.string { data := { toList := [] : Array UInt8 } : ByteArray }] :
   Array Value }.toList)).flatten
   (0 : Nat)
   [SV.v
   (Value.string
   {
   data :=
   {
   toList :=
   [(117 : UInt8), (110 : UInt8), (108 : UInt8), (105 : UInt8), (107 : UInt8), (101 : UInt8)] :
   Array UInt8 } :
   ByteArray })])
   (1 : Nat)
   [SV.v
   (Value.string
   {
   data :=
   {
   toList :=
   [(116 : UInt8), (111 : UInt8), (117 : UInt8), (99 : UInt8), (104 : UInt8), (101 : UInt8),
   (100 : UInt8)] :
   Array UInt8 } :
   ByteArray })])
   (2 : Nat)
   [SV.v
   (Value.string
   {
   data :=
   { toList := [(97 : UInt8), (112 : UInt8), (97 : UInt8), (114 : UInt8), (116 : UInt8)] :
   Array UInt8 } :
   ByteArray })])
   (3 : Nat)
   [SV.v
   (Value.string
   { data := { toList := [(111 : UInt8), (118 : UInt8), (101 : UInt8), (114 : UInt8)] : Array UInt8 } :
   ByteArray })])
   (4 : Nat)
   [SV.v
   (Value.string
   {
   data :=
   { toList := [(115 : UInt8), (116 : UInt8), (114 : UInt8), (97 : UInt8), (121 : UInt8)] : Array UInt8 } :
   ByteArray })])[(0 : Nat) + (IntKind.i64.wrap (x.10 - (1 : Int))).toNat * (1 : Nat)]? =
   some (SV.v (Value.string s)),
  inRange (IntKind.i64.wrap (x.10 - (1 : Int))) (5 : Nat) = true,
  decide (x.10 ≤ (5 : Int)) = true,
  decide (x.10 ≥ (1 : Int)) = true,
  decide (x.10 ≥ (1 : Int)) = true,
  decide (x.10 ≥ (1 : Int)) = true] := by kernel_rfl
theorem lc7I (x:ArgA) (p q:BkA) (s:ByteArray) (v u v2 u2:Value):callO EA 10 60 (lA6 (lA5 x p q) (oI s) v) oL=[
 ]:=by kernel_rfl
theorem lb7I (x:ArgA) (p q:BkA) (s:ByteArray) (v u v2 u2:Value):backO EA 10 60 (lA6 (lA5 x p q) (oI s) v) oL (.v u)=[
 ]:=by kernel_rfl
theorem lc8I (x:ArgA) (p q:BkA) (s:ByteArray) (v u v2 u2:Value):callO EA 8 60 (lA7 (lA5 x p q) (oI s) v u) oL=[
 ]:=by kernel_rfl
theorem lb8I (x:ArgA) (p q:BkA) (s:ByteArray) (v u v2 u2:Value):backO EA 8 60 (lA7 (lA5 x p q) (oI s) v u) oL (.v (.bool true))=[
 ]:=by kernel_rfl
theorem lc9I (x:ArgA) (p q:BkA) (s:ByteArray) (v u v2 u2:Value):callO EA 11 60 (lA8 (lA5 x p q) (oI s) v u) oL=[
 ]:=by kernel_rfl
theorem lb9I (x:ArgA) (p q:BkA) (s:ByteArray) (v u v2 u2:Value):backO EA 11 60 (lA8 (lA5 x p q) (oI s) v u) oL (.v v2)=[
 ]:=by kernel_rfl
theorem lc10I (x:ArgA) (p q:BkA) (s:ByteArray) (v u v2 u2:Value):callO EA 12 60 (lA9 (lA5 x p q) (oI s) v u v2) oL=[
 ]:=by kernel_rfl
theorem lb10I (x:ArgA) (p q:BkA) (s:ByteArray) (v u v2 u2:Value):backO EA 12 60 (lA9 (lA5 x p q) (oI s) v u v2) oL (.v u2)=[
 ]:=by kernel_rfl
theorem lc11I (x:ArgA) (p q:BkA) (s:ByteArray) (v u v2 u2:Value):callO EA 8 60 (lA10 (lA5 x p q) (oI s) v u v2 u2) oL=[
 ]:=by kernel_rfl
theorem lb11I (x:ArgA) (p q:BkA) (s:ByteArray) (v u v2 u2:Value):backO EA 8 60 (lA10 (lA5 x p q) (oI s) v u v2 u2) oL (.v (.bool true))=[
 ]:=by kernel_rfl
theorem lc12I (x:ArgA) (p q:BkA) (s:ByteArray) (v u v2 u2:Value):callO EA 13 60 (lA11 (lA5 x p q) (oI s) v u v2 u2) oL=[
 ]:=by kernel_rfl
theorem lb12I (x:ArgA) (p q:BkA) (s:ByteArray) (v u v2 u2:Value):backO EA 13 60 (lA11 (lA5 x p q) (oI s) v u v2 u2) oL (.v (.string s))=[
 ]:=by kernel_rfl
theorem lzI (x:ArgA) (p q:BkA) (s:ByteArray) (v u v2 u2:Value):endsV EA 3 300 (lA12 (lA5 x p q) (oI s) v u v2 u2 s) oZ (.bool true)=[
 Value.bool true=Value.bool true,
 (s.toList==s.toList)=true,
 True,
 (s.toList==s.toList)=true,
 true=true]:=by kernel_rfl
theorem lc6L (x:ArgA) (p q:BkA) (s:ByteArray) (v u v2 u2:Value):callO EA 9 200 (lA5 x p q) oLo=[
 decide (x.10≥(1:Int))=false,
 decide (x.10≥(1:Int))=false,
 decide (x.10≥(1:Int))=false]:=by kernel_rfl
theorem lb6L (x:ArgA) (p q:BkA) (s:ByteArray) (v u v2 u2:Value):backO EA 9 200 (lA5 x p q) oLo (.v v)=[
 decide (p.2=p.2∧p.3=p.3∧p.4=p.4)=true,
 true=true,
 decide (q.2=q.2∧q.3=q.3∧q.4=q.4)=true,
 true=true,
 decide (x.10≥(1:Int))=false,
 decide (x.10≥(1:Int))=false,
 decide (x.10≥(1:Int))=false]:=by kernel_rfl
theorem lc7L (x:ArgA) (p q:BkA) (s:ByteArray) (v u v2 u2:Value):callO EA 10 60 (lA6 (lA5 x p q) oLo v) oL=[
 ]:=by kernel_rfl
theorem lb7L (x:ArgA) (p q:BkA) (s:ByteArray) (v u v2 u2:Value):backO EA 10 60 (lA6 (lA5 x p q) oLo v) oL (.v u)=[
 ]:=by kernel_rfl
theorem lc8L (x:ArgA) (p q:BkA) (s:ByteArray) (v u v2 u2:Value):callO EA 8 60 (lA7 (lA5 x p q) oLo v u) oL=[
 ]:=by kernel_rfl
theorem lb8L (x:ArgA) (p q:BkA) (s:ByteArray) (v u v2 u2:Value):backO EA 8 60 (lA7 (lA5 x p q) oLo v u) oL (.v (.bool true))=[
 ]:=by kernel_rfl
theorem lc9L (x:ArgA) (p q:BkA) (s:ByteArray) (v u v2 u2:Value):callO EA 11 60 (lA8 (lA5 x p q) oLo v u) oL=[
 ]:=by kernel_rfl
theorem lb9L (x:ArgA) (p q:BkA) (s:ByteArray) (v u v2 u2:Value):backO EA 11 60 (lA8 (lA5 x p q) oLo v u) oL (.v v2)=[
 ]:=by kernel_rfl
theorem lc10L (x:ArgA) (p q:BkA) (s:ByteArray) (v u v2 u2:Value):callO EA 12 60 (lA9 (lA5 x p q) oLo v u v2) oL=[
 ]:=by kernel_rfl
theorem lb10L (x:ArgA) (p q:BkA) (s:ByteArray) (v u v2 u2:Value):backO EA 12 60 (lA9 (lA5 x p q) oLo v u v2) oL (.v u2)=[
 ]:=by kernel_rfl
theorem lc11L (x:ArgA) (p q:BkA) (s:ByteArray) (v u v2 u2:Value):callO EA 8 60 (lA10 (lA5 x p q) oLo v u v2 u2) oL=[
 ]:=by kernel_rfl
theorem lb11L (x:ArgA) (p q:BkA) (s:ByteArray) (v u v2 u2:Value):backO EA 8 60 (lA10 (lA5 x p q) oLo v u v2 u2) oL (.v (.bool true))=[
 ]:=by kernel_rfl
theorem lc12L (x:ArgA) (p q:BkA) (s:ByteArray) (v u v2 u2:Value):callO EA 13 60 (lA11 (lA5 x p q) oLo v u v2 u2) oL=[
 ]:=by kernel_rfl
theorem lb12L (x:ArgA) (p q:BkA) (s:ByteArray) (v u v2 u2:Value):backO EA 13 60 (lA11 (lA5 x p q) oLo v u v2 u2) oL (.v (.string ⟨#[]⟩))=[
 ]:=by kernel_rfl
theorem lzL (x:ArgA) (p q:BkA) (s:ByteArray) (v u v2 u2:Value):endsV EA 3 300 (lA12 (lA5 x p q) oLo v u v2 u2 ⟨#[]⟩) oZ (.bool true)=[
 Value.bool true=Value.bool true,
 true=true,
 True,
 true=true,
 true=true]:=by kernel_rfl
theorem lc6H (x:ArgA) (p q:BkA) (s:ByteArray) (v u v2 u2:Value):callO EA 9 200 (lA5 x p q) oHi=[
 decide (x.10≤(5:Int))=false,
 decide (x.10≥(1:Int))=true,
 decide (x.10≥(1:Int))=true,
 decide (x.10≥(1:Int))=true]:=by kernel_rfl
theorem lb6H (x:ArgA) (p q:BkA) (s:ByteArray) (v u v2 u2:Value):backO EA 9 200 (lA5 x p q) oHi (.v v)=[
 decide (p.2=p.2∧p.3=p.3∧p.4=p.4)=true,
 true=true,
 decide (q.2=q.2∧q.3=q.3∧q.4=q.4)=true,
 true=true,
 decide (x.10≤(5:Int))=false,
 decide (x.10≥(1:Int))=true,
 decide (x.10≥(1:Int))=true,
 decide (x.10≥(1:Int))=true]:=by kernel_rfl
theorem lc7H (x:ArgA) (p q:BkA) (s:ByteArray) (v u v2 u2:Value):callO EA 10 60 (lA6 (lA5 x p q) oHi v) oL=[
 ]:=by kernel_rfl
theorem lb7H (x:ArgA) (p q:BkA) (s:ByteArray) (v u v2 u2:Value):backO EA 10 60 (lA6 (lA5 x p q) oHi v) oL (.v u)=[
 ]:=by kernel_rfl
theorem lc8H (x:ArgA) (p q:BkA) (s:ByteArray) (v u v2 u2:Value):callO EA 8 60 (lA7 (lA5 x p q) oHi v u) oL=[
 ]:=by kernel_rfl
theorem lb8H (x:ArgA) (p q:BkA) (s:ByteArray) (v u v2 u2:Value):backO EA 8 60 (lA7 (lA5 x p q) oHi v u) oL (.v (.bool true))=[
 ]:=by kernel_rfl
theorem lc9H (x:ArgA) (p q:BkA) (s:ByteArray) (v u v2 u2:Value):callO EA 11 60 (lA8 (lA5 x p q) oHi v u) oL=[
 ]:=by kernel_rfl
theorem lb9H (x:ArgA) (p q:BkA) (s:ByteArray) (v u v2 u2:Value):backO EA 11 60 (lA8 (lA5 x p q) oHi v u) oL (.v v2)=[
 ]:=by kernel_rfl
theorem lc10H (x:ArgA) (p q:BkA) (s:ByteArray) (v u v2 u2:Value):callO EA 12 60 (lA9 (lA5 x p q) oHi v u v2) oL=[
 ]:=by kernel_rfl
theorem lb10H (x:ArgA) (p q:BkA) (s:ByteArray) (v u v2 u2:Value):backO EA 12 60 (lA9 (lA5 x p q) oHi v u v2) oL (.v u2)=[
 ]:=by kernel_rfl
theorem lc11H (x:ArgA) (p q:BkA) (s:ByteArray) (v u v2 u2:Value):callO EA 8 60 (lA10 (lA5 x p q) oHi v u v2 u2) oL=[
 ]:=by kernel_rfl
theorem lb11H (x:ArgA) (p q:BkA) (s:ByteArray) (v u v2 u2:Value):backO EA 8 60 (lA10 (lA5 x p q) oHi v u v2 u2) oL (.v (.bool true))=[
 ]:=by kernel_rfl
theorem lc12H (x:ArgA) (p q:BkA) (s:ByteArray) (v u v2 u2:Value):callO EA 13 60 (lA11 (lA5 x p q) oHi v u v2 u2) oL=[
 ]:=by kernel_rfl
theorem lb12H (x:ArgA) (p q:BkA) (s:ByteArray) (v u v2 u2:Value):backO EA 13 60 (lA11 (lA5 x p q) oHi v u v2 u2) oL (.v (.string ⟨#[]⟩))=[
 ]:=by kernel_rfl
theorem lzH (x:ArgA) (p q:BkA) (s:ByteArray) (v u v2 u2:Value):endsV EA 3 300 (lA12 (lA5 x p q) oHi v u v2 u2 ⟨#[]⟩) oZ (.bool true)=[
 Value.bool true=Value.bool true,
 true=true,
 True,
 true=true,
 true=true]:=by kernel_rfl
structure TailOK (x:ArgA) (p q:BkA) (S:SM) (o:List (Nat × Ans)) (s:ByteArray):Prop where
 c6:Due (callO EA 9 200 S o)
 t6:callTop EA 9 200 S o=enterF EA 9 [.v (ptrB p.b),.v (ptrB q.b)] .normal
 b6:∀ v:Value,Due (backO EA 9 200 S o (.v v))
 c7:∀ v:Value,Owed (callO EA 10 60 (lA6 S o v) oL)
 t7:∀ v:Value,callTop EA 10 60 (lA6 S o v) oL=enterF EA 10 [.agg [.v (.int .u64 0),.v (.slice p.a p.n p.c)],.agg [.v (.int .u64 0),.v (.slice q.a q.n q.c)]] .normal
 b7:∀ v u:Value,Owed (backO EA 10 60 (lA6 S o v) oL (.v u))
 c8:∀ v u:Value,Owed (callO EA 8 60 (lA7 S o v u) oL)
 t8:∀ v u:Value,callTop EA 8 60 (lA7 S o v u) oL=enterF EA 8 [.v v,.v (.int .i64 3),.v u] .normal
 b8:∀ v u:Value,Owed (backO EA 8 60 (lA7 S o v u) oL (.v (.bool true)))
 c9:∀ v u:Value,Owed (callO EA 11 60 (lA8 S o v u) oL)
 t9:∀ v u:Value,callTop EA 11 60 (lA8 S o v u) oL=enterF EA 11 [.v (.slice x.a2 x.l2 x.c2)] .normal
 b9:∀ v u v2:Value,Owed (backO EA 11 60 (lA8 S o v u) oL (.v v2))
 c10:∀ v u v2:Value,Owed (callO EA 12 60 (lA9 S o v u v2) oL)
 t10:∀ v u v2:Value,callTop EA 12 60 (lA9 S o v u v2) oL=enterF EA 12 [.v (.slice x.a2 x.l2 x.c2)] .normal
 b10:∀ v u v2 u2:Value,Owed (backO EA 12 60 (lA9 S o v u v2) oL (.v u2))
 c11:∀ v u v2 u2:Value,Owed (callO EA 8 60 (lA10 S o v u v2 u2) oL)
 t11:∀ v u v2 u2:Value,callTop EA 8 60 (lA10 S o v u v2 u2) oL=enterF EA 8 [.v v2,.v (.int .i64 5),.v u2] .normal
 b11:∀ v u v2 u2:Value,Owed (backO EA 8 60 (lA10 S o v u v2 u2) oL (.v (.bool true)))
 c12:∀ v u v2 u2:Value,Owed (callO EA 13 60 (lA11 S o v u v2 u2) oL)
 t12:∀ v u v2 u2:Value,callTop EA 13 60 (lA11 S o v u v2 u2) oL=enterF EA 13 [.v (.int .i64 x.n)] .normal
 b12:∀ v u v2 u2:Value,Owed (backO EA 13 60 (lA11 S o v u v2 u2) oL (.v (.string s)))
 z:∀ v u v2 u2:Value,Owed (endsV EA 3 300 (lA12 S o v u v2 u2 s) oZ (.bool true))
theorem tailI0 (x:ArgA) (p q:BkA) (h:1≤x.n∧x.n≤5):Due (callO EA 9 200 (lA5 x p q) (oI (wordN x.n)))∧∀ v:Value,Due (backO EA 9 200 (lA5 x p q) (oI (wordN x.n)) (.v v)):=by
 obtain ⟨a0,l0,c0,a1,l1,c1,a2,l2,c2,n⟩:=x
 dsimp only at h
 have h5:n=1∨n=2∨n=3∨n=4∨n=5:=by omega
 rcases h5 with rfl | rfl | rfl | rfl | rfl
 all_goals
  refine ⟨⟨?_⟩,fun v=>⟨?_⟩⟩
  ·rw [lc6I (s:=_) (v:=.bool true) (u:=.bool true) (v2:=.bool true) (u2:=.bool true)]
   refine ⟨⟨⟨⟨⟨⟨trivial,?_⟩,?_⟩,?_⟩,?_⟩,?_⟩,?_⟩
   all_goals kernel_rfl
  ·rw [lb6I (s:=_) (u:=.bool true) (v2:=.bool true) (u2:=.bool true)]
   refine ⟨⟨⟨⟨⟨⟨⟨⟨⟨⟨trivial,?_⟩,?_⟩,?_⟩,?_⟩,?_⟩,?_⟩,rfl⟩,decide_eq_true ⟨rfl,rfl,rfl⟩⟩,rfl⟩,decide_eq_true ⟨rfl,rfl,rfl⟩⟩
   all_goals kernel_rfl
theorem tailI (x:ArgA) (p q:BkA) (h:1≤x.n∧x.n≤5):TailOK x p q (lA5 x p q) (oI (wordN x.n)) (wordN x.n):=by
 obtain ⟨hc6,hb6⟩:=tailI0 x p q h
 refine TailOK.mk ?_ ?_ ?_ ?_ ?_ ?_ ?_ ?_ ?_ ?_ ?_ ?_ ?_ ?_ ?_ ?_ ?_ ?_ ?_ ?_ ?_ ?_
 ·exact hc6
 ·kernel_rfl
 ·exact hb6
 ·intro v;rw [lc7I (x:=x) (p:=p) (q:=q) (s:=(wordN x.n)) (v:=v) (u:=(.bool true)) (v2:=(.bool true)) (u2:=(.bool true))];exact trivial
 ·intro v;kernel_rfl
 ·intro v u;rw [lb7I (x:=x) (p:=p) (q:=q) (s:=(wordN x.n)) (v:=v) (u:=u) (v2:=(.bool true)) (u2:=(.bool true))];exact trivial
 ·intro v u;rw [lc8I (x:=x) (p:=p) (q:=q) (s:=(wordN x.n)) (v:=v) (u:=u) (v2:=(.bool true)) (u2:=(.bool true))];exact trivial
 ·intro v u;kernel_rfl
 ·intro v u;rw [lb8I (x:=x) (p:=p) (q:=q) (s:=(wordN x.n)) (v:=v) (u:=u) (v2:=(.bool true)) (u2:=(.bool true))];exact trivial
 ·intro v u;rw [lc9I (x:=x) (p:=p) (q:=q) (s:=(wordN x.n)) (v:=v) (u:=u) (v2:=(.bool true)) (u2:=(.bool true))];exact trivial
 ·intro v u;kernel_rfl
 ·intro v u v2;rw [lb9I (x:=x) (p:=p) (q:=q) (s:=(wordN x.n)) (v:=v) (u:=u) (v2:=v2) (u2:=(.bool true))];exact trivial
 ·intro v u v2;rw [lc10I (x:=x) (p:=p) (q:=q) (s:=(wordN x.n)) (v:=v) (u:=u) (v2:=v2) (u2:=(.bool true))];exact trivial
 ·intro v u v2;kernel_rfl
 ·intro v u v2 u2;rw [lb10I (x:=x) (p:=p) (q:=q) (s:=(wordN x.n)) (v:=v) (u:=u) (v2:=v2) (u2:=u2)];exact trivial
 ·intro v u v2 u2;rw [lc11I (x:=x) (p:=p) (q:=q) (s:=(wordN x.n)) (v:=v) (u:=u) (v2:=v2) (u2:=u2)];exact trivial
 ·intro v u v2 u2;kernel_rfl
 ·intro v u v2 u2;rw [lb11I (x:=x) (p:=p) (q:=q) (s:=(wordN x.n)) (v:=v) (u:=u) (v2:=v2) (u2:=u2)];exact trivial
 ·intro v u v2 u2;rw [lc12I (x:=x) (p:=p) (q:=q) (s:=(wordN x.n)) (v:=v) (u:=u) (v2:=v2) (u2:=u2)];exact trivial
 ·intro v u v2 u2;kernel_rfl
 ·intro v u v2 u2;rw [lb12I (x:=x) (p:=p) (q:=q) (s:=(wordN x.n)) (v:=v) (u:=u) (v2:=v2) (u2:=u2)];exact trivial
 ·intro v u v2 u2;rw [lzI (x:=x) (p:=p) (q:=q) (s:=(wordN x.n))];simp [Owed]
theorem tailL (x:ArgA) (p q:BkA) (h:x.n<1):TailOK x p q (lA5 x p q) oLo (⟨#[]⟩:ByteArray):=by
 have hc6:Due (callO EA 9 200 (lA5 x p q) oLo):=by
  apply Due.mk
  rw [lc6L (x:=x) (p:=p) (q:=q) (s:=(⟨#[]⟩:ByteArray)) (v:=.bool true) (u:=.bool true) (v2:=.bool true) (u2:=.bool true)]
  simp only [Owed,and_true]
  repeat' apply And.intro
  all_goals first | exact trivial | (exact decide_eq_true (by omega)) | (exact decide_eq_false (by omega))
 have hb6:∀ v:Value,Due (backO EA 9 200 (lA5 x p q) oLo (.v v)):=fun v=>by
  apply Due.mk
  rw [lb6L (x:=x) (p:=p) (q:=q) (s:=(⟨#[]⟩:ByteArray)) (u:=.bool true) (v2:=.bool true) (u2:=.bool true)]
  simp only [Owed,and_true]
  repeat' apply And.intro
  all_goals first | exact trivial | rfl | (exact decide_eq_true ⟨rfl,rfl,rfl⟩) | (exact decide_eq_true (by omega)) | (exact decide_eq_false (by omega))
 refine TailOK.mk ?_ ?_ ?_ ?_ ?_ ?_ ?_ ?_ ?_ ?_ ?_ ?_ ?_ ?_ ?_ ?_ ?_ ?_ ?_ ?_ ?_ ?_
 ·exact hc6
 ·kernel_rfl
 ·exact hb6
 ·intro v;rw [lc7L (x:=x) (p:=p) (q:=q) (s:=(⟨#[]⟩:ByteArray)) (v:=v) (u:=(.bool true)) (v2:=(.bool true)) (u2:=(.bool true))];exact trivial
 ·intro v;kernel_rfl
 ·intro v u;rw [lb7L (x:=x) (p:=p) (q:=q) (s:=(⟨#[]⟩:ByteArray)) (v:=v) (u:=u) (v2:=(.bool true)) (u2:=(.bool true))];exact trivial
 ·intro v u;rw [lc8L (x:=x) (p:=p) (q:=q) (s:=(⟨#[]⟩:ByteArray)) (v:=v) (u:=u) (v2:=(.bool true)) (u2:=(.bool true))];exact trivial
 ·intro v u;kernel_rfl
 ·intro v u;rw [lb8L (x:=x) (p:=p) (q:=q) (s:=(⟨#[]⟩:ByteArray)) (v:=v) (u:=u) (v2:=(.bool true)) (u2:=(.bool true))];exact trivial
 ·intro v u;rw [lc9L (x:=x) (p:=p) (q:=q) (s:=(⟨#[]⟩:ByteArray)) (v:=v) (u:=u) (v2:=(.bool true)) (u2:=(.bool true))];exact trivial
 ·intro v u;kernel_rfl
 ·intro v u v2;rw [lb9L (x:=x) (p:=p) (q:=q) (s:=(⟨#[]⟩:ByteArray)) (v:=v) (u:=u) (v2:=v2) (u2:=(.bool true))];exact trivial
 ·intro v u v2;rw [lc10L (x:=x) (p:=p) (q:=q) (s:=(⟨#[]⟩:ByteArray)) (v:=v) (u:=u) (v2:=v2) (u2:=(.bool true))];exact trivial
 ·intro v u v2;kernel_rfl
 ·intro v u v2 u2;rw [lb10L (x:=x) (p:=p) (q:=q) (s:=(⟨#[]⟩:ByteArray)) (v:=v) (u:=u) (v2:=v2) (u2:=u2)];exact trivial
 ·intro v u v2 u2;rw [lc11L (x:=x) (p:=p) (q:=q) (s:=(⟨#[]⟩:ByteArray)) (v:=v) (u:=u) (v2:=v2) (u2:=u2)];exact trivial
 ·intro v u v2 u2;kernel_rfl
 ·intro v u v2 u2;rw [lb11L (x:=x) (p:=p) (q:=q) (s:=(⟨#[]⟩:ByteArray)) (v:=v) (u:=u) (v2:=v2) (u2:=u2)];exact trivial
 ·intro v u v2 u2;rw [lc12L (x:=x) (p:=p) (q:=q) (s:=(⟨#[]⟩:ByteArray)) (v:=v) (u:=u) (v2:=v2) (u2:=u2)];exact trivial
 ·intro v u v2 u2;kernel_rfl
 ·intro v u v2 u2;rw [lb12L (x:=x) (p:=p) (q:=q) (s:=(⟨#[]⟩:ByteArray)) (v:=v) (u:=u) (v2:=v2) (u2:=u2)];exact trivial
 ·intro v u v2 u2;rw [lzL (x:=x) (p:=p) (q:=q) (s:=(⟨#[]⟩:ByteArray))];simp [Owed]
theorem tailH (x:ArgA) (p q:BkA) (h:x.n>5):TailOK x p q (lA5 x p q) oHi (⟨#[]⟩:ByteArray):=by
 have hc6:Due (callO EA 9 200 (lA5 x p q) oHi):=by
  apply Due.mk
  rw [lc6H (x:=x) (p:=p) (q:=q) (s:=(⟨#[]⟩:ByteArray)) (v:=.bool true) (u:=.bool true) (v2:=.bool true) (u2:=.bool true)]
  simp only [Owed,and_true]
  repeat' apply And.intro
  all_goals first | exact trivial | (exact decide_eq_true (by omega)) | (exact decide_eq_false (by omega))
 have hb6:∀ v:Value,Due (backO EA 9 200 (lA5 x p q) oHi (.v v)):=fun v=>by
  apply Due.mk
  rw [lb6H (x:=x) (p:=p) (q:=q) (s:=(⟨#[]⟩:ByteArray)) (u:=.bool true) (v2:=.bool true) (u2:=.bool true)]
  simp only [Owed,and_true]
  repeat' apply And.intro
  all_goals first | exact trivial | rfl | (exact decide_eq_true ⟨rfl,rfl,rfl⟩) | (exact decide_eq_true (by omega)) | (exact decide_eq_false (by omega))
 refine TailOK.mk ?_ ?_ ?_ ?_ ?_ ?_ ?_ ?_ ?_ ?_ ?_ ?_ ?_ ?_ ?_ ?_ ?_ ?_ ?_ ?_ ?_ ?_
 ·exact hc6
 ·kernel_rfl
 ·exact hb6
 ·intro v;rw [lc7H (x:=x) (p:=p) (q:=q) (s:=(⟨#[]⟩:ByteArray)) (v:=v) (u:=(.bool true)) (v2:=(.bool true)) (u2:=(.bool true))];exact trivial
 ·intro v;kernel_rfl
 ·intro v u;rw [lb7H (x:=x) (p:=p) (q:=q) (s:=(⟨#[]⟩:ByteArray)) (v:=v) (u:=u) (v2:=(.bool true)) (u2:=(.bool true))];exact trivial
 ·intro v u;rw [lc8H (x:=x) (p:=p) (q:=q) (s:=(⟨#[]⟩:ByteArray)) (v:=v) (u:=u) (v2:=(.bool true)) (u2:=(.bool true))];exact trivial
 ·intro v u;kernel_rfl
 ·intro v u;rw [lb8H (x:=x) (p:=p) (q:=q) (s:=(⟨#[]⟩:ByteArray)) (v:=v) (u:=u) (v2:=(.bool true)) (u2:=(.bool true))];exact trivial
 ·intro v u;rw [lc9H (x:=x) (p:=p) (q:=q) (s:=(⟨#[]⟩:ByteArray)) (v:=v) (u:=u) (v2:=(.bool true)) (u2:=(.bool true))];exact trivial
 ·intro v u;kernel_rfl
 ·intro v u v2;rw [lb9H (x:=x) (p:=p) (q:=q) (s:=(⟨#[]⟩:ByteArray)) (v:=v) (u:=u) (v2:=v2) (u2:=(.bool true))];exact trivial
 ·intro v u v2;rw [lc10H (x:=x) (p:=p) (q:=q) (s:=(⟨#[]⟩:ByteArray)) (v:=v) (u:=u) (v2:=v2) (u2:=(.bool true))];exact trivial
 ·intro v u v2;kernel_rfl
 ·intro v u v2 u2;rw [lb10H (x:=x) (p:=p) (q:=q) (s:=(⟨#[]⟩:ByteArray)) (v:=v) (u:=u) (v2:=v2) (u2:=u2)];exact trivial
 ·intro v u v2 u2;rw [lc11H (x:=x) (p:=p) (q:=q) (s:=(⟨#[]⟩:ByteArray)) (v:=v) (u:=u) (v2:=v2) (u2:=u2)];exact trivial
 ·intro v u v2 u2;kernel_rfl
 ·intro v u v2 u2;rw [lb11H (x:=x) (p:=p) (q:=q) (s:=(⟨#[]⟩:ByteArray)) (v:=v) (u:=u) (v2:=v2) (u2:=u2)];exact trivial
 ·intro v u v2 u2;rw [lc12H (x:=x) (p:=p) (q:=q) (s:=(⟨#[]⟩:ByteArray)) (v:=v) (u:=u) (v2:=v2) (u2:=u2)];exact trivial
 ·intro v u v2 u2;kernel_rfl
 ·intro v u v2 u2;rw [lb12H (x:=x) (p:=p) (q:=q) (s:=(⟨#[]⟩:ByteArray)) (v:=v) (u:=u) (v2:=v2) (u2:=u2)];exact trivial
 ·intro v u v2 u2;rw [lzH (x:=x) (p:=p) (q:=q) (s:=(⟨#[]⟩:ByteArray))];simp [Owed]
theorem tail_ok {M:Own} {W:World} {cs0:List Frame} {ν:Val} (K:Facts EA M W) (hM:∀ z,¬ M z) {x:ArgA} {p q:BkA} {S:SM} {o:List (Nat × Ans)} {s:ByteArray} (h:TailOK x p q S o s) {H:Hp} {M1:Own} {w1:World} (hk:Kept W.hp M W H M1 w1) (hm:MX W)
  {D:List EntT} {DO:List OutT} {ys:EntT→List Int} (hX:PX D ys W) (hz:∀ x∈D,x.p.size≤1000000000) (hn:∀ x∈D,x.a=none→x.l=0) (hy:∀ x∈D,x.a=none→ys x=[]) (hO:OutsIn W x.a2 x.l2 x.c2 DO) (few:DO.length≤100000)
  {lo1 hi1 lo2 hi2:Nat} {c1 c2:EntT→List Int} {l1 l2:List EntT} {L1 L2:List ByteArray} {xs1 xs2:List EntT} (hlt:hi1≤lo2) (hb:p.b≠q.b)
  (T1:∀ w,H.Sub w.hp→TwoB lo1 hi1 w D ys p.b (.slice p.a p.n p.c) c1 l1 L1 xs1) (T2:∀ w,H.Sub w.hp→TwoB lo2 hi2 w D ys q.b (.slice q.a q.n q.c) c2 l2 L2 xs2) (hs:wordN x.n=s):
  Goes EA M1 w1 cs0 3 (fun e w'=>e=.returned (.bool true)∧Below W.heap.size W w') ν S:=by
 have old:∀ {w:World},H.Sub w.hp→∀ k,k<W.heap.size→w.heap[k]?=W.heap[k]?:=fun {w} hs=>sub_keep (Hp.Sub.refl _) (hk.sub0.trans hs)
 have fewO:(strayO DO).length≤100000:=Nat.le_trans (strayO_len DO) few
 refine Goes.callV (K.rebase hk.base) hk (n:=200) (g:=9) (o:=o) (args:=[.v (ptrB p.b),.v (ptrB q.b)]) h.c6.out h.t6 fun ν1 wA a hle hsub hgr ha=>?_
 obtain ⟨y1,as1,rfl,e1,ha2⟩:=ha.cons_inv
 obtain ⟨y2,as2,rfl,e2,ha3⟩:=ha2.cons_inv
 obtain rfl:=ha3.nil_inv
 obtain rfl:=VR.v_iff.1 e1
 obtain rfl:=VR.v_iff.1 e2
 have t1:=T1 wA hsub
 have t2:=T2 wA hsub
 refine (books_calls (hm.sub (hk.sub0.trans hsub)) hb t1.book t2.book).mono fun e wA' ⟨hBA,v,he,hv⟩=>⟨hBA,v,he,fun M2 hK2=>⟨(h.b6 v).out,?_⟩⟩
 rw [names_books hy t1 t2] at hv
 have fewN:=few_outD t1 t2
 have sA:H.Sub (H.grow wA wA'):=Hp.sub_grow hsub
 refine Goes.callV (S:=lA6 S o v) (K.rebase hK2.base) hK2 (n:=60) (g:=10) (o:=oL) (args:=[.agg [.v (.int .u64 0),.v (.slice p.a p.n p.c)],.agg [.v (.int .u64 0),.v (.slice q.a q.n q.c)]]) (h.c7 v) (h.t7 v) fun ν2 wB a hle2 hsubB hgr2 ha=>?_
 obtain ⟨y1,as1,rfl,e1,ha2⟩:=ha.cons_inv
 obtain ⟨y2,as2,rfl,e2,ha3⟩:=ha2.cons_inv
 obtain rfl:=ha3.nil_inv
 obtain ⟨z1,rfl,e3⟩:=VR.agg_iff.1 e1
 obtain ⟨z2,rfl,e4⟩:=VR.agg_iff.1 e2
 obtain rfl:z1=[.int .u64 0,.slice p.a p.n p.c]:=plain_sol e3 (VRL.lits ν2 [.int .u64 0,.slice p.a p.n p.c])
 obtain rfl:z2=[.int .u64 0,.slice q.a q.n q.c]:=plain_sol e4 (VRL.lits ν2 [.int .u64 0,.slice q.a q.n q.c])
 refine (rb_two (hX.keep (old (sA.trans hsubB))) hz hn hlt (T1 wB (sA.trans hsubB)) (T2 wB (sA.trans hsubB))).mono fun e wB' ⟨hBB,u,he,hu⟩=>⟨hBB,u,he,fun M3 hK3=>⟨h.b7 v u,?_⟩⟩
 have sB:=sA.trans (Hp.sub_grow (w:=wB) (w':=wB') hsubB)
 have f1B:FoundK 3 wA wB (outD ys xs1 xs2) v:=foundk_keep (Nat.le_refl _) (found3 hv) hsubB
 refine Goes.callV (S:=lA7 S o v u) (K.rebase hK3.base) hK3 (n:=60) (g:=8) (o:=oL) (args:=[.v v,.v (.int .i64 3),.v u]) (h.c8 v u) (h.t8 v u) fun ν3 wC a hle3 hsubC hgr3 ha=>?_
 obtain ⟨y1,as1,rfl,e1,ha2⟩:=ha.cons_inv
 obtain ⟨y2,as2,rfl,e2,ha3⟩:=ha2.cons_inv
 obtain ⟨y3,as3,rfl,e3,ha4⟩:=ha3.cons_inv
 obtain rfl:=ha4.nil_inv
 obtain rfl:=VR.v_iff.1 e1
 obtain rfl:=VR.v_iff.1 e2
 obtain rfl:=VR.v_iff.1 e3
 have f1C:FoundK 3 wA wC (outD ys xs1 xs2) y1:=foundk_keep (Nat.le_refl _) (found3 hv) ((Hp.sub_grow hsubB).trans hsubC)
 have s1C:StrsIs wB wC (outD ys xs1 xs2) y3:=strs_keep (Nat.le_refl _) hu hsubC
 refine (are3_of f1B f1C s1C (Nat.le_refl _) fewN).mono fun e wC' ⟨hBC,he⟩=>⟨hBC,_,he,fun M4 hK4=>⟨h.b8 _ _,?_⟩⟩
 have sC:=sB.trans (Hp.sub_grow (w:=wC) (w':=wC') hsubC)
 refine Goes.callV (S:=lA8 S o y1 y3) (K.rebase hK4.base) hK4 (n:=60) (g:=11) (o:=oL) (args:=[.v (.slice x.a2 x.l2 x.c2)]) (h.c9 _ _) (h.t9 _ _) fun ν4 wD a hle4 hsubD hgr4 ha=>?_
 obtain ⟨z1,as1,rfl,e1,ha2⟩:=ha.cons_inv
 obtain rfl:=ha2.nil_inv
 obtain rfl:=VR.v_iff.1 e1
 refine (outcomes_calls (hO.keep (old (sC.trans hsubD))) few).mono fun e wD' ⟨hBD,v2,he,hv2⟩=>⟨hBD,v2,he,fun M5 hK5=>⟨h.b9 _ _ v2,?_⟩⟩
 have sD:=sC.trans (Hp.sub_grow (w:=wD) (w':=wD') hsubD)
 refine Goes.callV (S:=lA9 S o y1 y3 v2) (K.rebase hK5.base) hK5 (n:=60) (g:=12) (o:=oL) (args:=[.v (.slice x.a2 x.l2 x.c2)]) (h.c10 _ _ _) (h.t10 _ _ _) fun ν5 wE a hle5 hsubE hgr5 ha=>?_
 obtain ⟨z1,as1,rfl,e1,ha2⟩:=ha.cons_inv
 obtain rfl:=ha2.nil_inv
 obtain rfl:=VR.v_iff.1 e1
 refine (rout_calls (hO.keep (old (sD.trans hsubE))) few).mono fun e wE' ⟨hBE,u2,he,hu2⟩=>⟨hBE,u2,he,fun M6 hK6=>⟨h.b10 _ _ _ u2,?_⟩⟩
 have sE:=sD.trans (Hp.sub_grow (w:=wE) (w':=wE') hsubE)
 have f5E:FoundK 5 wD wE (strayO DO) v2:=foundk_keep (Nat.le_refl _) hv2 hsubE
 refine Goes.callV (S:=lA10 S o y1 y3 v2 u2) (K.rebase hK6.base) hK6 (n:=60) (g:=8) (o:=oL) (args:=[.v v2,.v (.int .i64 5),.v u2]) (h.c11 _ _ _ _) (h.t11 _ _ _ _) fun ν6 wF a hle6 hsubF hgr6 ha=>?_
 obtain ⟨z1,as1,rfl,e1,ha2⟩:=ha.cons_inv
 obtain ⟨z2,as2,rfl,e2,ha3⟩:=ha2.cons_inv
 obtain ⟨z3,as3,rfl,e3,ha4⟩:=ha3.cons_inv
 obtain rfl:=ha4.nil_inv
 obtain rfl:=VR.v_iff.1 e1
 obtain rfl:=VR.v_iff.1 e2
 obtain rfl:=VR.v_iff.1 e3
 have f5F:FoundK 5 wD wF (strayO DO) z1:=foundk_keep (Nat.le_refl _) hv2 ((Hp.sub_grow hsubE).trans hsubF)
 have s5F:StrsIs wE wF (strayO DO) z3:=strs_keep (Nat.le_refl _) hu2 hsubF
 refine (are5_of f5E f5F s5F (Nat.le_refl _) fewO).mono fun e wF' ⟨hBF,he⟩=>⟨hBF,_,he,fun M7 hK7=>⟨h.b11 _ _ _ _,?_⟩⟩
 refine Goes.callV (S:=lA11 S o y1 y3 z1 z3) (K.rebase hK7.base) hK7 (n:=60) (g:=13) (o:=oL) (args:=[.v (.int .i64 x.n)]) (h.c12 _ _ _ _) (h.t12 _ _ _ _) fun ν7 wG a hle7 hsubG hgr7 ha=>?_
 obtain ⟨g1,as1,rfl,e1,ha2⟩:=ha.cons_inv
 obtain rfl:=ha2.nil_inv
 obtain rfl:=VR.v_iff.1 e1
 refine (nameW x.n).mono fun e wG' ⟨he,hBG⟩=>⟨hBG,_,he,fun M8 hK8=>?_⟩
 rw [hs]
 refine ⟨h.b12 _ _ _ _,?_⟩
 exact Goes.endsV (S:=lA12 S o y1 y3 z1 z3 s) (K.rebase hK8.base) (n:=300) (o:=oZ) (v:=.bool true) (h.z _ _ _ _) fun ν' M9 w9 s' w' _ hB hr=>⟨rfl,below_of hM (hK8.base.trans hB) hr⟩
theorem grow_size {w w1 w2:World} {H:Hp} (hk:(H.grow w w1).Sub w2.hp) (h:w.heap.size<w1.heap.size):w1.heap.size≤w2.heap.size:=by
 have h1:w1.heap[w1.heap.size - 1]?=some w1.heap[w1.heap.size - 1]:=Array.getElem?_eq_getElem (by omega)
 have h2:=hk (w1.heap.size - 1) _ (by unfold Hp.grow;rw [if_neg (by omega)];exact h1)
 have:=(Array.getElem?_eq_some_iff.1 h2).1
 omega
theorem PX.part {D E:List EntT} {ys:EntT→List Int} {w:World} (h:PX E ys w) (hs:∀ e∈D,e∈E):PX D ys w:=⟨h.1,fun x hx=>h.2 x (hs x hx)⟩
theorem two_slice {lo hi:Nat} {w:World} {D:List EntT} {ys:EntT→List Int} {b:Nat} {y:Value} {c:EntT→List Int} {l:List EntT} {L:List ByteArray} {xs:List EntT} (h:TwoB lo hi w D ys b y c l L xs):∃ a n k,y=.slice a n k:=by
 rcases h.row with ⟨_,rfl⟩ | ⟨_,g,k,_,_,r,rfl,_⟩
 ·exact ⟨_,_,_,rfl⟩
 ·exact ⟨_,_,_,rfl⟩
theorem tail_any {M:Own} {W:World} {cs0:List Frame} {ν:Val} (K:Facts EA M W) (hM:∀ z,¬ M z) {x:ArgA} {p q:BkA} {H:Hp} {M1:Own} {w1:World} (hk:Kept W.hp M W H M1 w1) (hm:MX W)
  {D:List EntT} {DO:List OutT} {ys:EntT→List Int} (hX:PX D ys W) (hz:∀ x∈D,x.p.size≤1000000000) (hn:∀ x∈D,x.a=none→x.l=0) (hy:∀ x∈D,x.a=none→ys x=[]) (hO:OutsIn W x.a2 x.l2 x.c2 DO) (few:DO.length≤100000)
  {lo1 hi1 lo2 hi2:Nat} {c1 c2:EntT→List Int} {l1 l2:List EntT} {L1 L2:List ByteArray} {xs1 xs2:List EntT} (hlt:hi1≤lo2) (hb:p.b≠q.b)
  (T1:∀ w,H.Sub w.hp→TwoB lo1 hi1 w D ys p.b (.slice p.a p.n p.c) c1 l1 L1 xs1) (T2:∀ w,H.Sub w.hp→TwoB lo2 hi2 w D ys q.b (.slice q.a q.n q.c) c2 l2 L2 xs2):
  Goes EA M1 w1 cs0 3 (fun e w'=>e=.returned (.bool true)∧Below W.heap.size W w') ν (lA5 x p q):=by
 by_cases h1:x.n<1
 ·exact tail_ok K hM (tailL x p q h1) hk hm hX hz hn hy hO few hlt hb T1 T2 (by
   unfold wordN;rw [if_neg (by omega),if_neg (by omega),if_neg (by omega),if_neg (by omega),if_neg (by omega)])
 ·by_cases h2:x.n>5
  ·exact tail_ok K hM (tailH x p q h2) hk hm hX hz hn hy hO few hlt hb T1 T2 (by
    unfold wordN;rw [if_neg (by omega),if_neg (by omega),if_neg (by omega),if_neg (by omega),if_neg (by omega)])
  ·exact tail_ok K hM (tailI x p q ⟨by omega,by omega⟩) hk hm hX hz hn hy hO few hlt hb T1 T2 rfl
theorem lightO_few {D:List OutT} (h:lightO D=true):D.length≤100000:=by
 unfold lightO at h
 rw [Bool.and_eq_true,decide_eq_true_eq] at h
 omega
theorem head_ok {W:World} {cs0:List Frame} {x:ArgA} (K:Facts EA (laidOwn []) W) (hm:MX W) (e1:∃ D:List EntT,EntsIn W x.a0 x.l0 x.c0 D∧(∀ y∈D,EntIs W y)∧x.l0≤9223372036854775807) (e2:∃ D:List EntT,EntsIn W x.a1 x.l1 x.c1 D∧(∀ y∈D,EntIs W y)∧x.l1≤9223372036854775807)
  (e3:∃ D:List OutT,OutsIn W x.a2 x.l2 x.c2 D∧(∀ y∈D,y.p.size≤reachBytes)∧x.l2≤9223372036854775807):
  Goes EA (laidOwn []) W cs0 3 (fun e w'=>e=.returned (.bool true)∧Below W.heap.size W w') (laidVal []) (entA x):=by
 obtain ⟨D1,hE1,hD1,hl1⟩:=e1
 obtain ⟨D2,hE2,hD2,hl2⟩:=e2
 obtain ⟨DO,hO,_,hl3⟩:=e3
 have hM:∀ z,¬ (laidOwn []) z:=fun z h=>h
 have hK0:=Kept.start (H0:=W.hp) (M:=laidOwn []) (w:=W) (Hp.Sub.refl _) (fun z o _ h=>h) (told_rlt (l:=[]) fun r hr=>(nomatch hr)) (fun _ h=>h)
 have old:∀ {H:Hp} {w:World},W.hp.Sub H→H.Sub w.hp→∀ k,k<W.heap.size→w.heap[k]?=W.heap[k]?:=fun {H w} h0 hs=>sub_keep (Hp.Sub.refl _) (h0.trans hs)
 refine Goes.callV K hK0 (n:=60) (g:=4) (o:=oL) (args:=[.v (.slice x.a0 x.l0 x.c0)]) (by rw [la0];simp only [Owed,and_self,and_true,true_and]) (by kernel_rfl) fun ν1 wA a hle hsA hgr ha=>?_
 obtain ⟨y1,as1,rfl,u1,ha2⟩:=ha.cons_inv
 obtain rfl:=ha2.nil_inv
 obtain rfl:=VR.v_iff.1 u1
 refine (light_calls (hE1.keep (old hK0.sub0 hsA)) hl1).mono fun e wA' ⟨hBA,he⟩=>⟨hBA,_,he,fun M1 hK1=>⟨by rw [lb0];simp only [Owed,and_self,and_true,true_and],?_⟩⟩
 change Goes EA M1 wA' cs0 _ _ _ (lA1 x (lightL D1))
 cases hb1:lightL D1
 ·refine Goes.endsV (K.rebase hK1.base) (n:=300) (o:=oL) (v:=.bool true) ?_ fun ν' M9 w9 s' w' _ hB hr=>⟨rfl,below_of hM (hK1.base.trans hB) hr⟩
  rw [le1];simp only [Owed,and_self,and_true,true_and]
 refine Goes.callV (K.rebase hK1.base) hK1 (n:=60) (g:=4) (o:=oL) (args:=[.v (.slice x.a1 x.l1 x.c1)]) (by rw [la1];simp only [Owed,and_self,and_true,true_and]) (by kernel_rfl) fun ν1 wB a hle hsB hgr ha=>?_
 obtain ⟨y1,as1,rfl,u1,ha2⟩:=ha.cons_inv
 obtain rfl:=ha2.nil_inv
 obtain rfl:=VR.v_iff.1 u1
 refine (light_calls (hE2.keep (old hK1.sub0 hsB)) hl2).mono fun e wB' ⟨hBB,he⟩=>⟨hBB,_,he,fun M2 hK2=>⟨by rw [lb1];simp only [Owed,and_self,and_true,true_and],?_⟩⟩
 change Goes EA M2 wB' cs0 _ _ _ (lA2 x (lightL D2))
 cases hb2:lightL D2
 ·refine Goes.endsV (K.rebase hK2.base) (n:=300) (o:=oL) (v:=.bool true) ?_ fun ν' M9 w9 s' w' _ hB hr=>⟨rfl,below_of hM (hK2.base.trans hB) hr⟩
  rw [le2];simp only [Owed,and_self,and_true,true_and]
 refine Goes.callV (K.rebase hK2.base) hK2 (n:=60) (g:=5) (o:=oL) (args:=[.v (.slice x.a2 x.l2 x.c2)]) (by rw [la2];simp only [Owed,and_self,and_true,true_and]) (by kernel_rfl) fun ν1 wC a hle hsC hgr ha=>?_
 obtain ⟨y1,as1,rfl,u1,ha2⟩:=ha.cons_inv
 obtain rfl:=ha2.nil_inv
 obtain rfl:=VR.v_iff.1 u1
 refine (lightO_calls (hO.keep (old hK2.sub0 hsC)) hl3).mono fun e wC' ⟨hBC,he⟩=>⟨hBC,_,he,fun M3 hK3=>⟨by rw [lb2];simp only [Owed,and_self,and_true,true_and],?_⟩⟩
 change Goes EA M3 wC' cs0 _ _ _ (lA3 x (lightO DO))
 cases hb3:lightO DO
 ·refine Goes.endsV (K.rebase hK3.base) (n:=300) (o:=oL) (v:=.bool true) ?_ fun ν' M9 w9 s' w' _ hB hr=>⟨rfl,below_of hM (hK3.base.trans hB) hr⟩
  rw [le3];simp only [Owed,and_self,and_true,true_and]
 obtain ⟨hI1,_⟩:=ents_fine hm hD1 hb1
 obtain ⟨hI2,_⟩:=ents_fine hm hD2 hb2
 have hf1:=(light_fine hD1 hb1).2
 have hf2:=(light_fine hD2 hb2).2
 have hDD:∀ y∈D1++D2,EntIs W y:=fun y hy=>by
  rcases List.mem_append.1 hy with h | h
  ·exact hD1 y h
  ·exact hD2 y h
 obtain ⟨ys,hX,hys⟩:=ents_px hm hDD
 have hX1:PX D1 ys W:=hX.part fun e he=>List.mem_append_left _ he
 have hX2:PX D2 ys W:=hX.part fun e he=>List.mem_append_right _ he
 have hz:∀ y∈D1++D2,y.p.size≤1000000000:=fun y hy=>by
  rcases List.mem_append.1 hy with h | h
  ·have:=(hf1 y h).1;omega
  ·have:=(hf2 y h).1;omega
 refine Goes.callV (K.rebase hK3.base) hK3 (n:=100) (g:=7) (o:=oL) (args:=[.v (.slice x.a0 x.l0 x.c0)]) (by rw [la3];simp only [Owed,and_self,and_true,true_and]) (by kernel_rfl) fun ν1 wD a hle hsD hgr ha=>?_
 obtain ⟨y1,as1,rfl,u1,ha2⟩:=ha.cons_inv
 obtain rfl:=ha2.nil_inv
 obtain rfl:=VR.v_iff.1 u1
 have kD:=old hK3.sub0 hsD
 refine (plays_in (hE1.keep kD) (hX1.keep kD) hI1).mono fun e wD' h=>?_
 obtain ⟨hBD,b1,z1,c1,l1,L1,xs1,he,hlo1,hhi1,T1⟩:=two_at (hX1.keep kD) h
 have mD:MX wD:=hm.sub (hK3.sub0.trans hsD)
 obtain ⟨p1,n1,k1,rfl⟩:=two_slice (T1 wD' (mD.sub (below_sub hBD)) fun k o _ h=>h)
 refine ⟨hBD,_,he,fun M4 hK4=>⟨by
  show Owed (backO EA 7 100 (lA3 x true) oL (.v (outP (BkA.mk b1 p1 n1 k1).b (BkA.mk b1 p1 n1 k1).a (BkA.mk b1 p1 n1 k1).n (BkA.mk b1 p1 n1 k1).c)))
  rw [lb3];simp only [Owed,and_self,and_true,true_and],?_⟩⟩
 change Goes EA M4 wD' cs0 _ _ _ (lA4 x ⟨b1,p1,n1,k1⟩)
 refine Goes.callV (K.rebase hK4.base) hK4 (n:=100) (g:=7) (o:=oL) (args:=[.v (.slice x.a1 x.l1 x.c1)]) (by rw [la4];simp only [Owed,and_self,and_true,true_and]) (by kernel_rfl) fun ν1 wE a hle hsE hgr ha=>?_
 obtain ⟨y1,as1,rfl,u1,ha2⟩:=ha.cons_inv
 obtain rfl:=ha2.nil_inv
 obtain rfl:=VR.v_iff.1 u1
 have kE:=old hK4.sub0 hsE
 refine (plays_in (hE2.keep kE) (hX2.keep kE) hI2).mono fun e wE' h=>?_
 obtain ⟨hBE,b2,z2,c2,l2,L2,xs2,he,hlo2,hhi2,T2⟩:=two_at (hX2.keep kE) h
 have mE:MX wE:=hm.sub (hK4.sub0.trans hsE)
 obtain ⟨p2,n2,k2,rfl⟩:=two_slice (T2 wE' (mE.sub (below_sub hBE)) fun k o _ h=>h)
 refine ⟨hBE,_,he,fun M5 hK5=>⟨by
  show Owed (backO EA 7 100 (lA4 x ⟨b1,p1,n1,k1⟩) oL (.v (outP (BkA.mk b2 p2 n2 k2).b (BkA.mk b2 p2 n2 k2).a (BkA.mk b2 p2 n2 k2).n (BkA.mk b2 p2 n2 k2).c)))
  rw [lb4];simp only [Owed,and_self,and_true,true_and],?_⟩⟩
 change Goes EA M5 wE' cs0 _ _ _ (lA5 x ⟨b1,p1,n1,k1⟩ ⟨b2,p2,n2,k2⟩)
 have hsz:wD'.heap.size≤wE.heap.size:=grow_size hsE (by omega)
 exact tail_any K hM hK5 hm (ys:=ys) hX hz (fun y hy=>(hDD y hy).nil) hys hO (lightO_few hb3) hsz (by show b1≠b2;omega)
  (fun w hs=>two_wide (T1 w (hm.sub (hK5.sub0.trans hs)) (grow_new ((Hp.sub_grow hsE).trans hs))) fun e he=>List.mem_append_left _ he)
  (fun w hs=>two_wide (T2 w (hm.sub (hK5.sub0.trans hs)) (grow_new hs)) fun e he=>List.mem_append_right _ he)
end paths
end Go.Proofs.YtbjmmnegkpeboaaGreat
set_option linter.unusedVariables false
set_option maxRecDepth 100000
namespace Go.Proofs.YtbjmmnegkpeboaaGreat.auditBooks
open Go Go.Rx Go.RowKit
def nI (n:Int):SV:=.v (.int .i64 n)
def n0:SV:=.v (.tuple #[])
def nS:SV:=.v (.slice none 0 0)
def nF:SV:=.v (.bool false)
theorem K (w:World) (told:∀ r∈([]:List (Nat × List SV)),Rx.Told w r):Facts (E [] []) (laidOwn []) w:=facts [] []
noncomputable def S2:SM:={ top:={ fn:=6,tm:=(tmAt 27 5 27 [(0,nF),(3,n0),(12,.sl 28 0 1 none),(13,n0),(14,n0),(15,n0),(16,n0),(17,n0),(18,n0),(19,n0),(20,n0),(21,n0),(22,n0),(23,n0),(24,n0),(25,n0),(26,n0)]),todo:=[.reg (opsOf (bodyAt Tryz.prog 6 [1,1,0])) [2],.code (bodyAt Tryz.prog 6 [1,1,1])],defers:=[],ret:=false,kind:=.normal,«ro»:=none },callers:=[],mem:=(memAt 12 32 0 [(28,.row [nI 1,.v (.string ⟨#[97]⟩)] 57 (0,0) (some 2),true)]) }
theorem g2:stageV (E [] []) 6 53 [S2] []=some []:=by kernel_rfl
theorem s2 (w:World) (told:∀ r∈([]:List (Nat × List SV)),Rx.Told w r):AllSafe (E [] []) (laidOwn []) w 6 (laidVal []) [S2]:=AllSafe.stage (K w told) (fun _ h=>h) g2 AllSafe.nil
noncomputable def S1:SM:={ top:={ fn:=6,tm:=(tmAt 27 5 27 [(0,nF),(1,n0),(3,n0),(4,n0),(8,.tup [.ptr 1 0,nI 0]),(9,n0),(10,n0),(11,n0),(12,n0),(13,n0),(14,n0),(15,n0),(16,n0),(17,n0),(18,n0),(19,n0),(20,n0),(21,n0),(22,n0),(23,n0),(24,n0),(25,n0),(26,n0)]),todo:=[.reg (opsOf (bodyAt Tryz.prog 6 [1,0])) [4,5,6,7,8],.code (bodyAt Tryz.prog 6 [1,1])],defers:=[],ret:=false,kind:=.normal,«ro»:=none },callers:=[],mem:=(memAt 12 16 0 [(1,.row [.map 12] 78 (0,0) none,true),
 (12,.map [(.v (.string ⟨#[97]⟩),.agg [nI 2,nS],0)] 1,true)]) }
theorem g1:stageV (E [] []) 6 639 [S1] [(true,[1,12,16,17,18,19,20,21,22,23,24,25,26,27],[[1,2,4,8,9,10,11]],32)]=some [S2]:=by kernel_rfl
theorem s1 (w:World) (told:∀ r∈([]:List (Nat × List SV)),Rx.Told w r):AllSafe (E [] []) (laidOwn []) w 6 (laidVal []) [S1]:=AllSafe.stage (K w told) (fun _ h=>h) g1 (AllSafe.cons (s2 w told) AllSafe.nil)
noncomputable def S0:SM:={ top:={ fn:=6,tm:=(tmOf 27 5 [n0,n0,n0,n0,n0,n0,n0,n0,n0,n0,n0,n0,n0,n0,n0,n0,n0,n0,n0,n0,n0,n0,n0,n0,n0,n0,n0]),todo:=[.code (bodyAt Tryz.prog 6 [])],defers:=[],ret:=false,kind:=.normal,«ro»:=none },callers:=[],mem:=(memAt 12 0 0 []) }
theorem g0:stageV (E [] []) 6 749 [S0] [(true,[0,2,3,4,5,6,7,8,9,10,11,13,14],[[2,5,6,7]],16)]=some [S1]:=by kernel_rfl
theorem s0 (w:World) (told:∀ r∈([]:List (Nat × List SV)),Rx.Told w r):AllSafe (E [] []) (laidOwn []) w 6 (laidVal []) [S0]:=AllSafe.stage (K w told) (fun _ h=>h) g0 (AllSafe.cons (s1 w told) AllSafe.nil)
theorem e0:enterS (E [] []) 6 [] (laidMem 12 [])=some S0:=by kernel_rfl
theorem lives_true (w:World) (told:∀ r∈([]:List (Nat × List SV)),Rx.Told w r):Calls Tryz.prog 6 #[] w fun e w'=>e=.returned (.bool true)∧Below w.heap.size w w':=
 calls_stages (E:=(E [] [])) rfl (d:=12) (l:=[]) rfl (by decide) (by decide) told e0 (s0 w told)
end Go.Proofs.YtbjmmnegkpeboaaGreat.auditBooks
