/- (*book.Book).spare: its runs. By an AI agent. -/
import Derived.Test.YtiggmgcnjmalfaaGreatDoorEntryA
import Derived.Shelf.Bytes.SlClone
namespace Go.Proofs.YtiggmgcnjmalfaaGreatDoor
open Go Go.Rx Go.RowKit Go.Proofs
set_option linter.unusedVariables false
set_option linter.unusedSimpArgs false
set_option maxRecDepth 100000
namespace paths
/-- An entry of a book's map, and when it was born. -/
abbrev EntM := EntT × Nat
def mC (e : EntM) : SV × SV × Nat := (.v (.string e.1.p), .agg [.v (.string e.1.p), .v (.int .u64 e.1.v), .v (.int .i64 e.1.k), .v (.slice e.1.a e.1.l e.1.c)], e.2)
def valM (e : EntM) : SV := .agg [.v (.string e.1.p), .v (.int .u64 e.1.v), .v (.int .i64 e.1.k), .v (.slice e.1.a e.1.l e.1.c)]
noncomputable def ESp : Env := EP [(88, cmpPS)] []
def bookO (s : Int) : Option (SO × Bool) := some (.row [.v (.int .u64 s), .map 1] 86 (0, 0) none, false)
def mapO (es : List (SV × SV × Nat)) (cl : Nat) : Option (SO × Bool) := some (.map es cl, false)
noncomputable def entSp (s : Int) (es : List (SV × SV × Nat)) (cl : Nat) : SM := (enterS ESp 52 [.ptr 0 0] (memOf 6 2 0 [bookO s, mapO es cl])).getD noSM
noncomputable def todoSp : List SI := todoL ESp 2 60 (entSp 0 [] 0) [(1000, .b true)]
noncomputable def hdSp (best : ByteArray) : SF := { fn := 52, tm := tmOf 57 6 ([.ptr 0 0, .junk, .junk, .junk, .v (.string best), .junk, .junk, .junk, .junk, .junk, .junk, .ptr 2 0] ++ List.replicate 45 .junk), todo := todoSp, defers := [], ret := false, kind := .normal, ro := none }
def objSp (s : Int) (es : List (SV × SV × Nat)) (cl : Nat) (seen : List Nat) : List (Option (SO × Bool)) := [bookO s, mapO es cl, some (.miter (some 1) cl seen cl, true)]
/-- The state in which the next entry is asked for. -/
noncomputable def askSp (s : Int) (es : List (SV × SV × Nat)) (cl : Nat) (seen : List Nat) (best : ByteArray) : SM := (goS ESp (atNext ESp) 30 ((SM.at (hdSp best) 6 (objSp s es cl seen)).with [(1000, .b true)])).getD noSM
noncomputable def nxSp (s : Int) (es : List (SV × SV × Nat)) (cl : Nat) (seen : List Nat) (best : ByteArray) (e : SV × SV × Nat) : SM := (nextE ESp (askSp s es cl seen best) e).getD noSM
noncomputable def stSp (s : Int) (es : List (SV × SV × Nat)) (cl : Nat) (seen : List Nat) (best : ByteArray) : SM := (stopE ESp (askSp s es cl seen best)).getD noSM
theorem ask_ok (s : Int) (es : List (SV × SV × Nat)) (cl : Nat) (seen : List Nat) (best : ByteArray) : goS ESp (atNext ESp) 30 ((SM.at (hdSp best) 6 (objSp s es cl seen)).with [(1000, .b true)]) = some (askSp s es cl seen best) := by kernel_rfl
theorem ask_D (s : Int) (es : List (SV × SV × Nat)) (cl : Nat) (seen : List Nat) (best : ByteArray) : nextD ESp (askSp s es cl seen best) = some (2, 1, cl, seen, cl, es, cl) := by kernel_rfl
theorem ask_ob (s : Int) (es : List (SV × SV × Nat)) (cl : Nat) (seen : List Nat) (best : ByteArray) : (askSp s es cl seen best).mem.obl = [] := by kernel_rfl
theorem nx_ok (s : Int) (es : List (SV × SV × Nat)) (cl : Nat) (seen : List Nat) (best : ByteArray) (e : SV × SV × Nat) : nextE ESp (askSp s es cl seen best) e = some (nxSp s es cl seen best e) := by kernel_rfl
theorem nx_ob (s : Int) (es : List (SV × SV × Nat)) (cl : Nat) (seen : List Nat) (best : ByteArray) (e : SV × SV × Nat) : (nxSp s es cl seen best e).mem.obl = [] := by kernel_rfl
theorem st_ok (s : Int) (es : List (SV × SV × Nat)) (cl : Nat) (seen : List Nat) (best : ByteArray) : stopE ESp (askSp s es cl seen best) = some (stSp s es cl seen best) := by kernel_rfl
theorem st_ob (s : Int) (es : List (SV × SV × Nat)) (cl : Nat) (seen : List Nat) (best : ByteArray) : (stSp s es cl seen best).mem.obl = [] := by kernel_rfl
theorem sp0 (s : Int) (es : List (SV × SV × Nat)) (cl : Nat) : reach ESp 2 60 (entSp s es cl) [(1000, .b true)] [(0, 0), (1, 1), (2, 2)] [1] (hdSp ⟨#[]⟩) 6 (objSp s es cl []) = [
  (0 : Nat) = (0 : Nat),
  Value.string { data := { toList := [] : Array UInt8 } : ByteArray } =
   Value.string { data := { toList := [] : Array UInt8 } : ByteArray },
  (0 : Nat) = (0 : Nat),
  Value.int IntKind.u64 s = Value.int IntKind.u64 s,
  cl = cl,
  es = es,
  (es.all fun e => closedE e.fst && closedE e.snd.fst) = true,
  (match false with
   | true => some (0 : Nat)
   | false => List.lookup (1 : Nat) [((1 : Nat), (1 : Nat)), ((2 : Nat), (2 : Nat))]) =
   some (1 : Nat),
  cl = cl,
  ([] : List Nat) = [],
  cl = cl] := by kernel_rfl
theorem sp1 (s : Int) (es : List (SV × SV × Nat)) (cl : Nat) (seen : List Nat) (best : ByteArray) (e : EntM) (v : Value) : endsV ESp 52 60 (stSp s es cl seen best) [(1000, .b true)] v = [
  Value.tuple
   {
   toList :=
   [Value.string best, Value.bool !best.toList == { data := { toList := [] : Array UInt8 } : ByteArray }.toList] :
   Array Value } =
   v] := by kernel_rfl
theorem sa (s : Int) (es : List (SV × SV × Nat)) (cl : Nat) (seen : List Nat) (best best' : ByteArray) (e f : EntM) (j : Nat) : reach ESp 2 300 (nxSp s es cl seen best (mC e)) ([(0, .b true), (1, .ent (.v (.string e.1.p)) (valM e))] ++ ff (List.range 60) false) [(0, 0), (1, 1), (2, 2)] [1] (hdSp best') 6 (objSp s es cl (seen ++ [e.2])) = [
  (0 : Nat) = (0 : Nat),
  Value.string best = Value.string best',
  (0 : Nat) = (0 : Nat),
  Value.int IntKind.u64 s = Value.int IntKind.u64 s,
  cl = cl,
  es = es,
  (es.all fun e => closedE e.fst && closedE e.snd.fst) = true,
  (match false with
   | true => some (0 : Nat)
   | false => List.lookup (1 : Nat) [((1 : Nat), (1 : Nat)), ((2 : Nat), (2 : Nat))]) =
   some (1 : Nat),
  cl = cl,
  seen ++ [(mC e).snd.2] = seen ++ [e.2],
  cl = cl,
  false = false,
  (e.fst.3 == (0 : Int)) = false,
  (e.fst.3 == (0 : Int)) = false,
  (e.fst.3 == (0 : Int)) = false,
  (e.fst.3 == (0 : Int)) = false,
  (e.fst.3 == (0 : Int)) = false,
  (e.fst.3 == (0 : Int)) = false,
  (e.fst.3 == (0 : Int)) = false,
  ∃ stamp b,
   (seen ++ [(mC e).snd.snd]).getLast? = some stamp ∧
   cl = cl ∧ List.find? (fun e => e.snd.snd.beq stamp) es = some (SV.v (Value.string e.fst.p), valM e, b),
  true = true] := by kernel_rfl
theorem sb (s : Int) (es : List (SV × SV × Nat)) (cl : Nat) (seen : List Nat) (best best' : ByteArray) (e f : EntM) (j : Nat) : reach ESp 2 300 (nxSp s es cl seen best (mC e)) ([(0, .b true), (1, .ent (.v (.string e.1.p)) (valM e))] ++ ff (List.range 60) true) [(0, 0), (1, 1), (2, 2)] [1] (hdSp best') 6 (objSp s es cl (seen ++ [e.2])) = [
  (0 : Nat) = (0 : Nat),
  Value.string e.fst.1 = Value.string best',
  (0 : Nat) = (0 : Nat),
  Value.int IntKind.u64 s = Value.int IntKind.u64 s,
  cl = cl,
  es = es,
  (es.all fun e => closedE e.fst && closedE e.snd.fst) = true,
  (match false with
   | true => some (0 : Nat)
   | false => List.lookup (1 : Nat) [((1 : Nat), (1 : Nat)), ((2 : Nat), (2 : Nat))]) =
   some (1 : Nat),
  cl = cl,
  seen ++ [(mC e).snd.2] = seen ++ [e.2],
  cl = cl,
  true = true,
  (e.fst.3 == (0 : Int)) = true,
  true = true,
  (e.fst.3 == (0 : Int)) = true,
  true = true,
  true = true,
  true = true,
  true = true,
  true = true,
  true = true,
  true = true,
  true = true,
  true = true,
  true = true,
  true = true,
  true = true,
  (e.fst.3 == (0 : Int)) = true,
  (best.toList == { data := { toList := [] : Array UInt8 } : ByteArray }.toList) = true,
  (e.fst.3 == (0 : Int)) = true,
  (best.toList == { data := { toList := [] : Array UInt8 } : ByteArray }.toList) = true,
  (best.toList == { data := { toList := [] : Array UInt8 } : ByteArray }.toList) = true,
  (best.toList == { data := { toList := [] : Array UInt8 } : ByteArray }.toList) = true,
  (best.toList == { data := { toList := [] : Array UInt8 } : ByteArray }.toList) = true,
  (best.toList == { data := { toList := [] : Array UInt8 } : ByteArray }.toList) = true,
  (best.toList == { data := { toList := [] : Array UInt8 } : ByteArray }.toList) = true,
  (best.toList == { data := { toList := [] : Array UInt8 } : ByteArray }.toList) = true,
  (best.toList == { data := { toList := [] : Array UInt8 } : ByteArray }.toList) = true,
  (e.fst.3 == (0 : Int)) = true,
  (e.fst.3 == (0 : Int)) = true,
  (e.fst.3 == (0 : Int)) = true,
  ∃ stamp b,
   (seen ++ [(mC e).snd.snd]).getLast? = some stamp ∧
   cl = cl ∧ List.find? (fun e => e.snd.snd.beq stamp) es = some (SV.v (Value.string e.fst.p), valM e, b),
  true = true] := by kernel_rfl
theorem sc (s : Int) (es : List (SV × SV × Nat)) (cl : Nat) (seen : List Nat) (best best' : ByteArray) (e f : EntM) (j : Nat) : reach ESp 2 300 (nxSp s es cl seen best (mC e)) ([(0, .b true), (1, .ent (.v (.string e.1.p)) (valM e))] ++ ff [2, 3, 4] true ++ ff [5, 6, 7, 8, 9, 10] false ++ [(11, .hit j (valM f) f.2)] ++ ff [12, 13] false ++ ff [14] true ++ ff [15] false ++ ff (List.range 60) true) [(0, 0), (1, 1), (2, 2)] [1] (hdSp best') 6 (objSp s es cl (seen ++ [e.2])) = [
  (0 : Nat) = (0 : Nat),
  Value.string e.fst.1 = Value.string best',
  (0 : Nat) = (0 : Nat),
  Value.int IntKind.u64 s = Value.int IntKind.u64 s,
  cl = cl,
  es = es,
  (es.all fun e => closedE e.fst && closedE e.snd.fst) = true,
  (match false with
   | true => some (0 : Nat)
   | false => List.lookup (1 : Nat) [((1 : Nat), (1 : Nat)), ((2 : Nat), (2 : Nat))]) =
   some (1 : Nat),
  cl = cl,
  seen ++ [(mC e).snd.2] = seen ++ [e.2],
  cl = cl,
  true = true,
  (e.fst.3 == (0 : Int)) = true,
  decide (f.fst.2 > e.fst.2) = true,
  (e.fst.3 == (0 : Int)) = true,
  decide (f.fst.2 > e.fst.2) = true,
  decide (f.fst.2 > e.fst.2) = true,
  decide (f.fst.2 > e.fst.2) = true,
  decide (f.fst.2 > e.fst.2) = true,
  decide (f.fst.2 > e.fst.2) = true,
  decide (f.fst.2 > e.fst.2) = true,
  decide (f.fst.2 > e.fst.2) = true,
  decide (f.fst.2 > e.fst.2) = true,
  decide (f.fst.2 > e.fst.2) = true,
  decide (f.fst.2 > e.fst.2) = true,
  decide (f.fst.2 > e.fst.2) = true,
  decide (f.fst.2 > e.fst.2) = true,
  (e.fst.3 == (0 : Int)) = true,
  (best.toList == { data := { toList := [] : Array UInt8 } : ByteArray }.toList) = false,
  (e.fst.3 == (0 : Int)) = true,
  (best.toList == { data := { toList := [] : Array UInt8 } : ByteArray }.toList) = false,
  (best.toList == { data := { toList := [] : Array UInt8 } : ByteArray }.toList) = false,
  (∀ (e : SV × SV × Nat), e ∈ List.take j es → keyNot best e.fst) ∧
   es[j]? =
   some
   (SV.v (Value.string best),
   SV.agg
   [SV.v (Value.string f.fst.1), SV.v (Value.int IntKind.u64 f.fst.2), SV.v (Value.int IntKind.i64 f.fst.3),
   SV.v (Value.slice f.fst.4 f.fst.5 f.fst.6)],
   f.2),
  (best.toList == { data := { toList := [] : Array UInt8 } : ByteArray }.toList) = false,
  (best.toList == { data := { toList := [] : Array UInt8 } : ByteArray }.toList) = false,
  (best.toList == { data := { toList := [] : Array UInt8 } : ByteArray }.toList) = false,
  (best.toList == { data := { toList := [] : Array UInt8 } : ByteArray }.toList) = false,
  (best.toList == { data := { toList := [] : Array UInt8 } : ByteArray }.toList) = false,
  (best.toList == { data := { toList := [] : Array UInt8 } : ByteArray }.toList) = false,
  (e.fst.3 == (0 : Int)) = true,
  (e.fst.3 == (0 : Int)) = true,
  (e.fst.3 == (0 : Int)) = true,
  ∃ stamp b,
   (seen ++ [(mC e).snd.snd]).getLast? = some stamp ∧
   cl = cl ∧ List.find? (fun e => e.snd.snd.beq stamp) es = some (SV.v (Value.string e.fst.p), valM e, b),
  true = true] := by kernel_rfl
theorem sd (s : Int) (es : List (SV × SV × Nat)) (cl : Nat) (seen : List Nat) (best best' : ByteArray) (e f : EntM) (j : Nat) : reach ESp 2 300 (nxSp s es cl seen best (mC e)) ([(0, .b true), (1, .ent (.v (.string e.1.p)) (valM e))] ++ ff [2, 3, 4] true ++ ff [5, 6, 7, 8, 9, 10] false ++ [(11, .hit j (valM f) f.2)] ++ ff [12, 13] false ++ ff [14] true ++ ff [15] false ++ ff [16] true ++ ff [17, 18, 19, 20, 21, 22] false ++ [(23, .hit j (valM f) f.2)] ++ ff [24, 25, 26, 27, 28] false ++ ff [34, 37] false ++ ff (List.range 60) true) [(0, 0), (1, 1), (2, 2)] [1] (hdSp best') 6 (objSp s es cl (seen ++ [e.2])) = [
  (0 : Nat) = (0 : Nat),
  Value.string e.fst.1 = Value.string best',
  (0 : Nat) = (0 : Nat),
  Value.int IntKind.u64 s = Value.int IntKind.u64 s,
  cl = cl,
  es = es,
  (es.all fun e => closedE e.fst && closedE e.snd.fst) = true,
  (match false with
   | true => some (0 : Nat)
   | false => List.lookup (1 : Nat) [((1 : Nat), (1 : Nat)), ((2 : Nat), (2 : Nat))]) =
   some (1 : Nat),
  cl = cl,
  seen ++ [(mC e).snd.2] = seen ++ [e.2],
  cl = cl,
  decide (cmpN e.fst.1 best < (0 : Int)) = true,
  (e.fst.3 == (0 : Int)) = true,
  decide (f.fst.2 > e.fst.2) = false,
  (e.fst.3 == (0 : Int)) = true,
  (f.fst.2 == e.fst.2) = true,
  decide (f.fst.2 > e.fst.2) = false,
  (f.fst.2 == e.fst.2) = true,
  e.fst.1.size ≤ (1000000000 : Nat) ∧ best.size ≤ (1000000000 : Nat),
  (f.fst.2 == e.fst.2) = true,
  (f.fst.2 == e.fst.2) = true,
  (f.fst.2 == e.fst.2) = true,
  decide (f.fst.2 > e.fst.2) = false,
  decide (f.fst.2 > e.fst.2) = false,
  decide (f.fst.2 > e.fst.2) = false,
  decide (f.fst.2 > e.fst.2) = false,
  decide (f.fst.2 > e.fst.2) = false,
  (∀ (e : SV × SV × Nat), e ∈ List.take j es → keyNot best e.fst) ∧
   es[j]? =
   some
   (SV.v (Value.string best),
   SV.agg
   [SV.v (Value.string f.fst.1), SV.v (Value.int IntKind.u64 f.fst.2), SV.v (Value.int IntKind.i64 f.fst.3),
   SV.v (Value.slice f.fst.4 f.fst.5 f.fst.6)],
   f.2),
  decide (f.fst.2 > e.fst.2) = false,
  decide (f.fst.2 > e.fst.2) = false,
  decide (f.fst.2 > e.fst.2) = false,
  decide (f.fst.2 > e.fst.2) = false,
  decide (f.fst.2 > e.fst.2) = false,
  decide (f.fst.2 > e.fst.2) = false,
  (e.fst.3 == (0 : Int)) = true,
  (best.toList == { data := { toList := [] : Array UInt8 } : ByteArray }.toList) = false,
  (e.fst.3 == (0 : Int)) = true,
  (best.toList == { data := { toList := [] : Array UInt8 } : ByteArray }.toList) = false,
  (best.toList == { data := { toList := [] : Array UInt8 } : ByteArray }.toList) = false,
  (∀ (e : SV × SV × Nat), e ∈ List.take j es → keyNot best e.fst) ∧
   es[j]? =
   some
   (SV.v (Value.string best),
   SV.agg
   [SV.v (Value.string f.fst.1), SV.v (Value.int IntKind.u64 f.fst.2), SV.v (Value.int IntKind.i64 f.fst.3),
   SV.v (Value.slice f.fst.4 f.fst.5 f.fst.6)],
   f.2),
  (best.toList == { data := { toList := [] : Array UInt8 } : ByteArray }.toList) = false,
  (best.toList == { data := { toList := [] : Array UInt8 } : ByteArray }.toList) = false,
  (best.toList == { data := { toList := [] : Array UInt8 } : ByteArray }.toList) = false,
  (best.toList == { data := { toList := [] : Array UInt8 } : ByteArray }.toList) = false,
  (best.toList == { data := { toList := [] : Array UInt8 } : ByteArray }.toList) = false,
  (best.toList == { data := { toList := [] : Array UInt8 } : ByteArray }.toList) = false,
  (e.fst.3 == (0 : Int)) = true,
  (e.fst.3 == (0 : Int)) = true,
  (e.fst.3 == (0 : Int)) = true,
  ∃ stamp b,
   (seen ++ [(mC e).snd.snd]).getLast? = some stamp ∧
   cl = cl ∧ List.find? (fun e => e.snd.snd.beq stamp) es = some (SV.v (Value.string e.fst.p), valM e, b),
  true = true] := by kernel_rfl
theorem se (s : Int) (es : List (SV × SV × Nat)) (cl : Nat) (seen : List Nat) (best best' : ByteArray) (e f : EntM) (j : Nat) : reach ESp 2 300 (nxSp s es cl seen best (mC e)) ([(0, .b true), (1, .ent (.v (.string e.1.p)) (valM e))] ++ ff [2, 3, 4] true ++ ff [5, 6, 7, 8, 9, 10] false ++ [(11, .hit j (valM f) f.2)] ++ ff [12, 13] false ++ ff [14] true ++ ff [15] false ++ ff [16] true ++ ff [17, 18, 19, 20, 21, 22] false ++ [(23, .hit j (valM f) f.2)] ++ ff [24, 25, 26, 27, 28] false ++ ff [34, 37, 39] false ++ ff (List.range 60) true) [(0, 0), (1, 1), (2, 2)] [1] (hdSp best') 6 (objSp s es cl (seen ++ [e.2])) = [
  (0 : Nat) = (0 : Nat),
  Value.string best = Value.string best',
  (0 : Nat) = (0 : Nat),
  Value.int IntKind.u64 s = Value.int IntKind.u64 s,
  cl = cl,
  es = es,
  (es.all fun e => closedE e.fst && closedE e.snd.fst) = true,
  (match false with
   | true => some (0 : Nat)
   | false => List.lookup (1 : Nat) [((1 : Nat), (1 : Nat)), ((2 : Nat), (2 : Nat))]) =
   some (1 : Nat),
  cl = cl,
  seen ++ [(mC e).snd.2] = seen ++ [e.2],
  cl = cl,
  decide (cmpN e.fst.1 best < (0 : Int)) = false,
  (e.fst.3 == (0 : Int)) = true,
  decide (f.fst.2 > e.fst.2) = false,
  (e.fst.3 == (0 : Int)) = true,
  (f.fst.2 == e.fst.2) = true,
  decide (f.fst.2 > e.fst.2) = false,
  (f.fst.2 == e.fst.2) = true,
  e.fst.1.size ≤ (1000000000 : Nat) ∧ best.size ≤ (1000000000 : Nat),
  (f.fst.2 == e.fst.2) = true,
  (f.fst.2 == e.fst.2) = true,
  (f.fst.2 == e.fst.2) = true,
  decide (f.fst.2 > e.fst.2) = false,
  decide (f.fst.2 > e.fst.2) = false,
  decide (f.fst.2 > e.fst.2) = false,
  decide (f.fst.2 > e.fst.2) = false,
  decide (f.fst.2 > e.fst.2) = false,
  (∀ (e : SV × SV × Nat), e ∈ List.take j es → keyNot best e.fst) ∧
   es[j]? =
   some
   (SV.v (Value.string best),
   SV.agg
   [SV.v (Value.string f.fst.1), SV.v (Value.int IntKind.u64 f.fst.2), SV.v (Value.int IntKind.i64 f.fst.3),
   SV.v (Value.slice f.fst.4 f.fst.5 f.fst.6)],
   f.2),
  decide (f.fst.2 > e.fst.2) = false,
  decide (f.fst.2 > e.fst.2) = false,
  decide (f.fst.2 > e.fst.2) = false,
  decide (f.fst.2 > e.fst.2) = false,
  decide (f.fst.2 > e.fst.2) = false,
  decide (f.fst.2 > e.fst.2) = false,
  (e.fst.3 == (0 : Int)) = true,
  (best.toList == { data := { toList := [] : Array UInt8 } : ByteArray }.toList) = false,
  (e.fst.3 == (0 : Int)) = true,
  (best.toList == { data := { toList := [] : Array UInt8 } : ByteArray }.toList) = false,
  (best.toList == { data := { toList := [] : Array UInt8 } : ByteArray }.toList) = false,
  (∀ (e : SV × SV × Nat), e ∈ List.take j es → keyNot best e.fst) ∧
   es[j]? =
   some
   (SV.v (Value.string best),
   SV.agg
   [SV.v (Value.string f.fst.1), SV.v (Value.int IntKind.u64 f.fst.2), SV.v (Value.int IntKind.i64 f.fst.3),
   SV.v (Value.slice f.fst.4 f.fst.5 f.fst.6)],
   f.2),
  (best.toList == { data := { toList := [] : Array UInt8 } : ByteArray }.toList) = false,
  (best.toList == { data := { toList := [] : Array UInt8 } : ByteArray }.toList) = false,
  (best.toList == { data := { toList := [] : Array UInt8 } : ByteArray }.toList) = false,
  (best.toList == { data := { toList := [] : Array UInt8 } : ByteArray }.toList) = false,
  (best.toList == { data := { toList := [] : Array UInt8 } : ByteArray }.toList) = false,
  (best.toList == { data := { toList := [] : Array UInt8 } : ByteArray }.toList) = false,
  (e.fst.3 == (0 : Int)) = true,
  (e.fst.3 == (0 : Int)) = true,
  (e.fst.3 == (0 : Int)) = true,
  ∃ stamp b,
   (seen ++ [(mC e).snd.snd]).getLast? = some stamp ∧
   cl = cl ∧ List.find? (fun e => e.snd.snd.beq stamp) es = some (SV.v (Value.string e.fst.p), valM e, b),
  true = true] := by kernel_rfl
theorem sf (s : Int) (es : List (SV × SV × Nat)) (cl : Nat) (seen : List Nat) (best best' : ByteArray) (e f : EntM) (j : Nat) : reach ESp 2 300 (nxSp s es cl seen best (mC e)) ([(0, .b true), (1, .ent (.v (.string e.1.p)) (valM e))] ++ ff [2, 3, 4] true ++ ff [5, 6, 7, 8, 9, 10] false ++ [(11, .hit j (valM f) f.2)] ++ ff [12, 13] false ++ ff [14] true ++ ff [15] false ++ ff [16] true ++ ff [17, 18, 19, 20, 21, 22] false ++ [(23, .hit j (valM f) f.2)] ++ ff [24, 25, 26, 27, 28] false ++ ff [35, 37] true ++ ff (List.range 60) false) [(0, 0), (1, 1), (2, 2)] [1] (hdSp best') 6 (objSp s es cl (seen ++ [e.2])) = [
  (0 : Nat) = (0 : Nat),
  Value.string best = Value.string best',
  (0 : Nat) = (0 : Nat),
  Value.int IntKind.u64 s = Value.int IntKind.u64 s,
  cl = cl,
  es = es,
  (es.all fun e => closedE e.fst && closedE e.snd.fst) = true,
  (match false with
   | true => some (0 : Nat)
   | false => List.lookup (1 : Nat) [((1 : Nat), (1 : Nat)), ((2 : Nat), (2 : Nat))]) =
   some (1 : Nat),
  cl = cl,
  seen ++ [(mC e).snd.2] = seen ++ [e.2],
  cl = cl,
  false = false,
  (e.fst.3 == (0 : Int)) = true,
  decide (f.fst.2 > e.fst.2) = false,
  (e.fst.3 == (0 : Int)) = true,
  (f.fst.2 == e.fst.2) = false,
  decide (f.fst.2 > e.fst.2) = false,
  (f.fst.2 == e.fst.2) = false,
  (f.fst.2 == e.fst.2) = false,
  (f.fst.2 == e.fst.2) = false,
  (f.fst.2 == e.fst.2) = false,
  decide (f.fst.2 > e.fst.2) = false,
  decide (f.fst.2 > e.fst.2) = false,
  decide (f.fst.2 > e.fst.2) = false,
  decide (f.fst.2 > e.fst.2) = false,
  decide (f.fst.2 > e.fst.2) = false,
  (∀ (e : SV × SV × Nat), e ∈ List.take j es → keyNot best e.fst) ∧
   es[j]? =
   some
   (SV.v (Value.string best),
   SV.agg
   [SV.v (Value.string f.fst.1), SV.v (Value.int IntKind.u64 f.fst.2), SV.v (Value.int IntKind.i64 f.fst.3),
   SV.v (Value.slice f.fst.4 f.fst.5 f.fst.6)],
   f.2),
  decide (f.fst.2 > e.fst.2) = false,
  decide (f.fst.2 > e.fst.2) = false,
  decide (f.fst.2 > e.fst.2) = false,
  decide (f.fst.2 > e.fst.2) = false,
  decide (f.fst.2 > e.fst.2) = false,
  decide (f.fst.2 > e.fst.2) = false,
  (e.fst.3 == (0 : Int)) = true,
  (best.toList == { data := { toList := [] : Array UInt8 } : ByteArray }.toList) = false,
  (e.fst.3 == (0 : Int)) = true,
  (best.toList == { data := { toList := [] : Array UInt8 } : ByteArray }.toList) = false,
  (best.toList == { data := { toList := [] : Array UInt8 } : ByteArray }.toList) = false,
  (∀ (e : SV × SV × Nat), e ∈ List.take j es → keyNot best e.fst) ∧
   es[j]? =
   some
   (SV.v (Value.string best),
   SV.agg
   [SV.v (Value.string f.fst.1), SV.v (Value.int IntKind.u64 f.fst.2), SV.v (Value.int IntKind.i64 f.fst.3),
   SV.v (Value.slice f.fst.4 f.fst.5 f.fst.6)],
   f.2),
  (best.toList == { data := { toList := [] : Array UInt8 } : ByteArray }.toList) = false,
  (best.toList == { data := { toList := [] : Array UInt8 } : ByteArray }.toList) = false,
  (best.toList == { data := { toList := [] : Array UInt8 } : ByteArray }.toList) = false,
  (best.toList == { data := { toList := [] : Array UInt8 } : ByteArray }.toList) = false,
  (best.toList == { data := { toList := [] : Array UInt8 } : ByteArray }.toList) = false,
  (best.toList == { data := { toList := [] : Array UInt8 } : ByteArray }.toList) = false,
  (e.fst.3 == (0 : Int)) = true,
  (e.fst.3 == (0 : Int)) = true,
  (e.fst.3 == (0 : Int)) = true,
  ∃ stamp b,
   (seen ++ [(mC e).snd.snd]).getLast? = some stamp ∧
   cl = cl ∧ List.find? (fun e => e.snd.snd.beq stamp) es = some (SV.v (Value.string e.fst.p), valM e, b),
  true = true] := by kernel_rfl
end paths
end Go.Proofs.YtiggmgcnjmalfaaGreatDoor
namespace Go.Proofs.YtiggmgcnjmalfaaGreatDoor
open Go Go.Rx Go.RowKit Go.Proofs
set_option linter.unusedVariables false
set_option linter.unusedSimpArgs false
set_option maxRecDepth 100000
namespace paths
/-! ### the order of paths -/
theorem lexN_neg : ∀ x y : List UInt8, lexN y x = - lexN x y
  | [], [] => rfl
  | [], _ :: _ => rfl
  | _ :: _, [] => rfl
  | a :: l, b :: m => by
    unfold lexN
    by_cases h1 : a < b
    · rw [if_pos h1, if_neg (lt_asy h1), if_pos h1]; rfl
    · by_cases h2 : b < a
      · rw [if_pos h2, if_neg h1, if_pos h2]
      · rw [if_neg h1, if_neg h2, if_neg h2, if_neg h1]; exact lexN_neg l m
theorem lexN_trans : ∀ {x y z : List UInt8}, lexN x y < 0 → lexN y z ≤ 0 → lexN x z < 0
  | [], [], _, h, _ => by simp [lexN] at h
  | [], _ :: _, [], _, k => by simp [lexN] at k
  | [], _ :: _, _ :: _, _, _ => by simp [lexN]
  | _ :: _, [], _, h, _ => by simp [lexN] at h
  | _ :: _, _ :: _, [], _, k => by simp [lexN] at k
  | a :: l, b :: m, c :: n, h, k => by
    unfold lexN at h k ⊢
    by_cases h1 : a < b
    · by_cases k1 : b < c
      · have : a < c := by rw [UInt8.lt_iff_toNat_lt] at *; omega
        rw [if_pos this]; decide
      · by_cases k2 : c < b
        · rw [if_neg k1, if_pos k2] at k; exact absurd k (by decide)
        · obtain rfl := lt_tri k1 k2
          rw [if_pos h1]; decide
    · by_cases h2 : b < a
      · rw [if_neg h1, if_pos h2] at h; exact absurd h (by decide)
      · obtain rfl := lt_tri h1 h2
        rw [if_neg h1, if_neg h2] at h
        by_cases k1 : a < c
        · rw [if_pos k1]; decide
        · by_cases k2 : c < a
          · rw [if_neg k1, if_pos k2] at k; exact absurd k (by decide)
          · rw [if_neg k1, if_neg k2] at k ⊢
            exact lexN_trans h k
theorem lexN_in (x y : List UInt8) : lexN x y = -1 ∨ lexN x y = 0 ∨ lexN x y = 1 := by
  induction x generalizing y with
  | nil => cases y <;> simp [lexN]
  | cons a l ih => cases y with
    | nil => simp [lexN]
    | cons b m =>
      unfold lexN
      split
      · exact .inl rfl
      · split
        · exact .inr (.inr rfl)
        · exact ih m
theorem rcN_neg : ∀ x y : List (List UInt8), rcN y x = - rcN x y
  | [], [] => rfl
  | [], _ :: _ => rfl
  | _ :: _, [] => rfl
  | a :: l, b :: m => by
    unfold rcN
    rw [lexN_neg a b]
    by_cases h : lexN a b = 0
    · rw [if_pos h, if_pos (by omega)]; exact rcN_neg l m
    · rw [if_neg h, if_neg (by omega)]
theorem rcN_eq : ∀ {x y : List (List UInt8)}, rcN x y = 0 → x = y
  | [], [], _ => rfl
  | [], _ :: _, h => by simp [rcN] at h
  | _ :: _, [], h => by simp [rcN] at h
  | a :: l, b :: m, h => by
    unfold rcN at h
    by_cases h1 : lexN a b = 0
    · rw [if_pos h1] at h; rw [lexN_eq h1, rcN_eq h]
    · rw [if_neg h1] at h; exact absurd h h1
theorem rcN_trans : ∀ {x y z : List (List UInt8)}, rcN x y < 0 → rcN y z < 0 → rcN x z < 0
  | [], [], _, h, _ => by simp [rcN] at h
  | [], _ :: _, [], _, k => by simp [rcN] at k
  | [], _ :: _, _ :: _, _, _ => by simp [rcN]
  | _ :: _, [], _, h, _ => by simp [rcN] at h
  | _ :: _, _ :: _, [], _, k => by simp [rcN] at k
  | a :: l, b :: m, c :: n, h, k => by
    unfold rcN at h k ⊢
    by_cases h1 : lexN a b = 0
    · rw [if_pos h1] at h
      obtain rfl := lexN_eq h1
      by_cases k1 : lexN a c = 0
      · rw [if_pos k1] at k ⊢; exact rcN_trans h k
      · rw [if_neg k1] at k ⊢; exact k
    · rw [if_neg h1] at h
      by_cases k1 : lexN b c = 0
      · obtain rfl := lexN_eq k1
        rw [if_neg h1]; exact h
      · rw [if_neg k1] at k
        have := lexN_trans h (Int.le_of_lt k)
        rw [if_neg (by omega)]; exact this
theorem cmpN_rc (a b : ByteArray) : cmpN a b = rcN (partsL a.data.toList) (partsL b.data.toList) := (rcN_cmp (a.size + 1) a b (by omega)).symm
theorem cmpN_neg (a b : ByteArray) : cmpN b a = - cmpN a b := by rw [cmpN_rc, cmpN_rc, rcN_neg]
theorem cmpN_trans {a b c : ByteArray} (h : cmpN a b < 0) (k : cmpN b c < 0) : cmpN a c < 0 := by
  rw [cmpN_rc] at *; exact rcN_trans h k
/-! ### which entry goes -/
/-- It goes rather than the other one. -/
def beats (f e : EntM) : Prop := e.1.v > f.1.v ∨ (e.1.v = f.1.v ∧ cmpN f.1.p e.1.p < 0)
theorem beats_trans {f x e : EntM} (h : beats f x) (k : beats x e) : beats f e := by
  rcases h with h | ⟨h1, h2⟩
  · rcases k with k | ⟨k1, k2⟩
    · exact .inl (by omega)
    · exact .inl (by omega)
  · rcases k with k | ⟨k1, k2⟩
    · exact .inl (by omega)
    · exact .inr ⟨by omega, cmpN_trans h2 k2⟩
/-- A book's map, as it lies. -/
structure BookOK (E : List EntM) (cl : Nat) : Prop where
  names : (E.map fun e => e.1.p).Nodup
  borns : (E.map fun e => e.2).Nodup
  born : ∀ e ∈ E, e.2 < cl
  full : ∀ e ∈ E, e.1.p ≠ ⟨#[]⟩
  size : ∀ e ∈ E, e.1.p.size ≤ 1000000000
/-- The best of those that were seen. -/
def BestIs (E : List EntM) (seen : List Nat) (best : ByteArray) : Prop :=
  (best = ⟨#[]⟩ ∧ ∀ x ∈ E, x.2 ∈ seen → x.1.k ≠ 0) ∨ (∃ x ∈ E, x.1.p = best ∧ x.1.k = 0 ∧ x.2 ∈ seen ∧ ∀ y ∈ E, y.2 ∈ seen → y.1.k = 0 → ¬ beats y x)
theorem KSp {M : Own} {w0 : World} (hM : ∀ b, ¬ M b) (h : MX w0) : Facts ESp M w0 := factsP (X := MX) (fun r hr => by
  rw [List.mem_singleton.1 hr]; exact cmp_ok) fun ν s w hr _ => h.keep fun k hk => hr.frame k hk (hM k)
theorem nodup_idx {α β : Type} {f : α → β} {l : List α} (h : (l.map f).Nodup) {i j : Nat} {a b : α} (ha : l[i]? = some a) (hb : l[j]? = some b) (e : f a = f b) : i = j := by
  obtain ⟨hi, rfl⟩ := List.getElem?_eq_some_iff.1 ha
  obtain ⟨hj, rfl⟩ := List.getElem?_eq_some_iff.1 hb
  refine (List.getElem_inj (h₀ := by simpa using hi) (h₁ := by simpa using hj) h).1 ?_
  simpa using e
theorem find_born {E : List EntM} (hb : (E.map fun e => e.2).Nodup) {x : EntM} (hx : x ∈ E) : (E.map mC).find? (fun e => Nat.beq e.2.2 x.2) = some (mC x) := by
  induction E with
  | nil => cases hx
  | cons y E ih =>
    rw [List.map_cons, List.find?_cons]
    rw [List.map_cons, List.nodup_cons] at hb
    by_cases h : y.2 = x.2
    · have hq : Nat.beq (mC y).2.2 x.2 = true := by show Nat.beq y.2 x.2 = true; rw [h]; simp
      rw [hq]
      rcases List.mem_cons.1 hx with rfl | hx
      · rfl
      · exact absurd (List.mem_map.2 ⟨x, hx, h.symm⟩) hb.1
    · have hq : Nat.beq (mC y).2.2 x.2 = false := by
        show Nat.beq y.2 x.2 = false
        rw [Bool.eq_false_iff]; intro e; exact h (Nat.eq_of_beq_eq_true e)
      rw [hq]
      rcases List.mem_cons.1 hx with rfl | hx
      · exact absurd rfl h
      · exact ih hb.2 hx
theorem hit_at {E : List EntM} (hn : (E.map fun e => e.1.p).Nodup) {f : EntM} (hf : f ∈ E) : ∃ j, hitP (E.map mC) f.1.p j (valM f) f.2 := by
  obtain ⟨j, hj⟩ := List.getElem?_of_mem hf
  refine ⟨j, fun e he => ?_, by rw [List.getElem?_map, hj]; rfl⟩
  rw [← List.map_take] at he
  obtain ⟨y, hy, rfl⟩ := List.mem_map.1 he
  refine ⟨y.1.p, rfl, ?_⟩
  rw [Bool.eq_false_iff]; intro h
  obtain ⟨i, hi⟩ := List.getElem?_of_mem hy
  have hlt : i < j := by
    have := (List.getElem?_eq_some_iff.1 hi).1
    rw [List.length_take] at this; omega
  rw [List.getElem?_take, if_pos hlt] at hi
  have hpe : f.1.p = y.1.p := by
    have : (f.1.p.data == y.1.p.data) = true := h
    have := eq_of_beq this
    cases hfp : f.1.p; cases hyp : y.1.p; rw [hfp, hyp] at this; cases this; rfl
  have := nodup_idx hn hi hj hpe.symm
  omega
theorem closedM (E : List EntM) : ((E.map mC).all fun e => closedE e.1 && closedE e.2.1) = true := by
  rw [List.all_eq_true]; intro x hx
  obtain ⟨y, _, rfl⟩ := List.mem_map.1 hx
  rfl
end paths
end Go.Proofs.YtiggmgcnjmalfaaGreatDoor
namespace Go.Proofs.YtiggmgcnjmalfaaGreatDoor
open Go Go.Rx Go.RowKit Go.Proofs
set_option linter.unusedVariables false
set_option linter.unusedSimpArgs false
set_option maxRecDepth 100000
namespace paths
/-- The best of all. -/
def BestAll (E : List EntM) (best : ByteArray) : Prop :=
  (best = ⟨#[]⟩ ∧ ∀ x ∈ E, x.1.k ≠ 0) ∨ (∃ x ∈ E, x.1.p = best ∧ x.1.k = 0 ∧ ∀ y ∈ E, y.1.k = 0 → ¬ beats y x)
def spOut (best : ByteArray) : Value := .tuple #[.string best, .bool (!best.toList == (⟨#[]⟩ : ByteArray).toList)]
theorem toList_inj {a b : ByteArray} (h : (a.toList == b.toList) = true) : a = b := by
  rw [tlB, tlB] at h
  have := eq_of_beq h
  cases a; cases b; congr 1; exact Array.toList_inj.1 this
theorem toList_ne {a b : ByteArray} (h : a ≠ b) : (a.toList == b.toList) = false := by
  cases e : (a.toList == b.toList)
  · rfl
  · exact absurd (toList_inj e) h
theorem getLast_snoc {l : List Nat} {x : Nat} : (l ++ [x]).getLast? = some x := by simp
section
variable {w0 : World} {cs0 : List Frame} {R : Ending → World → Prop} {E : List EntM} {s : Int} {cl : Nat} {M : Own}
/-- One more was seen, and the best is this one. -/
theorem seen_sub {E : List EntM} {seen : List Nat} {e : EntM} {n : Nat} (he : e ∈ E) (hs : seen.contains e.2 = false) (h : (E.filter fun x => !seen.contains x.2).length ≤ n + 1) : (E.filter fun x => !(seen ++ [e.2]).contains x.2).length ≤ n := by
  have hlt : (E.filter fun x => !(seen ++ [e.2]).contains x.2).length < (E.filter fun x => !seen.contains x.2).length := by
    have h1 : (E.filter fun x => !(seen ++ [e.2]).contains x.2) = (E.filter fun x => !seen.contains x.2).filter fun x => !(x.2 == e.2) := by
      rw [List.filter_filter]
      congr 1; funext x
      cases h1 : (x.2 == e.2) <;> cases h2 : seen.contains x.2 <;> simp_all
    rw [h1]
    refine List.length_filter_lt_length_iff_exists.2 ⟨e, List.mem_filter.2 ⟨he, by show (!seen.contains e.2) = true; rw [hs]; rfl⟩, by simp⟩
  omega
theorem headSp (hw : MX w0) (hM : ∀ z, ¬ M z) (hB : BookOK E cl) (hR : ∀ best w', Below w0.heap.size w0 w' → BestAll E best → R (.returned (spOut best)) w') {seen : List Nat} {best : ByteArray} {ν : Val} (hb : BestIs E seen best)
    (hone : ∀ x ∈ E, seen.contains x.2 = false → Goes ESp M w0 cs0 52 R ν (nxSp s (E.map mC) cl seen best (mC x))) :
    Goes ESp M w0 cs0 52 R ν (SM.at (hdSp best) 6 (objSp s (E.map mC) cl seen)) := by
  refine Goes.go (KSp hM hw) (ask_ok s (E.map mC) cl seen best) (by unfold SH.ob; rw [ask_ob]; trivial) ?_
  refine Goes.next (KSp hM hw) (ask_D s (E.map mC) cl seen best) ?_ (fun e he hs => ?_) fun hall => ?_
  · cases he : (!seen.isEmpty && !(E.map mC).isEmpty && (E.map mC).all fun e => Nat.ble cl e.2.2)
    · rfl
    · rw [Bool.and_eq_true, Bool.and_eq_true, List.all_eq_true] at he
      obtain ⟨⟨_, h2⟩, h3⟩ := he
      cases hE : E with
      | nil => rw [hE] at h2; cases h2
      | cons x E' =>
        have hx : x ∈ E := by rw [hE]; exact List.mem_cons_self
        have h4 := Nat.le_of_ble_eq_true (h3 (mC x) (List.mem_map.2 ⟨x, hx, rfl⟩))
        have h5 := hB.born x hx
        have h4' : cl ≤ x.2 := h4
        omega
  · obtain ⟨x, hx, rfl⟩ := List.mem_map.1 he
    exact ⟨_, nx_ok s (E.map mC) cl seen best (mC x), by unfold SH.ob; rw [nx_ob]; trivial, hone x hx hs⟩
  · refine ⟨_, st_ok s (E.map mC) cl seen best, by unfold SH.ob; rw [st_ob]; trivial, ?_⟩
    refine goes_due (KSp hM hw) hM (n := 60) (o := [(1000, .b true)]) (v := spOut best) ⟨?_⟩ fun w' hb' => hR best w' hb' ?_
    · rw [sp1 (e := (⟨⟨#[]⟩, 0, 0, none, 0, 0⟩, 0))]; exact ⟨trivial, rfl⟩
    · have hs : ∀ x ∈ E, x.2 ∈ seen := fun x hx => by
        cases hc : seen.contains x.2
        · have h1 := hall (mC x) (List.mem_map.2 ⟨x, hx, rfl⟩) hc
          have h2 : Nat.blt x.2 cl = false := h1
          have h3 := hB.born x hx
          have h4 : Nat.blt x.2 cl = true := by simp [Nat.blt_eq]; omega
          rw [h4] at h2; cases h2
        · exact List.contains_iff_mem.1 hc
      rcases hb with ⟨h1, h2⟩ | ⟨x, hx, h1, h2, h3, h4⟩
      · exact .inl ⟨h1, fun x hx => h2 x hx (hs x hx)⟩
      · exact .inr ⟨x, hx, h1, h2, fun y hy => h4 y hy (hs y hy)⟩
theorem ff_lt {a b : Nat} : True := trivial
theorem loopSp (hw : MX w0) (hM : ∀ z, ¬ M z) (hB : BookOK E cl) (hR : ∀ best w', Below w0.heap.size w0 w' → BestAll E best → R (.returned (spOut best)) w') : ∀ (n : Nat) (seen : List Nat) (best : ByteArray) (ν : Val), (∀ i b, ν i = some b → ([(0, 0), (1, 1), (2, 2)] : List (Nat × Nat)).lookup i = some i) → (E.filter fun x => !seen.contains x.2).length ≤ n → BestIs E seen best →
    Goes ESp M w0 cs0 52 R ν (SM.at (hdSp best) 6 (objSp s (E.map mC) cl seen)) := by
  intro n
  induction n with
  | zero =>
    intro seen best ν hν hn hb
    refine headSp hw hM hB hR hb fun x hx hs => ?_
    have : x ∈ E.filter fun x => !seen.contains x.2 := List.mem_filter.2 ⟨hx, by show (!seen.contains x.2) = true; rw [hs]; rfl⟩
    rw [List.length_eq_zero_iff.1 (Nat.le_zero.1 hn)] at this
    cases this
  | succ n ih =>
    intro seen best ν hν hn hb
    refine headSp hw hM hB hR hb fun x hx hs => ?_
    have hn2 := seen_sub hx hs hn
    have hfb := find_born hB.borns hx
    have hfx : ∃ (stamp : Nat) (b : Nat), (seen ++ [(mC x).snd.snd]).getLast? = some stamp ∧ List.find? (fun e => e.snd.snd.beq stamp) (E.map mC) = some (SV.v (Value.string x.fst.p), valM x, b) := ⟨x.2, x.2, getLast_snoc, hfb⟩
    have hcl := closedM E
    have hsn : ∀ y, y ∈ seen ++ [x.2] ↔ y ∈ seen ∨ y = x.2 := fun y => by simp
    have hin : x.2 ∈ seen ++ [x.2] := by simp
    have hsame : ∀ y ∈ E, y.2 = x.2 → y = x := fun y hy h => by
      obtain ⟨i, hi⟩ := List.getElem?_of_mem hy
      obtain ⟨j, hj⟩ := List.getElem?_of_mem hx
      have := nodup_idx hB.borns hi hj h
      subst this
      rw [hi] at hj; exact Option.some.inj hj
    by_cases hk : x.1.k = 0
    · have hk' : (x.fst.3 == (0 : Int)) = true := by rw [beq_iff_eq]; exact hk
      -- the new one is best
      have mine : (∀ y ∈ E, y.2 ∈ seen → y.1.k = 0 → ¬ beats y x) → BestIs E (seen ++ [x.2]) x.1.p := fun h => .inr ⟨x, hx, rfl, hk, hin, fun y hy hy2 hy3 => by
        rcases (hsn _).1 hy2 with h1 | h1
        · exact h y hy h1 hy3
        · rw [hsame y hy h1]
          rintro (h | ⟨_, h⟩)
          · omega
          · have := cmpN_neg x.1.p x.1.p; omega⟩
      rcases hb with ⟨rfl, hb⟩ | ⟨f, hf, rfl, hf0, hfs, hfb2⟩
      · have nx := ih (seen ++ [x.2]) x.1.p ν hν hn2 (mine fun y hy hy2 hy3 => absurd hy3 (hb y hy hy2))
        refine Goes.reach (KSp hM hw) (k := 2) (n := 300) (o := ([(0, .b true), (1, .ent (.v (.string x.1.p)) (valM x))] ++ ff (List.range 60) true)) (ren := [(0, 0), (1, 1), (2, 2)]) (eqs := [1]) ?_ (by kernel_rfl) hν nx
        rw [sb (f := x) (j := 0)]
        have hrr : ((⟨#[]⟩ : ByteArray).toList == (⟨{ toList := [] }⟩ : ByteArray).toList) = true := by rw [beq_iff_eq]
        simp only [Owed, hk', hrr, hcl, and_self, and_true, true_and]
        repeat' apply And.intro
        all_goals first | rfl | exact hfx
      · obtain ⟨j, hj⟩ := hit_at hB.names hf
        have he0 := toList_ne (hB.full f hf)
        have z1 := hB.size x hx
        have z2 := hB.size f hf
        have still : BestIs E seen f.1.p := .inr ⟨f, hf, rfl, hf0, hfs, hfb2⟩
        have his : (∀ y ∈ E, y.2 = x.2 → ¬ beats y f) → BestIs E (seen ++ [x.2]) f.1.p := fun h => .inr ⟨f, hf, rfl, hf0, (hsn _).2 (.inl hfs), fun y hy hy2 hy3 => by
          rcases (hsn _).1 hy2 with h1 | h1
          · exact hfb2 y hy h1 hy3
          · exact h y hy h1⟩
        have he0' : (f.fst.1.toList == ({ data := { toList := [] } } : ByteArray).toList) = false := he0
        by_cases h1 : f.1.v > x.1.v
        · have t1 : decide (f.fst.2 > x.fst.2) = true := decide_eq_true h1
          have nx := ih (seen ++ [x.2]) x.1.p ν hν hn2 (mine fun y hy hy2 hy3 h => hfb2 y hy hy2 hy3 (beats_trans h (.inl h1)))
          refine Goes.reach (KSp hM hw) (k := 2) (n := 300) (o := ([(0, .b true), (1, .ent (.v (.string x.1.p)) (valM x))] ++ ff [2, 3, 4] true ++ ff [5, 6, 7, 8, 9, 10] false ++ [(11, .hit j (valM f) f.2)] ++ ff [12, 13] false ++ ff [14] true ++ ff [15] false ++ ff (List.range 60) true)) (ren := [(0, 0), (1, 1), (2, 2)]) (eqs := [1]) ?_ (by kernel_rfl) hν nx
          rw [sc]
          simp only [Owed, hk', hcl, he0', t1, and_self, and_true, true_and]
          repeat' apply And.intro
          all_goals first | rfl | exact hfx | exact hj.1 | exact hj.2 | assumption
        · have t1 : decide (f.fst.2 > x.fst.2) = false := decide_eq_false h1
          by_cases h2 : f.1.v = x.1.v
          · have t2 : (f.fst.2 == x.fst.2) = true := by rw [beq_iff_eq]; exact h2
            by_cases h3 : cmpN x.1.p f.1.p < 0
            · have t3 : decide (cmpN x.fst.1 f.fst.1 < (0 : Int)) = true := decide_eq_true h3
              have nx := ih (seen ++ [x.2]) x.1.p ν hν hn2 (mine fun y hy hy2 hy3 h => hfb2 y hy hy2 hy3 (beats_trans h (.inr ⟨h2, h3⟩)))
              refine Goes.reach (KSp hM hw) (k := 2) (n := 300) (o := ([(0, .b true), (1, .ent (.v (.string x.1.p)) (valM x))] ++ ff [2, 3, 4] true ++ ff [5, 6, 7, 8, 9, 10] false ++ [(11, .hit j (valM f) f.2)] ++ ff [12, 13] false ++ ff [14] true ++ ff [15] false ++ ff [16] true ++ ff [17, 18, 19, 20, 21, 22] false ++ [(23, .hit j (valM f) f.2)] ++ ff [24, 25, 26, 27, 28] false ++ ff [34, 37] false ++ ff (List.range 60) true)) (ren := [(0, 0), (1, 1), (2, 2)]) (eqs := [1]) ?_ (by kernel_rfl) hν nx
              rw [sd]
              simp only [Owed, hk', hcl, he0', t1, t2, t3, and_self, and_true, true_and]
              repeat' apply And.intro
              all_goals first | rfl | exact hfx | exact hj.1 | exact hj.2 | assumption
            · have t3 : decide (cmpN x.fst.1 f.fst.1 < (0 : Int)) = false := decide_eq_false h3
              have nx := ih (seen ++ [x.2]) f.1.p ν hν hn2 (his fun y hy h4 => by
                rw [hsame y hy h4]
                rintro (h | ⟨_, h⟩)
                · exact h1 h
                · exact h3 h)
              refine Goes.reach (KSp hM hw) (k := 2) (n := 300) (o := ([(0, .b true), (1, .ent (.v (.string x.1.p)) (valM x))] ++ ff [2, 3, 4] true ++ ff [5, 6, 7, 8, 9, 10] false ++ [(11, .hit j (valM f) f.2)] ++ ff [12, 13] false ++ ff [14] true ++ ff [15] false ++ ff [16] true ++ ff [17, 18, 19, 20, 21, 22] false ++ [(23, .hit j (valM f) f.2)] ++ ff [24, 25, 26, 27, 28] false ++ ff [34, 37, 39] false ++ ff (List.range 60) true)) (ren := [(0, 0), (1, 1), (2, 2)]) (eqs := [1]) ?_ (by kernel_rfl) hν nx
              rw [se]
              simp only [Owed, hk', hcl, he0', t1, t2, t3, and_self, and_true, true_and]
              repeat' apply And.intro
              all_goals first | rfl | exact hfx | exact hj.1 | exact hj.2 | assumption
          · have t2 : (f.fst.2 == x.fst.2) = false := by rw [beq_eq_false_iff_ne]; exact h2
            have nx := ih (seen ++ [x.2]) f.1.p ν hν hn2 (his fun y hy h4 => by
              rw [hsame y hy h4]
              rintro (h | ⟨h, _⟩)
              · exact h1 h
              · exact h2 h)
            refine Goes.reach (KSp hM hw) (k := 2) (n := 300) (o := ([(0, .b true), (1, .ent (.v (.string x.1.p)) (valM x))] ++ ff [2, 3, 4] true ++ ff [5, 6, 7, 8, 9, 10] false ++ [(11, .hit j (valM f) f.2)] ++ ff [12, 13] false ++ ff [14] true ++ ff [15] false ++ ff [16] true ++ ff [17, 18, 19, 20, 21, 22] false ++ [(23, .hit j (valM f) f.2)] ++ ff [24, 25, 26, 27, 28] false ++ ff [35, 37] true ++ ff (List.range 60) false)) (ren := [(0, 0), (1, 1), (2, 2)]) (eqs := [1]) ?_ (by kernel_rfl) hν nx
            rw [sf]
            simp only [Owed, hk', hcl, he0', t1, t2, and_self, and_true, true_and]
            repeat' apply And.intro
            all_goals first | rfl | exact hfx | exact hj.1 | exact hj.2 | assumption
    · have hk' : (x.fst.3 == (0 : Int)) = false := by rw [beq_eq_false_iff_ne]; exact hk
      have nx := ih (seen ++ [x.2]) best ν hν hn2 (by
        rcases hb with ⟨h1, h2⟩ | ⟨y, hy, h1, h2, h3, h4⟩
        · refine .inl ⟨h1, fun y hy hy2 => ?_⟩
          rcases (hsn _).1 hy2 with h | h
          · exact h2 y hy h
          · rw [hsame y hy h]; exact hk
        · refine .inr ⟨y, hy, h1, h2, (hsn _).2 (.inl h3), fun z hz hz2 hz3 => ?_⟩
          rcases (hsn _).1 hz2 with h | h
          · exact h4 z hz h hz3
          · rw [hsame z hz h] at hz3; exact absurd hz3 hk)
      refine Goes.reach (KSp hM hw) (k := 2) (n := 300) (o := ([(0, .b true), (1, .ent (.v (.string x.1.p)) (valM x))] ++ ff (List.range 60) false)) (ren := [(0, 0), (1, 1), (2, 2)]) (eqs := [1]) ?_ (by kernel_rfl) hν nx
      rw [sa (f := x) (j := 0)]
      simp only [Owed, hk', hcl, and_self, and_true, true_and]
      repeat' apply And.intro
      all_goals first | rfl | exact hfx
end
end paths
end Go.Proofs.YtiggmgcnjmalfaaGreatDoor
namespace Go.Proofs.YtiggmgcnjmalfaaGreatDoor
open Go Go.Rx Go.RowKit Go.Proofs
set_option linter.unusedVariables false
set_option linter.unusedSimpArgs false
set_option maxRecDepth 100000
namespace paths
theorem partsL_inj : ∀ {l m : List UInt8}, partsL l = partsL m → l = m
  | [], [], _ => rfl
  | [], b :: m, h => by
    exfalso
    unfold partsL at h
    split at h
    · have := partsL_ne m
      cases hp : partsL m with
      | nil => exact this hp
      | cons x xs => rw [hp] at h; simp at h
    · split at h <;> simp at h
  | b :: l, [], h => by
    exfalso
    unfold partsL at h
    split at h
    · have := partsL_ne l
      cases hp : partsL l with
      | nil => exact this hp
      | cons x xs => rw [hp] at h; simp at h
    · split at h <;> simp at h
  | b :: l, c :: m, h => by
    have nl := partsL_ne l
    have nm := partsL_ne m
    unfold partsL at h
    by_cases hb : b = 47
    · by_cases hc : c = 47
      · rw [if_pos hb, if_pos hc] at h
        rw [hb, hc, partsL_inj (List.cons.inj h).2]
      · rw [if_pos hb, if_neg hc] at h
        cases hp : partsL m with
        | nil => exact absurd hp nm
        | cons x xs => rw [hp] at h; simp at h
    · by_cases hc : c = 47
      · rw [if_neg hb, if_pos hc] at h
        cases hp : partsL l with
        | nil => exact absurd hp nl
        | cons x xs => rw [hp] at h; simp at h
      · rw [if_neg hb, if_neg hc] at h
        cases hp : partsL l with
        | nil => exact absurd hp nl
        | cons x xs =>
          cases hq : partsL m with
          | nil => exact absurd hq nm
          | cons y ys =>
            rw [hp, hq] at h
            simp only [List.cons.injEq] at h
            obtain ⟨⟨h1, h2⟩, h3⟩ := h
            rw [h1, partsL_inj (l := l) (m := m) (by rw [hp, hq, h2, h3])]
theorem cmpN_zero {a b : ByteArray} (h : cmpN a b = 0) : a = b := by
  rw [cmpN_rc] at h
  have := partsL_inj (rcN_eq h)
  cases a; cases b; congr 1; exact Array.toList_inj.1 this
theorem mC_inj {x y : EntM} (h : mC x = mC y) : x = y := by
  obtain ⟨⟨p, v, k, a, l, c⟩, n⟩ := x
  obtain ⟨⟨p', v', k', a', l', c'⟩, n'⟩ := y
  simp only [mC, Prod.mk.injEq, SV.v.injEq, Value.string.injEq, SV.agg.injEq, List.cons.injEq, Value.int.injEq, Value.slice.injEq, true_and, and_true] at h
  obtain ⟨h1, ⟨_, h2, h3, h4, h5, h6⟩, h7⟩ := h
  subst h1 h2 h3 h4 h5 h6 h7
  rfl
theorem map_inj : ∀ {E E' : List EntM}, E.map mC = E'.map mC → E = E'
  | [], [], _ => rfl
  | [], _ :: _, h => by simp at h
  | _ :: _, [], h => by simp at h
  | x :: E, y :: E', h => by
    rw [List.map_cons, List.map_cons, List.cons.injEq] at h
    rw [mC_inj h.1, map_inj h.2]
theorem best_one {E : List EntM} {cl : Nat} (hB : BookOK E cl) {a b : ByteArray} (ha : BestAll E a) (hb : BestAll E b) : a = b := by
  rcases ha with ⟨rfl, h1⟩ | ⟨x, hx, rfl, hx0, h1⟩
  · rcases hb with ⟨rfl, _⟩ | ⟨y, hy, rfl, hy0, _⟩
    · rfl
    · exact absurd hy0 (h1 y hy)
  · rcases hb with ⟨rfl, h2⟩ | ⟨y, hy, rfl, hy0, h2⟩
    · exact absurd hx0 (h2 x hx)
    · have n1 := h1 y hy hy0
      have n2 := h2 x hx hx0
      unfold beats at n1 n2
      have hn := cmpN_neg x.1.p y.1.p
      have hv : x.1.v = y.1.v := by
        rcases Int.lt_trichotomy x.1.v y.1.v with h | h | h
        · exact absurd (.inl h) n2
        · exact h
        · exact absurd (.inl h) n1
      refine cmpN_zero ?_
      have m1 : ¬ cmpN y.1.p x.1.p < 0 := fun h => n1 (.inr ⟨hv, h⟩)
      have m2 : ¬ cmpN x.1.p y.1.p < 0 := fun h => n2 (.inr ⟨hv.symm, h⟩)
      omega
/-- The best, as a map's cells tell it. -/
noncomputable def bestG (es : List (SV × SV × Nat)) : ByteArray := @Classical.epsilon _ ⟨⟨#[]⟩⟩ fun best => ∃ E, es = E.map mC ∧ BestAll E best
theorem bestG_eq {E : List EntM} {cl : Nat} (hB : BookOK E cl) {best : ByteArray} (h : BestAll E best) : bestG (E.map mC) = best := by
  have := Classical.epsilon_spec (p := fun best => ∃ E', E.map mC = E'.map mC ∧ BestAll E' best) ⟨best, E, rfl, h⟩
  obtain ⟨E', h1, h2⟩ := this
  rw [← map_inj h1] at h2
  exact best_one hB h2 h
def BookIn (es : List (SV × SV × Nat)) (cl : Nat) : Prop := ∃ E : List EntM, es = E.map mC ∧ BookOK E cl
noncomputable def spareS : PlG := fun args sh => match args with
  | [.ptr i 0] => match sh.look i with
    | some (.row [.v (.int .u64 s), .map m] t (0, 0) none, _) => match sh.look m with
      | some (.map es cl, _) => some (.tuple #[.string (bestG es), .bool (!(bestG es).toList == (⟨#[]⟩ : ByteArray).toList)], t = 86 ∧ BookIn es cl)
      | _ => none
    | _ => none
  | _ => none
theorem closed_map {ν ν' : Val} {i j : Nat} {E : List EntM} {cl : Nat} {ob : Obj} (h : OR ν i (.map (E.map mC) cl) ob) : OR ν' j (.map (E.map mC) cl) ob := by
  obtain ⟨l, rfl, hl⟩ := h
  exact ⟨l, rfl, closedE_Ent (closedM E) hl⟩
theorem spare_ok : SumOK Tryz.prog MX (52, plSumG spareS) := by
  refine plSumG_ok ⟨_, Tryz.func52, by kernel_rfl, by kernel_rfl⟩ fun args sh v p h hp ν M w0 w a hr hX ha => ?_
  dsimp only [spareS] at h
  split at h
  · rename_i i
    split at h
    · rename_i s m t mk hl
      split at h
      · rename_i es cl mk2 hm
        cases h
        obtain ⟨rfl, E, rfl, hB⟩ := hp
        obtain ⟨y1, as1, rfl, q1, ha2⟩ := ha.cons_inv
        obtain rfl := ha2.nil_inv
        obtain ⟨b, hb, rfl⟩ := VR.ptr_iff.1 q1
        obtain ⟨hi, hgi, b', ob, hb', ho, hor, _⟩ := hr.look hl
        rw [hb] at hb'; cases hb'
        obtain ⟨hi2, hgi2, b2, ob2, hb2, ho2, hor2, _⟩ := hr.look hm
        have him : i ≠ m := by
          rintro rfl
          rw [hl] at hm; cases hm
        have hne : b.1 ≠ b2.1 := fun e => him (hr.inj i m hi hi2 (by rw [hgi]; simp) (by rw [hgi2]; simp) b b2 hb hb2 e)
        refine (calls_readR (E := ESp) (R := fun e w' => Below w.heap.size w w' ∧ ∃ best, e = .returned (spOut best) ∧ BestAll E best) rfl (d := 6) (l := [b, b2]) (os := [.row [.v (.int .u64 s), .map 1] 86 (0, 0) none, .map (E.map mC) cl]) rfl (by simp) (by simpa using hne) ?_ rfl (args := [.ptr 0 0]) (S0 := entSp s (E.map mC) cl) (by kernel_rfl) (VRL.cons (VR.ptr_iff.2 ⟨b, rfl, rfl⟩) VRL.nil) fun cs0 => ?_).mono fun e w' ⟨h1, best, h2, h3⟩ => ⟨h1, by rw [h2, bestG_eq hB h3]; rfl⟩
        · intro j o' b' c' h1 h2
          match j with
          | 0 =>
            simp only [List.getElem?_cons_zero, Option.some.injEq] at h1 h2
            subst h1
            subst h2
            refine ⟨_, ho, ?_⟩
            obtain ⟨ys, rest, rfl, hys, hx⟩ := hor
            obtain ⟨z1, u, rfl, r1, hu⟩ := hys.cons_inv
            obtain ⟨z2, u2, rfl, r2, hu2⟩ := hu.cons_inv
            obtain rfl := hu2.nil_inv
            obtain rfl := VR.v_iff.1 r1
            obtain ⟨b3, hb3, rfl⟩ := VR.map_iff.1 r2
            rw [hb2] at hb3; cases hb3
            exact ⟨_, rest, rfl, VRL.cons (VR.v_iff.2 rfl) (VRL.cons (VR.map_iff.2 ⟨b2, rfl, rfl⟩) VRL.nil), hx⟩
          | 1 =>
            simp only [List.getElem?_cons_succ, List.getElem?_cons_zero, Option.some.injEq] at h1 h2
            subst h1
            subst h2
            exact ⟨_, ho2, closed_map hor2⟩
          | j + 2 => simp at h1
        · have hM : ∀ z, ¬ (layOwn [b, b2] ([SO.row [.v (.int .u64 s), .map 1] 86 (0, 0) none, .map (E.map mC) cl].map fun o => (o, false))) z := fun z => layOwn_none
          have hν : ∀ i c, layVal [b, b2] i = some c → ([(0, 0), (1, 1), (2, 2)] : List (Nat × Nat)).lookup i = some i := by
            intro i c h
            match i with
            | 0 => rfl
            | 1 => rfl
            | i + 2 => simp [layVal] at h
          refine Goes.reach (KSp hM hX) (k := 2) (n := 60) (o := [(1000, .b true)]) (ren := [(0, 0), (1, 1), (2, 2)]) (eqs := [1]) (F := hdSp ⟨#[]⟩) (d := 6) (l := objSp s (E.map mC) cl []) ?_ (by kernel_rfl) hν (loopSp hX hM hB (fun best w' hb h => ⟨hb, best, rfl, h⟩) (E.filter fun x => !([] : List Nat).contains x.2).length [] ⟨#[]⟩ _ hν (Nat.le_refl _) (.inl ⟨rfl, fun x hx h => by cases h⟩))
          rw [sp0]
          simp only [Owed, closedM, and_self, and_true, true_and]
          first | done | rfl | skip
      · cases h
    · cases h
  · cases h
end paths
end Go.Proofs.YtiggmgcnjmalfaaGreatDoor
namespace Go.Proofs.YtiggmgcnjmalfaaGreatDoor
open Go Go.Rx Go.RowKit Go.Proofs
set_option linter.unusedVariables false
set_option linter.unusedSimpArgs false
set_option maxRecDepth 100000
namespace paths
def lPu : List (FuncId × Sum) := [(45, pureSum echkPS), (46, plSumG getG), (47, brSum (slSumG withoutS) (plSumG withoutN)), (48, slSumG withS)]
noncomputable def EPu : Env := { EP [] [] with sums := fun f => lPu.lookup f }
def rowR (l : List SV) : Option (SO × Bool) := some (.row l 46 (0, 0) (some 4), false)
noncomputable def entPu (l : List SV) (n : Nat) (s : Int) (x : EntT) : SM := (enterS EPu 15 [.agg [.v (.int .u64 s), .sl 0 0 n none], .v (.agg #[.string x.p, .int .u64 x.v, .int .i64 x.k, .slice x.a x.l x.c])] (memOf 6 1 0 [rowR l])).getD noSM
theorem pu0 (l : List SV) (n : Nat) (s : Int) (x : EntT) : endsX EPu 15 300 (entPu l n s x) ([(1000, .b true)] ++ ff (List.range 3) true) [(0, 0)] (.tup [.agg [.v (.int .u64 s), .sl 0 0 n none], .v (.int .i64 (entN x.p x.v x.k x.l))]) = [
  Value.int IntKind.u64 s = Value.int IntKind.u64 s,
  (0 : Nat) = (0 : Nat) ∧ n = n ∧ (none : Option Nat) = none,
  Value.int IntKind.i64 (entN x.1 x.2 x.3 x.5) = Value.int IntKind.i64 (entN x.1 x.2 x.3 x.5),
  (!entN x.1 x.2 x.3 x.5 == (0 : Int)) = true,
  x.1.size ≤ (1000000000 : Nat) ∧ (0 : Int) ≤ x.2 ∧ x.2 < (18446744073709551616 : Int)] := by kernel_rfl
theorem pu1 (l : List SV) (n : Nat) (s : Int) (x : EntT) : endsX EPu 15 300 (entPu l n s x) ([(1000, .b true)] ++ ff [1] false ++ ff (List.range 30) true) [(0, 0)] (.tup [.agg [.v (.int .u64 s), .sl 0 0 n none], .v (.int .i64 31)]) = [
  Value.int IntKind.u64 s = Value.int IntKind.u64 s,
  (0 : Nat) = (0 : Nat) ∧ n = n ∧ (none : Option Nat) = none,
  Value.int IntKind.i64 (31 : Int) = Value.int IntKind.i64 (31 : Int),
  decide ((findE x.p (entsOf l n)).2 ≥ x.2) = true,
  HoldsE l n (entsOf l n),
  (!entN x.1 x.2 x.3 x.5 == (0 : Int)) = false,
  x.1.size ≤ (1000000000 : Nat) ∧ (0 : Int) ≤ x.2 ∧ x.2 < (18446744073709551616 : Int)] := by kernel_rfl
theorem pu2 (l l' : List SV) (n k : Nat) (s : Int) (x : EntT) : endsO EPu 15 300 (entPu l n s x) ([(1000, .b true)] ++ ff [1, 3, 4, 5] false) (.tup [.agg [.v (.int .u64 s), .sl 5 0 k none], .v (.int .i64 0)]) 5 (.row l' 46 (0, 0) (some 4)) = [
  Value.int IntKind.u64 s = Value.int IntKind.u64 s,
  (0 : Nat) = (0 : Nat) ∧ (1 : Nat) = k ∧ (none : Option Nat) = none,
  Value.int IntKind.i64 (0 : Int) = Value.int IntKind.i64 (0 : Int),
  List.map SV.v (vE (insE { p := x.1, v := x.2, k := x.3, a := x.4, l := x.5, c := x.6 : EntT } [])) = l',
  l'.all closedSV = true,
  (s == s) = true,
  True ∧ x.1.size ≤ (1000000000 : Nat) ∧ ∀ (e : EntT), e ∈ [] → e.p.size ≤ (1000000000 : Nat),
  false = false,
  HoldsE l n (entsOf l n) ∧ dropE x.1 (entsOf l n) = [],
  decide ((findE x.p (entsOf l n)).2 ≥ x.2) = false,
  HoldsE l n (entsOf l n),
  (!entN x.1 x.2 x.3 x.5 == (0 : Int)) = false,
  x.1.size ≤ (1000000000 : Nat) ∧ (0 : Int) ≤ x.2 ∧ x.2 < (18446744073709551616 : Int)] := by kernel_rfl
theorem pu3 (l l' : List SV) (n k : Nat) (s : Int) (x : EntT) : endsO EPu 15 300 (entPu l n s x) ([(1000, .b true)] ++ ff [1, 3] false ++ ff [4] true ++ ff [5] false) (.tup [.agg [.v (.int .u64 s), .sl 6 0 k none], .v (.int .i64 0)]) 6 (.row l' 46 (0, 0) (some 4)) = [
  Value.int IntKind.u64 s = Value.int IntKind.u64 s,
  (0 : Nat) = (0 : Nat) ∧
   (entsOf (List.map SV.v (vE (dropE x.1 (entsOf l n)))) (dropE x.1 (entsOf l n)).length).length + (1 : Nat) = k ∧ (none : Option Nat) = none,
  Value.int IntKind.i64 (0 : Int) = Value.int IntKind.i64 (0 : Int),
  List.map SV.v
   (vE
   (insE { p := x.1, v := x.2, k := x.3, a := x.4, l := x.5, c := x.6 : EntT }
   (entsOf (List.map SV.v (vE (dropE x.1 (entsOf l n)))) (dropE x.1 (entsOf l n)).length))) =
   l',
  l'.all closedSV = true,
  (s == s) = true,
  ((46 : Nat) = (46 : Nat) ∧
   HoldsE (List.map SV.v (vE (dropE x.1 (entsOf l n)))) (dropE x.1 (entsOf l n)).length
   (entsOf (List.map SV.v (vE (dropE x.1 (entsOf l n)))) (dropE x.1 (entsOf l n)).length) ∧
   entsOf (List.map SV.v (vE (dropE x.1 (entsOf l n)))) (dropE x.1 (entsOf l n)).length ≠ []) ∧
   x.1.size ≤ (1000000000 : Nat) ∧
   ∀ (e : EntT),
   e ∈ entsOf (List.map SV.v (vE (dropE x.p (entsOf l n)))) (dropE x.p (entsOf l n)).length →
   e.p.size ≤ (1000000000 : Nat),
  decide ((↑(dropE x.1 (entsOf l n)).length : Int) ≥ (256 : Int)) = false,
  HoldsE l n (entsOf l n) ∧ dropE x.1 (entsOf l n) ≠ [],
  decide ((findE x.p (entsOf l n)).2 ≥ x.2) = false,
  HoldsE l n (entsOf l n),
  (!entN x.1 x.2 x.3 x.5 == (0 : Int)) = false,
  x.1.size ≤ (1000000000 : Nat) ∧ (0 : Int) ≤ x.2 ∧ x.2 < (18446744073709551616 : Int)] := by kernel_rfl
noncomputable def todoPu : List SI := todoL EPu 3 300 (entPu [] 0 0 ⟨⟨#[]⟩, 0, 0, none, 0, 0⟩) ([(1000, .b true)] ++ ff [1, 3] false ++ ff [4, 5] true)
noncomputable def hdPu (k : Nat) (best i : Int) : SF := { fn := 15, tm := tmOf 82 7 ([.junk, .junk, .ptr 1 0, .ptr 2 0, .ptr 3 0, .junk, .junk, .junk, .sl 4 0 k none, .v (.int .i64 best), .v (.int .i64 i)] ++ List.replicate 71 .junk), todo := todoPu, defers := [], ret := false, kind := .normal, ro := none }
def bkO (s : Int) (n : Nat) : Option (SO × Bool) := some (.row [.v (.int .u64 s), .sl 0 0 n none] 28 (0, 0) none, true)
def zbO : Option (SO × Bool) := some (.row [.v (.int .u64 0), nilE] 28 (0, 0) none, true)
def objPu (l m : List SV) (n : Nat) (s : Int) (x : EntT) : List (Option (SO × Bool)) := [rowR l, bkO s n, boxE x, zbO, rowsE m]
theorem pu4 (l m : List SV) (n k : Nat) (s : Int) (x : EntT) : reach EPu 3 300 (entPu l n s x) ([(1000, .b true)] ++ ff [1, 3] false ++ ff [4, 5] true) [(0, 0), (1, 1), (2, 2), (3, 3), (4, 5)] [0, 4] (hdPu k (-1) 0) 6 (objPu l m n s x) = [
  (0 : Nat) = (0 : Nat),
  (0 : Nat) = (0 : Nat),
  (0 : Nat) = (0 : Nat),
  (0 : Nat) = (0 : Nat) ∧ (dropE x.1 (entsOf l n)).length = k ∧ (none : Option Nat) = none,
  Value.int IntKind.i64 (-1 : Int) = Value.int IntKind.i64 (-1 : Int),
  Value.int IntKind.i64 (0 : Int) = Value.int IntKind.i64 (0 : Int),
  l = l,
  l.all closedSV = true,
  Value.int IntKind.u64 s = Value.int IntKind.u64 s,
  (0 : Nat) = (0 : Nat) ∧ n = n ∧ (none : Option Nat) = none,
  Value.string x.1 = Value.string x.1,
  Value.int IntKind.u64 x.2 = Value.int IntKind.u64 x.2,
  Value.int IntKind.i64 x.3 = Value.int IntKind.i64 x.3,
  Value.slice x.4 x.5 x.6 = Value.slice x.4 x.5 x.6,
  Value.int IntKind.u64 (0 : Int) = Value.int IntKind.u64 (0 : Int),
  Value.slice none (0 : Nat) (0 : Nat) = Value.slice none (0 : Nat) (0 : Nat),
  List.map SV.v (vE (dropE x.1 (entsOf l n))) = m,
  m.all closedSV = true,
  decide ((↑(dropE x.1 (entsOf l n)).length : Int) ≥ (256 : Int)) = true,
  HoldsE l n (entsOf l n) ∧ dropE x.1 (entsOf l n) ≠ [],
  decide ((findE x.p (entsOf l n)).2 ≥ x.2) = false,
  HoldsE l n (entsOf l n),
  (!entN x.1 x.2 x.3 x.5 == (0 : Int)) = false,
  x.1.size ≤ (1000000000 : Nat) ∧ (0 : Int) ≤ x.2 ∧ x.2 < (18446744073709551616 : Int)] := by kernel_rfl
theorem pr1 (l m : List SV) (n k : Nat) (s : Int) (x e f : EntT) (best best' i i' : Int) : reach EPu 3 100 (SM.at (hdPu k best i) 6 (objPu l m n s x)) (ff [0] true ++ [(2, .cells [.v (.int .i64 e.k)])] ++ ff (List.range 60) false) [(0, 0), (1, 1), (2, 2), (3, 3), (4, 4)] [0, 4] (hdPu k best' i') 6 (objPu l m n s x) = [
  (0 : Nat) = (0 : Nat),
  (0 : Nat) = (0 : Nat),
  (0 : Nat) = (0 : Nat),
  (0 : Nat) = (0 : Nat) ∧ k = k ∧ (none : Option Nat) = none,
  Value.int IntKind.i64 best = Value.int IntKind.i64 best',
  Value.int IntKind.i64 (IntKind.i64.wrap (i + (1 : Int))) = Value.int IntKind.i64 i',
  l = l,
  l.all closedSV = true,
  Value.int IntKind.u64 s = Value.int IntKind.u64 s,
  (0 : Nat) = (0 : Nat) ∧ n = n ∧ (none : Option Nat) = none,
  Value.string x.1 = Value.string x.1,
  Value.int IntKind.u64 x.2 = Value.int IntKind.u64 x.2,
  Value.int IntKind.i64 x.3 = Value.int IntKind.i64 x.3,
  Value.slice x.4 x.5 x.6 = Value.slice x.4 x.5 x.6,
  Value.int IntKind.u64 (0 : Int) = Value.int IntKind.u64 (0 : Int),
  Value.slice none (0 : Nat) (0 : Nat) = Value.slice none (0 : Nat) (0 : Nat),
  m = m,
  m.all closedSV = true,
  false = false,
  (e.3 == (0 : Int)) = false,
  (e.3 == (0 : Int)) = false,
  (e.3 == (0 : Int)) = false,
  (e.3 == (0 : Int)) = false,
  (e.3 == (0 : Int)) = false,
  m[(0 : Nat) + i.toNat * (4 : Nat) + (2 : Nat) + (0 : Nat)]? = some (SV.v (Value.int IntKind.i64 e.3)),
  inRange i k = true,
  decide (i < (↑k : Int)) = true] := by kernel_rfl
theorem pr2 (l m : List SV) (n k : Nat) (s : Int) (x e f : EntT) (best best' i i' : Int) : reach EPu 3 100 (SM.at (hdPu k best i) 6 (objPu l m n s x)) (ff [0] true ++ [(2, .cells [.v (.int .i64 e.k)])] ++ ff (List.range 60) true) [(0, 0), (1, 1), (2, 2), (3, 3), (4, 4)] [0, 4] (hdPu k best' i') 6 (objPu l m n s x) = [
  (0 : Nat) = (0 : Nat),
  (0 : Nat) = (0 : Nat),
  (0 : Nat) = (0 : Nat),
  (0 : Nat) = (0 : Nat) ∧ k = k ∧ (none : Option Nat) = none,
  Value.int IntKind.i64 i = Value.int IntKind.i64 best',
  Value.int IntKind.i64 (IntKind.i64.wrap (i + (1 : Int))) = Value.int IntKind.i64 i',
  l = l,
  l.all closedSV = true,
  Value.int IntKind.u64 s = Value.int IntKind.u64 s,
  (0 : Nat) = (0 : Nat) ∧ n = n ∧ (none : Option Nat) = none,
  Value.string x.1 = Value.string x.1,
  Value.int IntKind.u64 x.2 = Value.int IntKind.u64 x.2,
  Value.int IntKind.i64 x.3 = Value.int IntKind.i64 x.3,
  Value.slice x.4 x.5 x.6 = Value.slice x.4 x.5 x.6,
  Value.int IntKind.u64 (0 : Int) = Value.int IntKind.u64 (0 : Int),
  Value.slice none (0 : Nat) (0 : Nat) = Value.slice none (0 : Nat) (0 : Nat),
  m = m,
  m.all closedSV = true,
  true = true,
  (e.3 == (0 : Int)) = true,
  decide (best < (0 : Int)) = true,
  (e.3 == (0 : Int)) = true,
  decide (best < (0 : Int)) = true,
  decide (best < (0 : Int)) = true,
  decide (best < (0 : Int)) = true,
  decide (best < (0 : Int)) = true,
  decide (best < (0 : Int)) = true,
  decide (best < (0 : Int)) = true,
  decide (best < (0 : Int)) = true,
  decide (best < (0 : Int)) = true,
  decide (best < (0 : Int)) = true,
  decide (best < (0 : Int)) = true,
  decide (best < (0 : Int)) = true,
  (e.3 == (0 : Int)) = true,
  (e.3 == (0 : Int)) = true,
  (e.3 == (0 : Int)) = true,
  m[(0 : Nat) + i.toNat * (4 : Nat) + (2 : Nat) + (0 : Nat)]? = some (SV.v (Value.int IntKind.i64 e.3)),
  inRange i k = true,
  decide (i < (↑k : Int)) = true] := by kernel_rfl
theorem pr3 (l m : List SV) (n k : Nat) (s : Int) (x e f : EntT) (best best' i i' : Int) : reach EPu 3 100 (SM.at (hdPu k best i) 6 (objPu l m n s x)) (ff [0] true ++ [(2, .cells [.v (.int .i64 e.k)])] ++ ff [3, 4, 5] true ++ ff [6, 7, 8, 9, 10, 11] false ++ [(12, .cells [.v (.int .u64 e.v)])] ++ ff [13, 14, 15, 16, 17, 18] false ++ [(19, .cells [.v (.int .u64 f.v)])] ++ ff [20] false ++ ff [21] true ++ ff [22] false ++ ff [23] true ++ ff [24] true) [(0, 0), (1, 1), (2, 2), (3, 3), (4, 4)] [0, 4] (hdPu k best' i') 6 (objPu l m n s x) = [
  (0 : Nat) = (0 : Nat),
  (0 : Nat) = (0 : Nat),
  (0 : Nat) = (0 : Nat),
  (0 : Nat) = (0 : Nat) ∧ k = k ∧ (none : Option Nat) = none,
  Value.int IntKind.i64 i = Value.int IntKind.i64 best',
  Value.int IntKind.i64 (IntKind.i64.wrap (i + (1 : Int))) = Value.int IntKind.i64 i',
  l = l,
  l.all closedSV = true,
  Value.int IntKind.u64 s = Value.int IntKind.u64 s,
  (0 : Nat) = (0 : Nat) ∧ n = n ∧ (none : Option Nat) = none,
  Value.string x.1 = Value.string x.1,
  Value.int IntKind.u64 x.2 = Value.int IntKind.u64 x.2,
  Value.int IntKind.i64 x.3 = Value.int IntKind.i64 x.3,
  Value.slice x.4 x.5 x.6 = Value.slice x.4 x.5 x.6,
  Value.int IntKind.u64 (0 : Int) = Value.int IntKind.u64 (0 : Int),
  Value.slice none (0 : Nat) (0 : Nat) = Value.slice none (0 : Nat) (0 : Nat),
  m = m,
  m.all closedSV = true,
  decide (e.2 < f.2) = true,
  (e.3 == (0 : Int)) = true,
  decide (best < (0 : Int)) = false,
  (e.3 == (0 : Int)) = true,
  decide (best < (0 : Int)) = false,
  m[(0 : Nat) + best.toNat * (4 : Nat) + (1 : Nat)]? = some (SV.v (Value.int IntKind.u64 f.2)),
  decide (best < (0 : Int)) = false,
  decide (best < (0 : Int)) = false,
  inRange best k = true,
  decide (best < (0 : Int)) = false,
  decide (best < (0 : Int)) = false,
  decide (best < (0 : Int)) = false,
  m[(0 : Nat) + i.toNat * (4 : Nat) + (1 : Nat)]? = some (SV.v (Value.int IntKind.u64 e.2)),
  decide (best < (0 : Int)) = false,
  decide (best < (0 : Int)) = false,
  inRange i k = true,
  decide (best < (0 : Int)) = false,
  decide (best < (0 : Int)) = false,
  decide (best < (0 : Int)) = false,
  (e.3 == (0 : Int)) = true,
  (e.3 == (0 : Int)) = true,
  (e.3 == (0 : Int)) = true,
  m[(0 : Nat) + i.toNat * (4 : Nat) + (2 : Nat) + (0 : Nat)]? = some (SV.v (Value.int IntKind.i64 e.3)),
  inRange i k = true,
  decide (i < (↑k : Int)) = true] := by kernel_rfl
theorem pr4 (l m : List SV) (n k : Nat) (s : Int) (x e f : EntT) (best best' i i' : Int) : reach EPu 3 100 (SM.at (hdPu k best i) 6 (objPu l m n s x)) (ff [0] true ++ [(2, .cells [.v (.int .i64 e.k)])] ++ ff [3, 4, 5] true ++ ff [6, 7, 8, 9, 10, 11] false ++ [(12, .cells [.v (.int .u64 e.v)])] ++ ff [13, 14, 15, 16, 17, 18] false ++ [(19, .cells [.v (.int .u64 f.v)])] ++ ff [20] false ++ ff [21] true ++ ff [22] false ++ ff [23] true ++ ff [24] false) [(0, 0), (1, 1), (2, 2), (3, 3), (4, 4)] [0, 4] (hdPu k best' i') 6 (objPu l m n s x) = [
  (0 : Nat) = (0 : Nat),
  (0 : Nat) = (0 : Nat),
  (0 : Nat) = (0 : Nat),
  (0 : Nat) = (0 : Nat) ∧ k = k ∧ (none : Option Nat) = none,
  Value.int IntKind.i64 best = Value.int IntKind.i64 best',
  Value.int IntKind.i64 (IntKind.i64.wrap (i + (1 : Int))) = Value.int IntKind.i64 i',
  l = l,
  l.all closedSV = true,
  Value.int IntKind.u64 s = Value.int IntKind.u64 s,
  (0 : Nat) = (0 : Nat) ∧ n = n ∧ (none : Option Nat) = none,
  Value.string x.1 = Value.string x.1,
  Value.int IntKind.u64 x.2 = Value.int IntKind.u64 x.2,
  Value.int IntKind.i64 x.3 = Value.int IntKind.i64 x.3,
  Value.slice x.4 x.5 x.6 = Value.slice x.4 x.5 x.6,
  Value.int IntKind.u64 (0 : Int) = Value.int IntKind.u64 (0 : Int),
  Value.slice none (0 : Nat) (0 : Nat) = Value.slice none (0 : Nat) (0 : Nat),
  m = m,
  m.all closedSV = true,
  decide (e.2 < f.2) = false,
  (e.3 == (0 : Int)) = true,
  decide (best < (0 : Int)) = false,
  (e.3 == (0 : Int)) = true,
  decide (best < (0 : Int)) = false,
  m[(0 : Nat) + best.toNat * (4 : Nat) + (1 : Nat)]? = some (SV.v (Value.int IntKind.u64 f.2)),
  decide (best < (0 : Int)) = false,
  decide (best < (0 : Int)) = false,
  inRange best k = true,
  decide (best < (0 : Int)) = false,
  decide (best < (0 : Int)) = false,
  decide (best < (0 : Int)) = false,
  m[(0 : Nat) + i.toNat * (4 : Nat) + (1 : Nat)]? = some (SV.v (Value.int IntKind.u64 e.2)),
  decide (best < (0 : Int)) = false,
  decide (best < (0 : Int)) = false,
  inRange i k = true,
  decide (best < (0 : Int)) = false,
  decide (best < (0 : Int)) = false,
  decide (best < (0 : Int)) = false,
  (e.3 == (0 : Int)) = true,
  (e.3 == (0 : Int)) = true,
  (e.3 == (0 : Int)) = true,
  m[(0 : Nat) + i.toNat * (4 : Nat) + (2 : Nat) + (0 : Nat)]? = some (SV.v (Value.int IntKind.i64 e.3)),
  inRange i k = true,
  decide (i < (↑k : Int)) = true] := by kernel_rfl
theorem pe1 (l m : List SV) (n k : Nat) (s : Int) (x e f : EntT) (best best' i i' : Int) : endsX EPu 15 300 (SM.at (hdPu k best i) 6 (objPu l m n s x)) (ff [0] false ++ ff [1] true) [(0, 0)] (.tup [.agg [.v (.int .u64 s), .sl 0 0 n none], .v (.int .i64 24)]) = [
  Value.int IntKind.u64 s = Value.int IntKind.u64 s,
  (0 : Nat) = (0 : Nat) ∧ n = n ∧ (none : Option Nat) = none,
  Value.int IntKind.i64 (24 : Int) = Value.int IntKind.i64 (24 : Int),
  decide (best < (0 : Int)) = true,
  decide (i < (↑k : Int)) = false] := by kernel_rfl
theorem pe2 (l m : List SV) (n k : Nat) (s : Int) (x e f : EntT) (best best' i i' : Int) (q : ByteArray) (l' : List SV) (k' : Nat) : endsO EPu 15 300 (SM.at (hdPu k best i) 6 (objPu l m n s x)) (ff [0] false ++ ff [1] false ++ [(3, .cells [.v (.string q)]), (4, .b true)]) (.tup [.agg [.v (.int .u64 s), .sl 6 0 k' none], .v (.int .i64 0)]) 6 (.row l' 46 (0, 0) (some 4)) = [
  Value.int IntKind.u64 s = Value.int IntKind.u64 s,
  (0 : Nat) = (0 : Nat) ∧
   (entsOf (List.map SV.v (vE (dropE q (entsOf m k)))) (dropE q (entsOf m k)).length).length + (1 : Nat) = k' ∧ (none : Option Nat) = none,
  Value.int IntKind.i64 (0 : Int) = Value.int IntKind.i64 (0 : Int),
  List.map SV.v
   (vE
   (insE { p := x.1, v := x.2, k := x.3, a := x.4, l := x.5, c := x.6 : EntT }
   (entsOf (List.map SV.v (vE (dropE q (entsOf m k)))) (dropE q (entsOf m k)).length))) =
   l',
  l'.all closedSV = true,
  (s == s) = true,
  ((46 : Nat) = (46 : Nat) ∧
   HoldsE (List.map SV.v (vE (dropE q (entsOf m k)))) (dropE q (entsOf m k)).length
   (entsOf (List.map SV.v (vE (dropE q (entsOf m k)))) (dropE q (entsOf m k)).length) ∧
   entsOf (List.map SV.v (vE (dropE q (entsOf m k)))) (dropE q (entsOf m k)).length ≠ []) ∧
   x.1.size ≤ (1000000000 : Nat) ∧
   ∀ (e : EntT),
   e ∈ entsOf (List.map SV.v (vE (dropE q (entsOf m k)))) (dropE q (entsOf m k)).length →
   e.p.size ≤ (1000000000 : Nat),
  HoldsE m k (entsOf m k) ∧ dropE q (entsOf m k) ≠ [],
  m[(0 : Nat) + best.toNat * (4 : Nat) + (0 : Nat)]? = some (SV.v (Value.string q)),
  inRange best k = true,
  decide (best < (0 : Int)) = false,
  decide (i < (↑k : Int)) = false] := by kernel_rfl
/-! ### a list that is nil -/
def lPn : List (FuncId × Sum) := [(45, pureSum echkPS), (48, slSumG withS)]
noncomputable def EPn : Env := { EP [] [] with sums := fun f => lPn.lookup f }
noncomputable def entPn (s : Int) (x : EntT) : SM := (enterS EPn 15 [.v (.agg #[.int .u64 s, .slice none 0 0]), .v (.agg #[.string x.p, .int .u64 x.v, .int .i64 x.k, .slice x.a x.l x.c])] (memOf 6 0 0 [])).getD noSM
theorem pn0 (s : Int) (x : EntT) : endsX EPn 15 300 (entPn s x) ([(1000, .b true)] ++ ff [1] true) [] (.v (.tuple #[.agg #[.int .u64 s, .slice none 0 0], .int .i64 (entN x.p x.v x.k x.l)])) = [
  Value.tuple
   {
   toList :=
   [Value.agg { toList := [Value.int IntKind.u64 s, Value.slice none (0 : Nat) (0 : Nat)] : Array Value },
   Value.int IntKind.i64 (entN x.1 x.2 x.3 x.5)] :
   Array Value } =
   Value.tuple
   {
   toList :=
   [Value.agg { toList := [Value.int IntKind.u64 s, Value.slice none (0 : Nat) (0 : Nat)] : Array Value },
   Value.int IntKind.i64 (entN x.1 x.2 x.3 x.5)] :
   Array Value },
  (!entN x.1 x.2 x.3 x.5 == (0 : Int)) = true,
  x.1.size ≤ (1000000000 : Nat) ∧ (0 : Int) ≤ x.2 ∧ x.2 < (18446744073709551616 : Int)] := by kernel_rfl
theorem pn1 (l' : List SV) (s : Int) (x : EntT) : endsO EPn 15 300 (entPn s x) ([(1000, .b true)] ++ ff (List.range 30) false) (.tup [.agg [.v (.int .u64 s), .sl 6 0 1 none], .v (.int .i64 0)]) 6 (.row l' 46 (0, 0) (some 4)) = [
  Value.int IntKind.u64 s = Value.int IntKind.u64 s,
  (0 : Nat) = (0 : Nat) ∧ (1 : Nat) = (1 : Nat) ∧ (none : Option Nat) = none,
  Value.int IntKind.i64 (0 : Int) = Value.int IntKind.i64 (0 : Int),
  List.map SV.v (vE (insE { p := x.1, v := x.2, k := x.3, a := x.4, l := x.5, c := x.6 : EntT } [])) = l',
  l'.all closedSV = true,
  (s == s) = true,
  True ∧ x.1.size ≤ (1000000000 : Nat) ∧ ∀ (e : EntT), e ∈ [] → e.p.size ≤ (1000000000 : Nat),
  false = false,
  false = false,
  decide ((0 : Int) ≥ x.2) = false,
  false = false,
  (!entN x.1 x.2 x.3 x.5 == (0 : Int)) = false,
  x.1.size ≤ (1000000000 : Nat) ∧ (0 : Int) ≤ x.2 ∧ x.2 < (18446744073709551616 : Int)] := by kernel_rfl
end paths
end Go.Proofs.YtiggmgcnjmalfaaGreatDoor
namespace Go.Proofs.YtiggmgcnjmalfaaGreatDoor
open Go Go.Rx Go.RowKit Go.Proofs
set_option linter.unusedVariables false
set_option linter.unusedSimpArgs false
set_option maxRecDepth 100000
namespace paths
/-- The first of nothing of the least version. -/
def bestS (acc : Option EntT) (e : EntT) : Option EntT := if e.k = 0 then (match acc with | none => some e | some f => if e.v < f.v then some e else some f) else acc
def bestL (l : List EntT) : Option EntT := l.foldl bestS none
def refPut (xs : List EntT) (x : EntT) : List EntT × Int :=
  if entN x.p x.v x.k x.l ≠ 0 then (xs, entN x.p x.v x.k x.l)
  else if (findE x.p xs).v ≥ x.v then (xs, 31)
  else if (dropE x.p xs).length ≥ 256 then (match bestL (dropE x.p xs) with
    | none => (xs, 24)
    | some b => (insE x (dropE b.p (dropE x.p xs)), 0))
  else (insE x (dropE x.p xs), 0)
theorem bestL_snoc {l : List EntT} {i : Nat} (h : i < l.length) : bestL (l.take (i + 1)) = bestS (bestL (l.take i)) l[i] := by
  unfold bestL
  rw [List.take_succ_eq_append_getElem h, List.foldl_append]; rfl
theorem bestL_mem : ∀ {l : List EntT} {e : EntT}, bestL l = some e → e ∈ l ∧ e.k = 0 := by
  have aux : ∀ (l : List EntT) (acc : Option EntT) (e : EntT), l.foldl bestS acc = some e → (e ∈ l ∧ e.k = 0) ∨ acc = some e := fun l => by
    induction l with
    | nil => exact fun acc e h => .inr h
    | cons x l ih =>
      intro acc e h
      rcases ih _ _ h with ⟨h, k⟩ | h
      · exact .inl ⟨List.mem_cons_of_mem _ h, k⟩
      · unfold bestS at h
        split at h
        · rename_i hk
          split at h
          · cases h; exact .inl ⟨List.mem_cons_self, hk⟩
          · split at h
            · cases h; exact .inl ⟨List.mem_cons_self, hk⟩
            · exact .inr h
        · exact .inr h
  intro l e h
  rcases aux l none e h with h | h
  · exact h
  · cases h
/-- Where the loop stands. -/
def BI (l : List EntT) (i : Nat) (best : Int) : Prop := (best = -1 ∧ bestL (l.take i) = none) ∨ ∃ (b : Nat) (e : EntT), best = (b : Int) ∧ l[b]? = some e ∧ bestL (l.take i) = some e
theorem cE_cell1 {xs : List EntT} {k : Nat} {x : EntT} (h : xs[k]? = some x) : (cE xs)[0 + k * 4 + 1]? = some (.v (.int .u64 x.v)) := by
  have h2 : (List.take 4 (List.drop (0 + k * 4) (cE xs)))[1]? = (eC x)[1]? := by rw [cE_at h]
  rw [List.getElem?_take, if_pos (by decide), List.getElem?_drop] at h2
  exact h2
theorem cE_cell2 {xs : List EntT} {k : Nat} {x : EntT} (h : xs[k]? = some x) : (cE xs)[0 + k * 4 + 2 + 0]? = some (.v (.int .i64 x.k)) := by
  have h2 : (List.take 4 (List.drop (0 + k * 4) (cE xs)))[2]? = (eC x)[2]? := by rw [cE_at h]
  rw [List.getElem?_take, if_pos (by decide), List.getElem?_drop] at h2
  exact h2
theorem holdsE (xs : List EntT) (h : xs.length ≤ 1000) : HoldsE (cE xs) xs.length xs := ⟨rfl, rfl, h⟩
theorem KPu {M : Own} {w0 : World} : Facts EPu M w0 :=
  Facts.of' (Checked.mixed Tryz.checked) (by kernel_rfl) (ExtOK.of extL rfl extRows) (SumsOK.list (X := fun _ => True) (l := lPu) rfl (fun r h => by
    simp only [lPu, List.mem_cons, List.not_mem_nil, or_false] at h
    rcases h with rfl | rfl | rfl | rfl
    · exact SumOK.pure (r := (45, echkPS)) rechk_ok
    · exact get_ok
    · exact without_ok
    · exact with_ok) fun ν s w hr _ => trivial) (fun f g h => by cases h)
theorem KPn {M : Own} {w0 : World} : Facts EPn M w0 :=
  Facts.of' (Checked.mixed Tryz.checked) (by kernel_rfl) (ExtOK.of extL rfl extRows) (SumsOK.list (X := fun _ => True) (l := lPn) rfl (fun r h => by
    simp only [lPn, List.mem_cons, List.not_mem_nil, or_false] at h
    rcases h with rfl | rfl
    · exact SumOK.pure (r := (45, echkPS)) rechk_ok
    · exact with_ok) fun ν s w hr _ => trivial) (fun f g h => by cases h)
def bV (s : Int) (y : Value) (c : Int) : Value := .tuple #[.agg #[.int .u64 s, y], .int .i64 c]
theorem ends_slT {E : Env} {M : Own} {w0 : World} {cs0 : List Frame} {f : FuncId} {R : Ending → World → Prop} {ν : Val} {n : Nat} {S : SM} {o : List (Nat × Ans)} {m j : Nat} {l : List EntT} {s : Int} (K : Facts E M w0) (hM : ∀ z, ¬ M z)
    (h : Due (endsO E f n S o (.tup [.agg [.v (.int .u64 s), .sl j 0 m none], .v (.int .i64 0)]) j (.row (cE l) 46 (0, 0) (some 4)))) (hR : ∀ w' y, Below w0.heap.size w0 w' → NewSl w0 w' y (vE l) m 4 46 → R (.returned (bV s y 0)) w') : Goes E M w0 cs0 f R ν S :=
  Goes.endsO K h.out fun ν' w' y b ob hv hb ho hor hw hB => by
    have hn : w0.heap.size ≤ b.1 := by
      rcases hw with h | h
      · exact h
      · exact absurd h (hM _)
    obtain ⟨_, _, _, _, hB, hr⟩ := hB
    obtain ⟨a, rfl, ha⟩ := VR.tup_iff.1 hv
    obtain ⟨y1, a1, rfl, q1, ha1⟩ := ha.cons_inv
    obtain ⟨y2, a2, rfl, q2, ha2⟩ := ha1.cons_inv
    obtain rfl := ha2.nil_inv
    obtain rfl := VR.v_iff.1 q2
    obtain ⟨c1, rfl, hc⟩ := VR.agg_iff.1 q1
    obtain ⟨y3, c2, rfl, q3, hc2⟩ := hc.cons_inv
    obtain ⟨y4, c3, rfl, q4, hc3⟩ := hc2.cons_inv
    obtain rfl := hc3.nil_inv
    obtain rfl := VR.v_iff.1 q3
    exact hR w' y4 (below_of hM hB hr) (NewSl.of_row q4 hb ho hor hn fun zs hz => cE_val hz)
theorem ends_old {E : Env} {M : Own} {w0 : World} {cs0 : List Frame} {f : FuncId} {R : Ending → World → Prop} {b : Nat × Nat} {n : Nat} {S : SM} {o : List (Nat × Ans)} {m : Nat} {s c : Int} (K : Facts E M w0) (hM : ∀ z, ¬ M z)
    (h : Due (endsX E f n S o [(0, 0)] (.tup [.agg [.v (.int .u64 s), .sl 0 0 m none], .v (.int .i64 c)]))) (hR : ∀ w', Below w0.heap.size w0 w' → R (.returned (bV s (.slice (some ⟨b.1, 0, none⟩) m b.2) c)) w') : Goes E M w0 cs0 f R (layVal [b]) S :=
  Goes.endsX K hM h.out fun ν' w' y hle hv hB => by
    obtain ⟨a, rfl, ha⟩ := VR.tup_iff.1 hv
    obtain ⟨y1, a1, rfl, q1, ha1⟩ := ha.cons_inv
    obtain ⟨y2, a2, rfl, q2, ha2⟩ := ha1.cons_inv
    obtain rfl := ha2.nil_inv
    obtain rfl := VR.v_iff.1 q2
    obtain ⟨c1, rfl, hc⟩ := VR.agg_iff.1 q1
    obtain ⟨y3, c2, rfl, q3, hc2⟩ := hc.cons_inv
    obtain ⟨y4, c3, rfl, q4, hc3⟩ := hc2.cons_inv
    obtain rfl := hc3.nil_inv
    obtain rfl := VR.v_iff.1 q3
    obtain ⟨b', hb', hle', rfl⟩ := VR.sl_iff.1 q4
    have hb0 : (ν'.ren [(0, 0)]) 0 = some b := hle 0 b rfl
    rw [hb0] at hb'; cases hb'
    exact hR w' hB
/-- What comes of Put. -/
def RP (w0 : World) (s : Int) (y0 : Value) (r : List EntT × Int) (e : Ending) (w' : World) : Prop :=
  Below w0.heap.size w0 w' ∧ ((r.2 ≠ 0 ∧ e = .returned (bV s y0 r.2)) ∨ (r.2 = 0 ∧ ∃ y, e = .returned (bV s y 0) ∧ NewSl w0 w' y (vE r.1) r.1.length 4 46))
theorem entX (x : EntT) : (⟨x.p, x.v, x.k, x.a, x.l, x.c⟩ : EntT) = x := rfl
theorem vE_ents (l : List EntT) : entsOf (List.map SV.v (vE l)) l.length = l := by rw [cE_map, entsOf_cE]
section
variable {w0 : World} {cs0 : List Frame} {xs m : List EntT} {x : EntT} {b : Nat × Nat} {s : Int}
theorem noneR' {b : Nat × Nat} {o : SO} (z : Nat) : ¬ (layOwn [b] [(o, false)]) z := layOwn_none (os := [_])
theorem loopPu (hl : xs.length ≤ 1000) (hm : m.length ≤ 1000) (hp : x.p.size ≤ 1000000000) (hs : ∀ e ∈ m, e.p.size ≤ 1000000000) (h2 : 2 ≤ m.length) (hd : ∀ e ∈ m, dropE e.p m ≠ [])
    (hnone : bestL m = none → refPut xs x = (xs, 24)) (hsome : ∀ e, bestL m = some e → refPut xs x = (insE x (dropE e.p m), 0)) : ∀ (j i : Nat) (best : Int), i + j = m.length → BI m i best →
    Goes EPu (layOwn [b] [(.row (cE xs) 46 (0, 0) (some 4), false)]) w0 cs0 15 (RP w0 s (.slice (some ⟨b.1, 0, none⟩) xs.length b.2) (refPut xs x)) (layVal [b]) (SM.at (hdPu m.length best i) 6 (objPu (cE xs) (cE m) xs.length s x))
  | 0, i, best, hj, hb => by
    have t0 : decide ((i : Int) < (m.length : Int)) = false := decide_eq_false (by omega)
    rcases hb with ⟨rfl, hb⟩ | ⟨bi, e, rfl, he, hb⟩
    · rw [List.take_of_length_le (by omega)] at hb
      refine ends_old KPu noneR' (n := 300) (o := (ff [0] false ++ ff [1] true)) (m := xs.length) (c := 24) ⟨?_⟩ fun w' hB => ⟨hB, .inl ⟨by rw [hnone hb]; exact (by decide : (24 : Int) ≠ 0), by rw [hnone hb]⟩⟩
      rw [pe1 (e := x) (f := x) (best' := 0) (i' := 0)]
      simp only [Owed, t0, and_self, and_true, true_and]
      first | done | rfl | decide
    · rw [List.take_of_length_le (by omega)] at hb
      have hmem := (bestL_mem hb).1
      have hlt : bi < m.length := (List.getElem?_eq_some_iff.1 he).1
      have r1 := in_range hlt
      have t1 : decide ((bi : Int) < (0 : Int)) = false := decide_eq_false (by omega)
      have rc := cE_cell0 he
      have hdl := dropE_len e.p m
      refine ends_slT (j := 6) (l := insE x (dropE e.p m)) (m := (dropE e.p m).length + 1) KPu noneR' (n := 300) (o := (ff [0] false ++ ff [1] false ++ [(3, .cells [.v (.string e.p)]), (4, .b true)])) ⟨?_⟩ fun w' y hB hy => ⟨hB, .inr ⟨by rw [hsome e hb], y, rfl, by rw [hsome e hb]; rw [insE_len]; exact hy⟩⟩
      rw [pe2 (e := x) (f := x) (best' := 0) (i' := 0)]
      rw [entsOf_cE, vE_ents, cE_map]
      simp only [Owed, t0, t1, r1, Int.toNat_natCast, rc, entX, cE_map, cE_closed, and_self, and_true, true_and]
      repeat' apply And.intro
      all_goals first | exact holdsE _ (by omega) | exact hd e hmem | exact hp | exact fun z hz => hs z (List.mem_filter.1 hz).1 | rfl | exact beq_self_eq_true s | skip
  | j + 1, i, best, hj, hb => by
    have hi : i < m.length := by omega
    have hxi : m[i]? = some m[i] := List.getElem?_eq_getElem hi
    have t1 : decide ((i : Int) < (m.length : Int)) = true := decide_eq_true (by omega)
    have r1 := in_range hi
    have ws := wrap_succ (k := i) (by omega)
    have rk := cE_cell2 hxi
    have rv := cE_cell1 hxi
    have sn := bestL_snoc hi
    by_cases hk : m[i].k = 0
    · have k1 : (m[i].3 == (0 : Int)) = true := by rw [beq_iff_eq]; exact hk
      rcases hb with ⟨rfl, hb⟩ | ⟨bi, f, rfl, hf, hb⟩
      · have nx : BI m (i + 1) (i : Int) := .inr ⟨i, m[i], rfl, hxi, by rw [sn, hb]; unfold bestS; rw [if_pos hk]⟩
        have tb : decide ((-1 : Int) < (0 : Int)) = true := by decide
        refine Goes.reach KPu (k := 3) (n := 100) (o := (ff [0] true ++ [(2, .cells [.v (.int .i64 m[i].k)])] ++ ff (List.range 60) true)) (ren := [(0, 0), (1, 1), (2, 2), (3, 3), (4, 4)]) (eqs := [0, 4]) ?_ (by kernel_rfl) (fun i b h => by rw [lay1' h]; rfl) (loopPu hl hm hp hs h2 hd hnone hsome j (i + 1) i (by omega) nx)
        rw [pr2 (f := x)]
        simp only [Owed, Int.toNat_natCast, t1, r1, rk, ws, cE_closed, k1, tb, and_self, and_true, true_and]
        try (repeat' apply And.intro)
        all_goals first | rfl | assumption | exact ws | skip
      · have hlt : bi < m.length := (List.getElem?_eq_some_iff.1 hf).1
        have r2 := in_range hlt
        have fv := cE_cell1 hf
        have tb : decide ((bi : Int) < (0 : Int)) = false := decide_eq_false (by omega)
        by_cases hv : m[i].v < f.v
        · have tv : decide (m[i].2 < f.2) = true := decide_eq_true hv
          have nx : BI m (i + 1) (i : Int) := .inr ⟨i, m[i], rfl, hxi, by rw [sn, hb]; unfold bestS; rw [if_pos hk]; exact if_pos hv⟩
          refine Goes.reach KPu (k := 3) (n := 100) (o := (ff [0] true ++ [(2, .cells [.v (.int .i64 m[i].k)])] ++ ff [3, 4, 5] true ++ ff [6, 7, 8, 9, 10, 11] false ++ [(12, .cells [.v (.int .u64 m[i].v)])] ++ ff [13, 14, 15, 16, 17, 18] false ++ [(19, .cells [.v (.int .u64 f.v)])] ++ ff [20] false ++ ff [21] true ++ ff [22] false ++ ff [23] true ++ ff [24] true)) (ren := [(0, 0), (1, 1), (2, 2), (3, 3), (4, 4)]) (eqs := [0, 4]) ?_ (by kernel_rfl) (fun i b h => by rw [lay1' h]; rfl) (loopPu hl hm hp hs h2 hd hnone hsome j (i + 1) i (by omega) nx)
          rw [pr3 (f := f)]
          simp only [Owed, Int.toNat_natCast, t1, r1, rk, ws, cE_closed, k1, tb, tv, r2, rv, fv, and_self, and_true, true_and]
          try (repeat' apply And.intro)
          all_goals first | rfl | assumption | exact ws | skip
        · have tv : decide (m[i].2 < f.2) = false := decide_eq_false hv
          have nx : BI m (i + 1) (bi : Int) := .inr ⟨bi, f, rfl, hf, by rw [sn, hb]; unfold bestS; rw [if_pos hk]; exact if_neg hv⟩
          refine Goes.reach KPu (k := 3) (n := 100) (o := (ff [0] true ++ [(2, .cells [.v (.int .i64 m[i].k)])] ++ ff [3, 4, 5] true ++ ff [6, 7, 8, 9, 10, 11] false ++ [(12, .cells [.v (.int .u64 m[i].v)])] ++ ff [13, 14, 15, 16, 17, 18] false ++ [(19, .cells [.v (.int .u64 f.v)])] ++ ff [20] false ++ ff [21] true ++ ff [22] false ++ ff [23] true ++ ff [24] false)) (ren := [(0, 0), (1, 1), (2, 2), (3, 3), (4, 4)]) (eqs := [0, 4]) ?_ (by kernel_rfl) (fun i b h => by rw [lay1' h]; rfl) (loopPu hl hm hp hs h2 hd hnone hsome j (i + 1) bi (by omega) nx)
          rw [pr4 (f := f)]
          simp only [Owed, Int.toNat_natCast, t1, r1, rk, ws, cE_closed, k1, tb, tv, r2, rv, fv, and_self, and_true, true_and]
          try (repeat' apply And.intro)
          all_goals first | rfl | assumption | exact ws | skip
    · have k1 : (m[i].3 == (0 : Int)) = false := by rw [beq_eq_false_iff_ne]; exact hk
      have nx : BI m (i + 1) best := by
        unfold BI; rw [sn]; unfold bestS; rw [if_neg hk]; exact hb
      refine Goes.reach KPu (k := 3) (n := 100) (o := (ff [0] true ++ [(2, .cells [.v (.int .i64 m[i].k)])] ++ ff (List.range 60) false)) (ren := [(0, 0), (1, 1), (2, 2), (3, 3), (4, 4)]) (eqs := [0, 4]) ?_ (by kernel_rfl) (fun i b h => by rw [lay1' h]; rfl) (loopPu hl hm hp hs h2 hd hnone hsome j (i + 1) best (by omega) nx)
      rw [pr1 (f := x)]
      simp only [Owed, Int.toNat_natCast, t1, r1, rk, ws, cE_closed, k1, and_self, and_true, true_and]
      try (repeat' apply And.intro)
      all_goals first | rfl | assumption | exact ws | skip
end
end paths
end Go.Proofs.YtiggmgcnjmalfaaGreatDoor
namespace Go.Proofs.YtiggmgcnjmalfaaGreatDoor
open Go Go.Rx Go.RowKit Go.Proofs
set_option linter.unusedVariables false
set_option linter.unusedSimpArgs false
set_option maxRecDepth 100000
namespace paths
/-- What is wanted of lists and an entry. -/
structure PutIn (xs : List EntT) (x : EntT) : Prop where
  p : x.p.size ≤ 1000000000
  v : 0 ≤ x.v ∧ x.v < 18446744073709551616
  names : (xs.map fun e => e.p).Nodup
  size : ∀ e ∈ xs, e.p.size ≤ 1000000000
theorem isE_iff {p : ByteArray} {e : EntT} : isE p e = true ↔ e.p = p := by
  unfold isE
  rw [beq_iff_eq]
  constructor
  · intro h; cases h1 : e.p; cases p; rw [h1] at h; congr 1; exact Array.toList_inj.1 h
  · intro h; rw [h]
theorem two_left {m : List EntT} {e : EntT} (hn : (m.map fun e => e.p).Nodup) (h2 : 2 ≤ m.length) : dropE e.p m ≠ [] := by
  intro h
  have hall : ∀ x ∈ m, x.p = e.p := fun x hx => by
    cases hq : isE e.p x
    · have : x ∈ dropE e.p m := List.mem_filter.2 ⟨hx, by rw [hq]; rfl⟩
      rw [h] at this; cases this
    · exact isE_iff.1 hq
  match m, h2, hn, hall with
  | a :: b :: m, _, hn, hall =>
    have h1 := hall a (by simp)
    have h3 := hall b (by simp)
    simp [h1, h3] at hn
theorem put_walk {w0 : World} {cs0 : List Frame} {xs : List EntT} {x : EntT} {b : Nat × Nat} {s : Int} (hI : PutIn xs x) (hne : xs ≠ []) (hl : xs.length ≤ 1000) :
    Goes EPu (layOwn [b] [(.row (cE xs) 46 (0, 0) (some 4), false)]) w0 cs0 15 (RP w0 s (.slice (some ⟨b.1, 0, none⟩) xs.length b.2) (refPut xs x)) (layVal [b]) (entPu (cE xs) xs.length s x) := by
  have hx1 := hI.p
  have hx2 := hI.v.1
  have hx3 := hI.v.2
  have hh := holdsE xs hl
  have he : entsOf (cE xs) xs.length = xs := entsOf_cE xs
  by_cases hc : entN x.p x.v x.k x.l = 0
  · have c1 : (!entN x.1 x.2 x.3 x.5 == (0 : Int)) = false := by rw [show entN x.1 x.2 x.3 x.5 = 0 from hc]; rfl
    by_cases hv : (findE x.p xs).v ≥ x.v
    · have c2 : decide ((findE x.p xs).2 ≥ x.2) = true := decide_eq_true hv
      have hr : refPut xs x = (xs, 31) := by unfold refPut; rw [if_neg (by simpa using hc), if_pos hv]
      rw [hr]
      refine ends_old KPu noneR' (n := 300) (o := ([(1000, .b true)] ++ ff [1] false ++ ff (List.range 30) true)) ⟨?_⟩ fun w' hB => ⟨hB, .inl ⟨(by decide : (31 : Int) ≠ 0), rfl⟩⟩
      rw [pu1, he]
      simp only [Owed, c1, c2, and_self, and_true, true_and]
      exact ⟨⟨hx1, hx2, hx3⟩, hh⟩
    · have c2 : decide ((findE x.p xs).2 ≥ x.2) = false := decide_eq_false hv
      have hdl := dropE_len x.p xs
      by_cases hm : (dropE x.p xs).length ≥ 256
      · have c3 : decide (((dropE x.1 xs).length : Int) ≥ (256 : Int)) = true := decide_eq_true (by exact_mod_cast hm)
        have hmn : ((dropE x.p xs).map fun e => e.p).Nodup := hI.names.sublist (List.Sublist.map _ List.filter_sublist)
        have hr : refPut xs x = match bestL (dropE x.p xs) with
            | none => (xs, 24)
            | some b => (insE x (dropE b.p (dropE x.p xs)), 0) := by unfold refPut; rw [if_neg (by simpa using hc), if_neg hv, if_pos hm] <;> rfl
        have nx := loopPu (w0 := w0) (cs0 := cs0) (b := b) (s := s) (x := x) (xs := xs) (m := dropE x.p xs) hl (by omega) hx1 (fun e he => hI.size e (List.mem_filter.1 he).1) (by omega) (fun e he => two_left hmn (by omega)) (fun h => by rw [hr, h]) (fun e h => by rw [hr, h]) (dropE x.p xs).length 0 (-1) (by omega) (.inl ⟨rfl, rfl⟩)
        refine Goes.reach KPu (k := 3) (n := 300) (o := ([(1000, .b true)] ++ ff [1, 3] false ++ ff [4, 5] true)) (ren := [(0, 0), (1, 1), (2, 2), (3, 3), (4, 5)]) (eqs := [0, 4]) (F := hdPu (dropE x.p xs).length (-1) 0) (d := 6) (l := objPu (cE xs) (cE (dropE x.p xs)) xs.length s x) ?_ (by kernel_rfl) (fun i b h => by rw [lay1' h]; rfl) nx
        rw [pu4, he, cE_map]
        simp only [Owed, c1, c2, c3, cE_closed, and_self, and_true, true_and]
        repeat' apply And.intro
        all_goals first | assumption | rfl | (intro h0; rw [h0] at hm; simp at hm; done) | skip
      · have c3 : decide (((dropE x.1 xs).length : Int) ≥ (256 : Int)) = false := decide_eq_false (by intro h; exact hm (by exact_mod_cast h))
        have hr : refPut xs x = (insE x (dropE x.p xs), 0) := by unfold refPut; rw [if_neg (by simpa using hc), if_neg hv, if_neg hm]
        rw [hr]
        by_cases hd : dropE x.p xs = []
        · rw [hd]
          refine ends_slT (j := 5) (l := insE x []) (m := 1) KPu noneR' (n := 300) (o := ([(1000, .b true)] ++ ff [1, 3, 4, 5] false)) ⟨?_⟩ fun w' y hB hy => ⟨hB, .inr ⟨rfl, y, rfl, hy⟩⟩
          rw [pu2, he]
          simp only [Owed, c1, c2, entX, cE_map, cE_closed, and_self, and_true, true_and]
          repeat' apply And.intro
          all_goals first | assumption | rfl | exact beq_self_eq_true s | (intro e h; cases h; done) | skip
        · refine ends_slT (j := 6) (l := insE x (dropE x.p xs)) (m := (dropE x.p xs).length + 1) KPu noneR' (n := 300) (o := ([(1000, .b true)] ++ ff [1, 3] false ++ ff [4] true ++ ff [5] false)) ⟨?_⟩ fun w' y hB hy => ⟨hB, .inr ⟨rfl, y, rfl, by rw [insE_len]; exact hy⟩⟩
          rw [pu3, he, vE_ents, cE_map]
          simp only [Owed, c1, c2, c3, entX, cE_map, cE_closed, and_self, and_true, true_and]
          repeat' apply And.intro
          all_goals first | assumption | rfl | exact beq_self_eq_true s | exact holdsE _ (by omega) | exact fun z hz => hI.size z (List.mem_filter.1 hz).1 | skip
  · have c1 : (!entN x.1 x.2 x.3 x.5 == (0 : Int)) = true := by simpa using hc
    have hr : refPut xs x = (xs, entN x.p x.v x.k x.l) := by unfold refPut; rw [if_pos hc]
    rw [hr]
    refine ends_old KPu noneR' (n := 300) (o := ([(1000, .b true)] ++ ff (List.range 3) true)) ⟨?_⟩ fun w' hB => ⟨hB, .inl ⟨hc, rfl⟩⟩
    rw [pu0]
    simp only [Owed, c1, and_self, and_true, true_and]
    exact ⟨hx1, hx2, hx3⟩
theorem endsN {E : Env} {M : Own} {w0 : World} {cs0 : List Frame} {f : FuncId} {R : Ending → World → Prop} {ν : Val} {n : Nat} {S : SM} {o : List (Nat × Ans)} {v : Value} (K : Facts E M w0) (hM : ∀ z, ¬ M z)
    (h : Due (endsX E f n S o [] (.v v))) (hR : ∀ w', Below w0.heap.size w0 w' → R (.returned v) w') : Goes E M w0 cs0 f R ν S :=
  Goes.endsX K hM h.out fun ν' w' y hle hv hB => by rw [VR.v_iff.1 hv]; exact hR w' hB
theorem putn_walk {w0 : World} {cs0 : List Frame} {x : EntT} {s : Int} (hI : PutIn [] x) : Goes EPn (layOwn [] []) w0 cs0 15 (RP w0 s (.slice none 0 0) (refPut [] x)) (layVal []) (entPn s x) := by
  have hx1 := hI.p
  have hx2 := hI.v.1
  have hx3 := hI.v.2
  by_cases hc : entN x.p x.v x.k x.l = 0
  · have c1 : (!entN x.1 x.2 x.3 x.5 == (0 : Int)) = false := by rw [show entN x.1 x.2 x.3 x.5 = 0 from hc]; rfl
    have hv : ¬ (0 : Int) ≥ x.v := by
      intro h
      have h0 : x.v = 0 := by omega
      rw [h0] at hc
      unfold entN at hc
      revert hc
      cases userB x.p <;> simp [verB]
    have c2 : decide ((0 : Int) ≥ x.2) = false := decide_eq_false hv
    have hr : refPut [] x = (insE x [], 0) := by
      unfold refPut; rw [if_neg (by simpa using hc), if_neg (by exact hv), if_neg (by simp [dropE])]; rfl
    rw [hr]
    refine ends_slT (j := 6) (l := insE x []) (m := 1) KPn not_laid (n := 300) (o := ([(1000, .b true)] ++ ff (List.range 30) false)) ⟨?_⟩ fun w' y hB hy => ⟨hB, .inr ⟨rfl, y, rfl, hy⟩⟩
    rw [pn1]
    simp only [Owed, c1, c2, entX, cE_map, cE_closed, and_self, and_true, true_and]
    repeat' apply And.intro
    all_goals first | assumption | rfl | exact beq_self_eq_true s | (intro e h; cases h; done) | skip
  · have c1 : (!entN x.1 x.2 x.3 x.5 == (0 : Int)) = true := by simpa using hc
    have hr : refPut [] x = ([], entN x.p x.v x.k x.l) := by unfold refPut; rw [if_pos hc]
    rw [hr]
    refine endsN (v := bV s (.slice none 0 0) (entN x.p x.v x.k x.l)) KPn not_laid (n := 300) (o := ([(1000, .b true)] ++ ff [1] true)) ⟨?_⟩ fun w' hB => ⟨hB, .inl ⟨hc, rfl⟩⟩
    unfold bV
    rw [pn0]
    simp only [Owed, c1, and_self, and_true, true_and]
    exact ⟨hx1, hx2, hx3⟩
/-- A book that comes. -/
def bookOf (B : SV) (sh : SH) : Option (Int × List EntT × Prop) := match aggOf B with
  | some [.v (.int .u64 s), A] => (listOf A sh).map fun r => (s, r.1, r.2)
  | _ => none
def rputS : SlM := fun args sh => match args with
  | [B, X] => match decX X, bookOf B sh with
    | some x, some (s, xs, p) => some (vE (refPut xs x).1, (refPut xs x).1.length, 4, 46, fun a => .tup [.agg [.v (.int .u64 s), a], .v (.int .i64 0)], fun y => bV s y 0, p ∧ PutIn xs x ∧ (refPut xs x).2 = 0)
    | _, _ => none
  | _ => none
def rputE (args : List SV) (sh : SH) : Option (SV × Prop) := match args with
  | [B, X] => match decX X, bookOf B sh with
    | some x, some (s, xs, p) => some (.tup [B, .v (.int .i64 (refPut xs x).2)], p ∧ PutIn xs x ∧ (refPut xs x).2 ≠ 0)
    | _, _ => none
  | _ => none
theorem row_closed1 {ν ν' : Val} {i j : Nat} {ys : List SV} {e : TypeId} {fz : Nat × Nat} {C : Nat} {ob : Obj} {b : Nat × Nat} (hy : ys.all closedSV = true) (hi : ν i = some b) (hj : ν' j = some b) (h : OR ν i (.row ys e fz (some C)) ob) : OR ν' j (.row ys e fz (some C)) ob := by
  obtain ⟨zs, rest, rfl, hz, r, b', hb', hsz⟩ := h
  rw [hi] at hb'; cases hb'
  exact ⟨zs, rest, rfl, closed_VRL hy hz, r, b, hj, hsz⟩
theorem put_calls {ν : Val} {M : Own} {w0 w : World} {sh : SH} (hr : HR ν M w0 sh w) {B X : SV} {s : Int} {xs : List EntT} {x : EntT} {p : Prop} (hx : decX X = some x) (hb : bookOf B sh = some (s, xs, p)) (hp : p) (hI : PutIn xs x) {a : List Value} (ha : VRL ν [B, X] a) :
    ∃ y0, VR ν B (.agg #[.int .u64 s, y0]) ∧ Calls Tryz.prog 15 a.toArray w (RP w s y0 (refPut xs x)) := by
  unfold bookOf at hb
  split at hb
  · rename_i s' A hA
    obtain ⟨⟨xs', q⟩, hl, h⟩ := Option.map_eq_some_iff.1 hb
    cases h
    obtain ⟨y1, as1, rfl, q1, ha2⟩ := ha.cons_inv
    obtain ⟨y2, as2, rfl, q2, ha3⟩ := ha2.cons_inv
    obtain rfl := ha3.nil_inv
    obtain rfl := decX_ok hx q2
    have hB : ∃ y0, y1 = .agg #[.int .u64 s, y0] ∧ VR ν A y0 := by
      unfold aggOf at hA
      split at hA
      · rename_i mm
        cases hA
        obtain ⟨u, rfl, hu⟩ := VR.agg_iff.1 q1
        obtain ⟨z1, u2, rfl, r1, hu2⟩ := hu.cons_inv
        obtain ⟨z2, u3, rfl, r2, hu3⟩ := hu2.cons_inv
        obtain rfl := hu3.nil_inv
        obtain rfl := VR.v_iff.1 r1
        exact ⟨z2, rfl, r2⟩
      · rename_i cs
        obtain rfl := VR.v_iff.1 q1
        have hA := Option.some.inj hA
        match cs, hA with
        | ⟨[c1, c2]⟩, hA =>
          simp at hA
          obtain ⟨h1, h2⟩ := hA
          subst h1 h2
          exact ⟨c2, rfl, VR.v_iff.2 rfl⟩
        | ⟨[]⟩, hA => simp at hA
        | ⟨[_]⟩, hA => simp at hA
        | ⟨_ :: _ :: _ :: _⟩, hA => simp at hA
      · cases hA
    obtain ⟨y0, rfl, hy0⟩ := hB
    refine ⟨y0, q1, ?_⟩
    rcases listOf_ok hl hp with ⟨rfl, rfl⟩ | ⟨hne, hfew, i, mk, rfl, hlk⟩
    · obtain rfl := VR.v_iff.1 hy0
      exact calls_bareR (E := EPn) rfl rfl (args := [.v (.agg #[.int .u64 s, .slice none 0 0]), .v (.agg #[.string x.p, .int .u64 x.v, .int .i64 x.k, .slice x.a x.l x.c])]) (S0 := entPn s x) (by kernel_rfl) (VRL.cons (VR.v_iff.2 rfl) (VRL.cons (VR.v_iff.2 rfl) VRL.nil)) fun cs0 => putn_walk hI
    · obtain ⟨bb, hbb, hle, rfl⟩ := VR.sl_iff.1 hy0
      obtain ⟨_, _, b, ob, hb, ho, hor, _⟩ := hr.look hlk
      rw [hbb] at hb; cases hb
      have hle' : xs'.length ≤ bb.2 := hle
      refine calls_readR (E := EPu) rfl (d := 6) (l := [bb]) (os := [.row (cE xs') 46 (0, 0) (some 4)]) rfl (by simp) (by simp) ?_ rfl (args := [.agg [.v (.int .u64 s), .sl 0 0 xs'.length none], .v (.agg #[.string x.p, .int .u64 x.v, .int .i64 x.k, .slice x.a x.l x.c])]) (S0 := entPu (cE xs') xs'.length s x) (by kernel_rfl) (VRL.cons (VR.agg_iff.2 ⟨_, rfl, VRL.cons (VR.v_iff.2 rfl) (VRL.cons (VR.sl_iff.2 ⟨bb, rfl, hle', rfl⟩) VRL.nil)⟩) (VRL.cons (VR.v_iff.2 rfl) VRL.nil)) fun cs0 => put_walk hI hne hfew
      intro j o' b' c' h1 h2
      match j with
      | 0 =>
        simp only [List.getElem?_cons_zero, Option.some.injEq] at h1 h2
        subst h1
        subst h2
        exact ⟨_, ho, row_closed1 (cE_closed xs') hbb rfl hor⟩
      | j + 1 => simp at h1
  · cases hb
theorem rput_ok {X : World → Prop} : SumOK Tryz.prog X (15, brSum (slSumM rputS) (svSum rputE)) := by
  refine SumOK.br (slSumM_ok ⟨_, Tryz.func15, by kernel_rfl, by kernel_rfl⟩ (fun args sh ys n C elem mk mv p h ν x y hv => ?_) fun args sh ys n C elem mk mv p h hp ν M w0 w a hr hX ha => ?_) (svSum_ok ⟨_, Tryz.func15, by kernel_rfl, by kernel_rfl⟩ fun args sh v p h hp ν M w0 w a hr hX ha => ?_)
  · dsimp only [rputS] at h
    split at h
    · split at h
      · cases h
        exact VR.tup_iff.2 ⟨_, rfl, VRL.cons (VR.agg_iff.2 ⟨_, rfl, VRL.cons (VR.v_iff.2 rfl) (VRL.cons hv VRL.nil)⟩) (VRL.cons (VR.v_iff.2 rfl) VRL.nil)⟩
      · cases h
    · cases h
  · dsimp only [rputS] at h
    split at h
    · split at h
      · rename_i x s xs q hx hb
        cases h
        obtain ⟨y0, _, hc⟩ := put_calls hr hx hb hp.1 hp.2.1 ha
        refine hc.mono fun e w' ⟨hB, h⟩ => ⟨hB, ?_⟩
        rcases h with ⟨h1, _⟩ | ⟨_, y, h2, h3⟩
        · exact absurd hp.2.2 h1
        · exact ⟨y, h2, h3⟩
      · cases h
    · cases h
  · dsimp only [rputE] at h
    split at h
    · split at h
      · rename_i x s xs q hx hb
        cases h
        obtain ⟨y0, hv, hc⟩ := put_calls hr hx hb hp.1 hp.2.1 ha
        refine hc.mono fun e w' ⟨hB, h⟩ => ⟨hB, ?_⟩
        rcases h with ⟨_, h2⟩ | ⟨h1, _⟩
        · exact ⟨_, h2, VR.tup_iff.2 ⟨_, rfl, VRL.cons hv (VRL.cons (VR.v_iff.2 rfl) VRL.nil)⟩⟩
        · exact absurd h1 hp.2.2
      · cases h
    · cases h
end paths
end Go.Proofs.YtiggmgcnjmalfaaGreatDoor
namespace Go.Proofs.YtiggmgcnjmalfaaGreatDoor
open Go Go.Rx Go.RowKit Go.Proofs
set_option linter.unusedVariables false
set_option linter.unusedSimpArgs false
set_option maxRecDepth 100000
namespace paths
def laysCl_ren : Go.Shelf.Ren := ⟨fun | 4 => 75 | n => n, fun | 22 => 42 | 4 => 4 | 5 => 5 | n => n, fun | n => n⟩
theorem laysCl : Go.Proofs.SlLaysK.n4 Tryz.prog laysCl_ren where
  mixed := by kernel_rfl
  f4 := Tryz.func75.trans (congrArg some (by kernel_rfl))
  t4 := Tryz.underlying4
  a4 := Tryz.isAgg4
  z4 := Tryz.sizeOf4
  v4 := Tryz.zeroValue4
  t22 := Tryz.underlying42
  a22 := Tryz.isAgg42
  z22 := Tryz.sizeOf42
  v22 := Tryz.zeroValue42
  t5 := Tryz.underlying5
  i5 := by kernel_rfl

def byteS (n : Int) : Value := .int .u8 n
def cloG (a0 : Option Addr) (l0 c0 : Nat) (ys : List Int) : SlG := fun args _ => match args with
  | [.v (.slice a l c)] => some (ys.map (Value.int .u8), l, 1, 5, none, (a = a0 ∧ l = l0 ∧ c = c0) ∧ a ≠ none)
  | _ => none
def cloN : PlG := fun args _ => match args with
  | [.v (.slice a l c)] => some (.slice none 0 0, a = none)
  | _ => none
def lClo (a0 : Option Addr) (l0 c0 : Nat) (ys : List Int) : List (FuncId × Sum) := [(75, brSum (slSumG (cloG a0 l0 c0 ys)) (plSumG cloN))]
noncomputable def EClo (a0 : Option Addr) (l0 c0 : Nat) (ys : List Int) : Env := { EP [] [] with sums := fun f => (lClo a0 l0 c0 ys).lookup f }
noncomputable def entClo (x : EntT) (ys : List Int) : SM := (enterS (EClo x.a x.l x.c ys) 53 [.v (.agg #[.string x.p, .int .u64 x.v, .int .i64 x.k, .slice x.a x.l x.c])] (memOf 6 0 0 [])).getD noSM
theorem cl0 (x : EntT) (ys : List Int) : endsX (EClo x.a x.l x.c ys) 53 300 (entClo x ys) ([(1000, .b true)] ++ ff (List.range 10) false) [] (.v (.agg #[.string x.p, .int .u64 x.v, .int .i64 x.k, .slice none 0 0])) = [
  Value.agg
   {
   toList :=
   [Value.string x.1, Value.int IntKind.u64 x.2, Value.int IntKind.i64 x.3, Value.slice none (0 : Nat) (0 : Nat)] :
   Array Value } =
   Value.agg
   {
   toList :=
   [Value.string x.1, Value.int IntKind.u64 x.2, Value.int IntKind.i64 x.3, Value.slice none (0 : Nat) (0 : Nat)] :
   Array Value },
  (x.3 == x.3) = true,
  x.4 = none] := by kernel_rfl
theorem cl1 (x : EntT) (ys : List Int) (m : List SV) : endsO (EClo x.a x.l x.c ys) 53 300 (entClo x ys) ([(1000, .b true)] ++ ff (List.range 10) true) (.agg [.v (.string x.p), .v (.int .u64 x.v), .v (.int .i64 x.k), .sl 4 0 x.l none]) 4 (.row m 5 (0, 0) (some 1)) = [
  Value.string x.1 = Value.string x.1,
  Value.int IntKind.u64 x.2 = Value.int IntKind.u64 x.2,
  Value.int IntKind.i64 x.3 = Value.int IntKind.i64 x.3,
  (0 : Nat) = (0 : Nat) ∧ x.5 = x.5 ∧ (none : Option Nat) = none,
  List.map SV.v (List.map (Value.int IntKind.u8) ys) = m,
  m.all closedSV = true,
  (x.3 == x.3) = true,
  (x.4 = x.4 ∧ x.5 = x.5 ∧ x.6 = x.6) ∧ x.4 ≠ none] := by kernel_rfl
def byteV (n : Int) : List Value := [.int .u8 n]
/-- The bytes that came in. -/
def CellsIn (W : World) (a : Option Addr) (l : Nat) (ys : List Int) : Prop := ys.length = l ∧ l ≤ 140737488355328 ∧ ∀ b, a = some b → ∀ i, i < l → ∀ W' : World, (∀ k, k < W.heap.size → W'.heap[k]? = W.heap[k]?) → W'.cell? (b.add i) = some (.int .u8 (ys.getD i 0))
/-- bytes.Clone, in worlds in which what came in lies still. -/
theorem bclone_ok {W : World} {a0 : Option Addr} {l0 c0 : Nat} {ys : List Int} (hD : CellsIn W a0 l0 ys) :
    SumOK Tryz.prog (fun w => ∀ k, k < W.heap.size → w.heap[k]? = W.heap[k]?) (75, brSum (slSumG (cloG a0 l0 c0 ys)) (plSumG cloN)) := by
  refine SumOK.br (slSumG_ok ⟨_, Tryz.func75, by kernel_rfl, by kernel_rfl⟩ fun args sh zs n C elem ex p h hp ν M w0 w a hr hX ha => ?_) (plSumG_ok ⟨_, Tryz.func75, by kernel_rfl, by kernel_rfl⟩ fun args sh v p h hp ν M w0 w a hr hX ha => ?_)
  · dsimp only [cloG] at h
    split at h
    · rename_i a1 l1 c1
      cases h
      obtain ⟨⟨rfl, rfl, rfl⟩, hne⟩ := hp
      obtain ⟨y1, as1, rfl, q1, ha2⟩ := ha.cons_inv
      obtain rfl := ha2.nil_inv
      obtain rfl := VR.v_iff.1 q1
      cases a1 with
      | none => exact absurd rfl hne
      | some b =>
        obtain ⟨h1, h2, h3⟩ := hD
        refine (Any.bytes_Clone_at laysCl b n c1 ys w h1 h2 fun i hi => h3 b rfl i hi w hX).mono fun e w' ⟨v', he, ⟨hlen, ho⟩, hv, hB⟩ => ⟨hB, v', he, ?_⟩
        rcases ho with ⟨h0, _⟩ | ⟨g, cap, cur, rfl, hg, hh, hnc, _, hsz, hcur⟩
        · exact absurd h0 hv
        · refine ⟨g, cap, cur.toList.drop n, rfl, hg, hnc, ?_, ?_⟩
          · rw [hh, ← hcur, Nat.mul_one, List.take_append_drop]; rfl
          · rw [← hcur, Nat.mul_one, List.take_append_drop]; simpa using hsz
    · cases h
  · dsimp only [cloN] at h
    split at h
    · rename_i a1 l1 c1
      cases h
      subst hp
      obtain ⟨y1, as1, rfl, q1, ha2⟩ := ha.cons_inv
      obtain rfl := ha2.nil_inv
      obtain rfl := VR.v_iff.1 q1
      exact (Any.bytes_Clone_nil laysCl l1 c1 w).mono fun e w' ⟨he, hw⟩ => ⟨by rw [hw]; exact Below.refl _ _, he⟩
    · cases h
theorem KClo {M : Own} {w0 : World} (hM : ∀ z, ¬ M z) {x : EntT} {ys : List Int} (hD : CellsIn w0 x.a x.l ys) : Facts (EClo x.a x.l x.c ys) M w0 :=
  Facts.of' (Checked.mixed Tryz.checked) (by kernel_rfl) (ExtOK.of extL rfl extRows) (SumsOK.list (X := fun w => ∀ k, k < w0.heap.size → w.heap[k]? = w0.heap[k]?) (l := lClo x.a x.l x.c ys) rfl (fun r h => by
    simp only [lClo, List.mem_cons, List.not_mem_nil, or_false] at h
    rcases h with rfl
    exact bclone_ok hD) fun ν s w hr _ => fun k hk => hr.frame k hk (hM k)) (fun f g h => by cases h)
theorem ys_val {ν : Val} {ys : List Int} {zs : List Value} (h : VRL ν (List.map SV.v (List.map (Value.int .u8) ys)) zs) : zs = ys.map (Value.int .u8) := plain_sol h (VRL.lits ν _)
theorem ys_closed (ys : List Int) : (List.map SV.v (List.map (Value.int .u8) ys)).all closedSV = true := by
  rw [List.all_eq_true]; intro x hx
  obtain ⟨v, _, rfl⟩ := List.mem_map.1 hx
  rfl
/-- What a clone is. -/
def CloneIs (w0 w' : World) (x : EntT) (ys : List Int) (a : Option Addr) (c : Nat) (l : Nat) : Prop :=
  (x.a = none ∧ a = none ∧ l = 0 ∧ c = 0) ∨ (x.a ≠ none ∧ l = x.l ∧ ∃ b, a = some ⟨b, 0, none⟩ ∧ NewSl w0 w' (.slice (some ⟨b, 0, none⟩) x.l c) (ys.map (Value.int .u8)) x.l 1 5)
theorem clone_calls {w : World} {x : EntT} {ys : List Int} (hD : CellsIn w x.a x.l ys) : Calls Tryz.prog 53 #[.agg (eV x).toArray] w fun e w' => Below w.heap.size w w' ∧ ∃ a c l, e = .returned (.agg #[.string x.p, .int .u64 x.v, .int .i64 x.k, .slice a l c]) ∧ CloneIs w w' x ys a c l := by
  refine calls_bareR (E := EClo x.a x.l x.c ys) rfl rfl (args := [.v (.agg #[.string x.p, .int .u64 x.v, .int .i64 x.k, .slice x.a x.l x.c])]) (a := [.agg (eV x).toArray]) (S0 := entClo x ys) (by kernel_rfl) (VRL.cons (VR.v_iff.2 rfl) VRL.nil) fun cs0 => ?_
  by_cases ha : x.a = none
  · refine endsN (v := .agg #[.string x.p, .int .u64 x.v, .int .i64 x.k, .slice none 0 0]) (KClo not_laid hD) not_laid (n := 300) (o := ([(1000, .b true)] ++ ff (List.range 10) false)) ⟨?_⟩ fun w' hB => ⟨hB, none, 0, 0, rfl, .inl ⟨ha, rfl, rfl, rfl⟩⟩
    rw [cl0]
    simp only [Owed, and_self, and_true, true_and]
    exact ⟨ha, beq_self_eq_true x.k⟩
  · refine Goes.endsO (KClo not_laid hD) (n := 300) (o := ([(1000, .b true)] ++ ff (List.range 10) true)) (x := .agg [.v (.string x.p), .v (.int .u64 x.v), .v (.int .i64 x.k), .sl 4 0 x.l none]) (i := 4) (so := .row (List.map SV.v (List.map (Value.int .u8) ys)) 5 (0, 0) (some 1)) (by
      rw [cl1]
      simp only [Owed, ys_closed, and_self, and_true, true_and]
      exact ⟨ha, beq_self_eq_true x.k⟩) fun ν' w' y b ob hv hb ho hor hw hB => ?_
    have hn : w.heap.size ≤ b.1 := by
      rcases hw with h | h
      · exact h
      · exact absurd h (not_laid _)
    obtain ⟨_, _, _, _, hB, hr⟩ := hB
    obtain ⟨a, rfl, ha1⟩ := VR.agg_iff.1 hv
    obtain ⟨y1, a1, rfl, q1, ha2⟩ := ha1.cons_inv
    obtain ⟨y2, a2, rfl, q2, ha3⟩ := ha2.cons_inv
    obtain ⟨y3, a3, rfl, q3, ha4⟩ := ha3.cons_inv
    obtain ⟨y4, a4, rfl, q4, ha5⟩ := ha4.cons_inv
    obtain rfl := ha5.nil_inv
    obtain rfl := VR.v_iff.1 q1
    obtain rfl := VR.v_iff.1 q2
    obtain rfl := VR.v_iff.1 q3
    have hs := NewSl.of_row q4 hb ho hor hn fun zs hz => ys_val hz
    have hs2 := hs
    obtain ⟨g, c, rest, rfl, _⟩ := hs2
    exact ⟨below_of not_laid hB hr, _, _, _, rfl, .inr ⟨ha, rfl, g, rfl, hs⟩⟩
end paths
end Go.Proofs.YtiggmgcnjmalfaaGreatDoor
