/- ScanPages: the law's runs. By an AI agent. -/
import Derived.Test.YtjhmpmhkppglnaaGreatPageE
import Derived.Test.YtjhmpmhkppglnaaGreatScanPagesLv2
import Derived.SizedLaws
namespace Go.Proofs.YtjhmpmhkppglnaaGreat
open Go Go.Rx Go.RowKit Go.Proofs
set_option linter.unusedVariables false
set_option linter.unusedSimpArgs false
set_option maxRecDepth 100000
namespace paths
def livesPS : PS := fun args => match args with | [] => some (.bool true, True) | _ => none
/-- What is used of the calls, where no row is behind, where the page has none, and else. -/
def lW0 (off : Nat) (xs : List RowT) : List (FuncId × Sum) := [(5, plSumG (pageN off xs)), (6, plSumG (rpageN off xs)), (8, plSumG (findS off xs))]
def lW1 (off : Nat) (xs : List RowT) : List (FuncId × Sum) := [(5, plSumG (pageN off xs)), (6, slSumG (rpageS off xs)), (8, plSumG (findS off xs))]
def lW2 (off : Nat) (xs A B : List RowT) : List (FuncId × Sum) := [(5, slSumG (pageS off xs)), (6, slSumG (rpageS off xs)), (7, plSumG (sameS A B)), (8, plSumG (findS off xs))]
noncomputable def EL (l : List (FuncId × Sum)) : Env := { EP [] [] with sums := fun f => ((4, pureSum livesPS) :: l).lookup f }
noncomputable def entL (E : Env) (off : Nat) (xs : List RowT) (L c : Nat) (s p : ByteArray) (k : Int) : SM := (enterS E 3 [.sl 0 off L (some c), .v (.string s), .v (.string p), .v (.int .i64 k)] (memOf 6 1 0 [look off xs])).getD noSM
noncomputable def todo1 : List SI := todoL (EL []) 2 60 (entL (EL []) 0 [] 0 0 ⟨#[]⟩ ⟨#[]⟩ 0) [(1000, .b true)]
noncomputable def hd1 (off L c : Nat) (s p : ByteArray) (k z i : Int) : SF := { fn := 3, tm := tmOf 105 7 ([.sl 0 off L (some c), .v (.string s), .v (.string p), .v (.int .i64 k)] ++ List.replicate 5 .junk ++ [.v (.int .i64 z)] ++ List.replicate 15 .junk ++ [.sl 0 off L (some c), .v (.int .i64 L), .v (.int .i64 i)] ++ List.replicate 77 .junk), todo := todo1, defers := [], ret := false, kind := .normal, ro := none }
noncomputable def todo2 : List SI := todoL (EL (lW0 0 [])) 2 200 (SM.at (hd1 0 0 0 ⟨#[]⟩ ⟨#[]⟩ 0 0 0) 6 [look 0 []]) (ff (List.range 60) false)
noncomputable def hd2 (off L c : Nat) (p : ByteArray) (fb : Bool) (i : Int) : SF := { fn := 3, tm := tmOf 105 7 ([.junk, .junk, .v (.string p)] ++ List.replicate 13 .junk ++ [.ptr 1 0, .v (.bool fb)] ++ List.replicate 56 .junk ++ [.sl 0 off L (some c), .v (.int .i64 L), .v (.int .i64 i)] ++ List.replicate 28 .junk), todo := todo2, defers := [], ret := false, kind := .normal, ro := none }
def rowO (r : RowT) : Option (SO × Bool) := some (.row (rowC r) 25 (0, 0) none, true)
theorem v0 (rest : List (FuncId × Sum)) (off L c : Nat) (xs : List RowT) (s p : ByteArray) (k : Int) : reach (EL rest) 2 60 (entL (EL rest) off xs L c s p k) [(1000, .b true)] [(0, 0)] [0] (hd1 off L c s p k (IntKind.i64.wrap ((s.size : Int) + (p.size : Int))) 0) 6 [look off xs] = [
  off = off ∧ L = L ∧ some c = some c,
  Value.string s = Value.string s,
  Value.string p = Value.string p,
  Value.int IntKind.i64 k = Value.int IntKind.i64 k,
  Value.int IntKind.i64 (IntKind.i64.wrap ((↑s.size : Int) + (↑p.size : Int))) =
   Value.int IntKind.i64 (IntKind.i64.wrap ((↑s.size : Int) + (↑p.size : Int))),
  off = off ∧ L = L ∧ some c = some c,
  Value.int IntKind.i64 (↑L : Int) = Value.int IntKind.i64 (↑L : Int),
  Value.int IntKind.i64 (0 : Int) = Value.int IntKind.i64 (0 : Int),
  rowsAt rowC off xs = rowsAt rowC off xs,
  (rowsAt rowC off xs).all closedSV = true] := by kernel_rfl
theorem v1 (rest : List (FuncId × Sum)) (off L c : Nat) (xs : List RowT) (s p : ByteArray) (k z i z' i' : Int) (r : RowT) : reach (EL rest) 2 60 (SM.at (hd1 off L c s p k z i) 6 [look off xs]) (ff [0, 1] true ++ [(2, .cells (rowC r))]) [(0, 0)] [0] (hd1 off L c s p k z' i') 6 [look off xs] = [
  off = off ∧ L = L ∧ some c = some c,
  Value.string s = Value.string s,
  Value.string p = Value.string p,
  Value.int IntKind.i64 k = Value.int IntKind.i64 k,
  Value.int IntKind.i64 (IntKind.i64.wrap (z + (↑r.1.size : Int))) = Value.int IntKind.i64 z',
  off = off ∧ L = L ∧ some c = some c,
  Value.int IntKind.i64 (↑L : Int) = Value.int IntKind.i64 (↑L : Int),
  Value.int IntKind.i64 (IntKind.i64.wrap (i + (1 : Int))) = Value.int IntKind.i64 i',
  rowsAt rowC off xs = rowsAt rowC off xs,
  (rowsAt rowC off xs).all closedSV = true,
  List.take (5 : Nat)
   (List.drop (off + i.toNat * (5 : Nat)) (rowsAt rowC off xs)) =
   rowC r ∧
   (rowC r).length = (5 : Nat),
  inRange i L = true,
  decide (i < (↑L : Int)) = true] := by kernel_rfl
theorem v2 (rest : List (FuncId × Sum)) (off L c : Nat) (xs : List RowT) (s p : ByteArray) (k z i : Int) (v : Value) : endsV (EL rest) 3 60 (SM.at (hd1 off L c s p k z i) 6 [look off xs]) (ff [0] false ++ ff [1, 2, 3, 4, 5] true) v = [
  Value.bool true = v,
  True,
  true = true,
  decide (z > (5000 : Int)) = true,
  decide (z > (5000 : Int)) = true,
  decide (z > (5000 : Int)) = true,
  decide (z > (5000 : Int)) = true,
  decide (i < (↑L : Int)) = false] := by kernel_rfl
theorem v3 (rest : List (FuncId × Sum)) (off L c : Nat) (xs : List RowT) (s p : ByteArray) (k z i : Int) (v : Value) : endsV (EL rest) 3 60 (SM.at (hd1 off L c s p k z i) 6 [look off xs]) (ff [0, 1, 2, 3, 4] false ++ ff [5] true) v = [
  Value.bool true = v,
  True,
  decide ((↑L : Int) > (200 : Int)) = true,
  decide (z > (5000 : Int)) = false,
  decide (z > (5000 : Int)) = false,
  decide (z > (5000 : Int)) = false,
  decide (z > (5000 : Int)) = false,
  decide (i < (↑L : Int)) = false] := by kernel_rfl
theorem v4 (off L c : Nat) (xs : List RowT) (s p : ByteArray) (k z i : Int) : reach (EL (lW0 off xs)) 2 200 (SM.at (hd1 off L c s p k z i) 6 [look off xs]) (ff (List.range 60) false) [(0, 0), (1, 1)] [0] (hd2 off L c p (foundB p xs) 0) 6 [look off xs, rowO (findR p xs)] = [
  Value.string p = Value.string p,
  (0 : Nat) = (0 : Nat),
  Value.bool (foundB p xs) = Value.bool (foundB p xs),
  off = off ∧ L = L ∧ some c = some c,
  Value.int IntKind.i64 (↑L : Int) = Value.int IntKind.i64 (↑L : Int),
  Value.int IntKind.i64 (0 : Int) = Value.int IntKind.i64 (0 : Int),
  rowsAt rowC off xs = rowsAt rowC off xs,
  (rowsAt rowC off xs).all closedSV = true,
  Value.string (findR p xs).1 = Value.string (findR p xs).1,
  Value.int IntKind.i64 (findR p xs).snd.1 = Value.int IntKind.i64 (findR p xs).snd.1,
  Value.int IntKind.u64 (findR p xs).snd.snd.1 = Value.int IntKind.u64 (findR p xs).snd.snd.1,
  Value.int IntKind.u64 (findR p xs).snd.snd.snd.1 = Value.int IntKind.u64 (findR p xs).snd.snd.snd.1,
  Value.int IntKind.i64 (findR p xs).snd.snd.snd.2 = Value.int IntKind.i64 (findR p xs).snd.snd.snd.2,
  RowsOK off xs (rowsAt rowC off xs) off L { data := { toList := [] : Array UInt8 } : ByteArray },
  (!moreB s k xs == moreB s k xs) = false,
  false = false,
  false = false,
  false = false,
  false = false,
  false = false,
  false = false,
  RowsOK off xs (rowsAt rowC off xs) off L s ∧ behind s xs = [],
  RowsOK off xs (rowsAt rowC off xs) off L s ∧ pageL s k xs = [],
  decide ((↑L : Int) > (200 : Int)) = false,
  decide (z > (5000 : Int)) = false,
  decide (z > (5000 : Int)) = false,
  decide (z > (5000 : Int)) = false,
  decide (z > (5000 : Int)) = false,
  decide (i < (↑L : Int)) = false] := by kernel_rfl
theorem v41 (off L c : Nat) (xs : List RowT) (s p : ByteArray) (k z i : Int) : reach (EL (lW1 off xs)) 2 200 (SM.at (hd1 off L c s p k z i) 6 [look off xs]) (ff (List.range 60) false) [(0, 0), (1, 2)] [0] (hd2 off L c p (foundB p xs) 0) 6 [look off xs, rowO (findR p xs)] = [
  Value.string p = Value.string p,
  (0 : Nat) = (0 : Nat),
  Value.bool (foundB p xs) = Value.bool (foundB p xs),
  off = off ∧ L = L ∧ some c = some c,
  Value.int IntKind.i64 (↑L : Int) = Value.int IntKind.i64 (↑L : Int),
  Value.int IntKind.i64 (0 : Int) = Value.int IntKind.i64 (0 : Int),
  rowsAt rowC off xs = rowsAt rowC off xs,
  (rowsAt rowC off xs).all closedSV = true,
  Value.string (findR p xs).1 = Value.string (findR p xs).1,
  Value.int IntKind.i64 (findR p xs).snd.1 = Value.int IntKind.i64 (findR p xs).snd.1,
  Value.int IntKind.u64 (findR p xs).snd.snd.1 = Value.int IntKind.u64 (findR p xs).snd.snd.1,
  Value.int IntKind.u64 (findR p xs).snd.snd.snd.1 = Value.int IntKind.u64 (findR p xs).snd.snd.snd.1,
  Value.int IntKind.i64 (findR p xs).snd.snd.snd.2 = Value.int IntKind.i64 (findR p xs).snd.snd.snd.2,
  RowsOK off xs (rowsAt rowC off xs) off L { data := { toList := [] : Array UInt8 } : ByteArray },
  (!moreB s k xs == moreB s k xs) = false,
  false = false,
  false = false,
  false = false,
  false = false,
  false = false,
  (!(↑(0 : Nat) : Int) == (↑(pageL s k xs).length : Int)) = false,
  RowsOK off xs (rowsAt rowC off xs) off L s ∧ behind s xs ≠ [],
  RowsOK off xs (rowsAt rowC off xs) off L s ∧ pageL s k xs = [],
  decide ((↑L : Int) > (200 : Int)) = false,
  decide (z > (5000 : Int)) = false,
  decide (z > (5000 : Int)) = false,
  decide (z > (5000 : Int)) = false,
  decide (z > (5000 : Int)) = false,
  decide (i < (↑L : Int)) = false] := by kernel_rfl
theorem v42 (off L c : Nat) (xs A B : List RowT) (s p : ByteArray) (k z i : Int) : reach (EL (lW2 off xs A B)) 2 200 (SM.at (hd1 off L c s p k z i) 6 [look off xs]) (ff (List.range 60) false) [(0, 0), (1, 3)] [0] (hd2 off L c p (foundB p xs) 0) 6 [look off xs, rowO (findR p xs)] = [
  Value.string p = Value.string p,
  (0 : Nat) = (0 : Nat),
  Value.bool (foundB p xs) = Value.bool (foundB p xs),
  off = off ∧ L = L ∧ some c = some c,
  Value.int IntKind.i64 (↑L : Int) = Value.int IntKind.i64 (↑L : Int),
  Value.int IntKind.i64 (0 : Int) = Value.int IntKind.i64 (0 : Int),
  rowsAt rowC off xs = rowsAt rowC off xs,
  (rowsAt rowC off xs).all closedSV = true,
  Value.string (findR p xs).1 = Value.string (findR p xs).1,
  Value.int IntKind.i64 (findR p xs).snd.1 = Value.int IntKind.i64 (findR p xs).snd.1,
  Value.int IntKind.u64 (findR p xs).snd.snd.1 = Value.int IntKind.u64 (findR p xs).snd.snd.1,
  Value.int IntKind.u64 (findR p xs).snd.snd.snd.1 = Value.int IntKind.u64 (findR p xs).snd.snd.snd.1,
  Value.int IntKind.i64 (findR p xs).snd.snd.snd.2 = Value.int IntKind.i64 (findR p xs).snd.snd.snd.2,
  RowsOK off xs (rowsAt rowC off xs) off L { data := { toList := [] : Array UInt8 } : ByteArray },
  (!moreB s k xs == moreB s k xs) = false,
  false = false,
  false = false,
  false = false,
  false = false,
  ((List.map SV.v (vR (pageL s k xs)) = cR A ∧ List.map SV.v (vR (behind s xs)) = cR B) ∧
   (pageL s k xs).length = A.length ∧ (pageL s k xs).length = A.length) ∧
   A = List.take A.length B ∧ A.length ≤ (1000 : Nat),
  RowsOK off xs (rowsAt rowC off xs) off L s ∧ behind s xs ≠ [],
  RowsOK off xs (rowsAt rowC off xs) off L s ∧ pageL s k xs ≠ [],
  decide ((↑L : Int) > (200 : Int)) = false,
  decide (z > (5000 : Int)) = false,
  decide (z > (5000 : Int)) = false,
  decide (z > (5000 : Int)) = false,
  decide (z > (5000 : Int)) = false,
  decide (i < (↑L : Int)) = false] := by kernel_rfl
theorem v5 (rest : List (FuncId × Sum)) (off L c : Nat) (xs : List RowT) (p : ByteArray) (fb : Bool) (i i' : Int) (q r : RowT) : reach (EL rest) 2 200 (SM.at (hd2 off L c p fb i) 6 [look off xs, rowO q]) (ff [0, 1] true ++ [(2, .cells (rowC r))] ++ ff [3] false) [(0, 0), (1, 1)] [0] (hd2 off L c p fb i') 6 [look off xs, rowO q] = [
  Value.string p = Value.string p,
  (0 : Nat) = (0 : Nat),
  Value.bool fb = Value.bool fb,
  off = off ∧ L = L ∧ some c = some c,
  Value.int IntKind.i64 (↑L : Int) = Value.int IntKind.i64 (↑L : Int),
  Value.int IntKind.i64 (IntKind.i64.wrap (i + (1 : Int))) = Value.int IntKind.i64 i',
  rowsAt rowC off xs = rowsAt rowC off xs,
  (rowsAt rowC off xs).all closedSV = true,
  Value.string q.1 = Value.string q.1,
  Value.int IntKind.i64 q.snd.1 = Value.int IntKind.i64 q.snd.1,
  Value.int IntKind.u64 q.snd.snd.1 = Value.int IntKind.u64 q.snd.snd.1,
  Value.int IntKind.u64 q.snd.snd.snd.1 = Value.int IntKind.u64 q.snd.snd.snd.1,
  Value.int IntKind.i64 q.snd.snd.snd.2 = Value.int IntKind.i64 q.snd.snd.snd.2,
  (r.1.toList == p.toList) = false,
  List.take (5 : Nat)
   (List.drop (off + i.toNat * (5 : Nat)) (rowsAt rowC off xs)) =
   rowC r ∧
   (rowC r).length = (5 : Nat),
  inRange i L = true,
  decide (i < (↑L : Int)) = true] := by kernel_rfl
theorem v6 (rest : List (FuncId × Sum)) (off L c : Nat) (xs : List RowT) (p : ByteArray) (fb : Bool) (i : Int) (q r : RowT) (v : Value) : endsV (EL rest) 3 200 (SM.at (hd2 off L c p fb i) 6 [look off xs, rowO q]) (ff [0, 1] true ++ [(2, .cells (rowC r))] ++ ff [3, 4, 5, 6, 8] true ++ [(7, .eqs true)]) v = [
  Value.bool true = v,
  True,
  fb = true,
  q.1 = r.1 ∧
   q.snd.1 = r.snd.1 ∧
   q.snd.snd.1 = r.snd.snd.1 ∧ q.snd.snd.snd.1 = r.snd.snd.snd.1 ∧ q.snd.snd.snd.2 = r.snd.snd.snd.2 ∧ True,
  fb = true,
  fb = true,
  fb = true,
  (r.1.toList == p.toList) = true,
  List.take (5 : Nat)
   (List.drop (off + i.toNat * (5 : Nat)) (rowsAt rowC off xs)) =
   rowC r ∧
   (rowC r).length = (5 : Nat),
  inRange i L = true,
  decide (i < (↑L : Int)) = true] := by kernel_rfl
theorem v7 (rest : List (FuncId × Sum)) (off L c : Nat) (xs : List RowT) (p : ByteArray) (fb : Bool) (i : Int) (q : RowT) (v : Value) : endsV (EL rest) 3 200 (SM.at (hd2 off L c p fb i) 6 [look off xs, rowO q]) (ff [0] false ++ ff [1, 2, 3, 4, 6] true ++ [(5, .eqs true)]) v = [
  Value.bool true = v,
  True,
  (!fb) = true,
  q.1 = p ∧
   q.snd.1 = (0 : Int) ∧ q.snd.snd.1 = (0 : Int) ∧ q.snd.snd.snd.1 = (0 : Int) ∧ q.snd.snd.snd.2 = (0 : Int) ∧ True,
  (!fb) = true,
  (!fb) = true,
  (!fb) = true,
  (!fb) = true,
  decide (i < (↑L : Int)) = false] := by kernel_rfl
noncomputable def entZ (a : Option Addr) (c : Nat) (s p : ByteArray) (k : Int) : SM := (enterS (EL []) 3 [.v (.slice a 0 c), .v (.string s), .v (.string p), .v (.int .i64 k)] (memOf 6 0 0 [])).getD noSM
theorem w0_ (a : Option Addr) (c : Nat) (s p : ByteArray) (k : Int) (v : Value) : endsV (EL []) 3 400 (entZ a c s p k) (ff [1, 2, 3, 4] true) v = [
  Value.bool true = v,
  True,
  decide (IntKind.i64.wrap ((↑s.size : Int) + (↑p.size : Int)) > (5000 : Int)) = true,
  decide (IntKind.i64.wrap ((↑s.size : Int) + (↑p.size : Int)) > (5000 : Int)) = true,
  decide (IntKind.i64.wrap ((↑s.size : Int) + (↑p.size : Int)) > (5000 : Int)) = true,
  decide (IntKind.i64.wrap ((↑s.size : Int) + (↑p.size : Int)) > (5000 : Int)) = true] := by kernel_rfl
theorem w1_ (a : Option Addr) (c : Nat) (s p : ByteArray) (k : Int) (v : Value) : endsV (EL []) 3 400 (entZ a c s p k) (ff [1, 2, 3, 4, 5] false ++ ff [8] true ++ [(24, .eqs true)]) v = [
  Value.bool true = v,
  True,
  p = p ∧ (0 : Int) = (0 : Int) ∧ (0 : Int) = (0 : Int) ∧ (0 : Int) = (0 : Int) ∧ (0 : Int) = (0 : Int) ∧ True,
  decide (k < (0 : Int)) = true,
  false = false,
  decide (IntKind.i64.wrap ((↑s.size : Int) + (↑p.size : Int)) > (5000 : Int)) = false,
  decide (IntKind.i64.wrap ((↑s.size : Int) + (↑p.size : Int)) > (5000 : Int)) = false,
  decide (IntKind.i64.wrap ((↑s.size : Int) + (↑p.size : Int)) > (5000 : Int)) = false,
  decide (IntKind.i64.wrap ((↑s.size : Int) + (↑p.size : Int)) > (5000 : Int)) = false] := by kernel_rfl
theorem w2_ (a : Option Addr) (c : Nat) (s p : ByteArray) (k : Int) (v : Value) : endsV (EL []) 3 400 (entZ a c s p k) (ff [1, 2, 3, 4, 5, 8] false ++ ff [9] true ++ [(24, .eqs true)]) v = [
  Value.bool true = v,
  True,
  p = p ∧ (0 : Int) = (0 : Int) ∧ (0 : Int) = (0 : Int) ∧ (0 : Int) = (0 : Int) ∧ (0 : Int) = (0 : Int) ∧ True,
  decide (k ≥ (↑(0 : Nat) : Int)) = true,
  decide (k < (0 : Int)) = false,
  false = false,
  decide (IntKind.i64.wrap ((↑s.size : Int) + (↑p.size : Int)) > (5000 : Int)) = false,
  decide (IntKind.i64.wrap ((↑s.size : Int) + (↑p.size : Int)) > (5000 : Int)) = false,
  decide (IntKind.i64.wrap ((↑s.size : Int) + (↑p.size : Int)) > (5000 : Int)) = false,
  decide (IntKind.i64.wrap ((↑s.size : Int) + (↑p.size : Int)) > (5000 : Int)) = false] := by kernel_rfl
end paths
end Go.Proofs.YtjhmpmhkppglnaaGreat
namespace Go.Proofs.YtjhmpmhkppglnaaGreat
open Go Go.Rx Go.RowKit Go.Proofs
set_option linter.unusedVariables false
set_option linter.unusedSimpArgs false
set_option maxRecDepth 100000
namespace paths
theorem lives_ok {X : World → Prop} : SumOK Tryz.prog X (4, pureSum livesPS) :=
  SumOK.pure (r := (4, livesPS)) ⟨⟨_, Tryz.func4, by kernel_rfl, by kernel_rfl⟩, fun args v p h hp w hX => by
    dsimp only [livesPS] at h
    split at h
    · cases h
      exact (scanPages.lives_true w (fun r hr => by cases hr)).mono fun e w' ⟨h1, h2⟩ => ⟨h2, h1⟩
    · cases h⟩
theorem KL {rest : List (FuncId × Sum)} (hrest : ∀ r ∈ rest, SumOK Tryz.prog MX r) {M : Own} {w0 : World} (hM : ∀ b, ¬ M b) (h : MX w0) : Facts (EL rest) M w0 :=
  Facts.of' (Checked.mixed Tryz.checked) (by kernel_rfl) (ExtOK.of extL rfl extRows) (SumsOK.list (X := MX) (l := (4, pureSum livesPS) :: rest) rfl (fun r hr => by
    rcases List.mem_cons.1 hr with rfl | hr
    · exact lives_ok
    · exact hrest r hr) fun ν s w hr _ => h.keep fun k hk => hr.frame k hk (hM k)) (fun f g h => by cases h)
/-- The sum that it reckons. -/
def sumR (z : Int) (xs : List RowT) : Int := xs.foldl (fun n r => IntKind.i64.wrap (n + (r.1.size : Int))) z
theorem sumR_snoc (z : Int) (xs : List RowT) (r : RowT) : sumR z (xs ++ [r]) = IntKind.i64.wrap (sumR z xs + (r.1.size : Int)) := by
  unfold sumR; rw [List.foldl_append]; rfl
theorem sumR_eq : ∀ (xs : List RowT) (z : Int), 0 ≤ z → z + (xs.length : Int) * 140737488355328 ≤ 9223372036854775807 → (∀ r ∈ xs, r.1.size ≤ 140737488355328) → z ≤ sumR z xs ∧ ∀ r ∈ xs, (r.1.size : Int) ≤ sumR z xs
  | [], z, hz, _, _ => ⟨Int.le_refl _, fun r h => by cases h⟩
  | x :: xs, z, hz, hb, hs => by
    have hx := hs x List.mem_cons_self
    have e : sumR z (x :: xs) = sumR (z + x.1.size) xs := by
      show sumR (IntKind.i64.wrap (z + (x.1.size : Int))) xs = _
      rw [List.length_cons] at hb
      rw [wi (by push_cast at hb; omega)]
    rw [List.length_cons] at hb
    obtain ⟨h1, h2⟩ := sumR_eq xs (z + x.1.size) (by omega) (by push_cast at hb; omega) fun r hr => hs r (List.mem_cons_of_mem _ hr)
    rw [e]
    refine ⟨by omega, fun r hr => ?_⟩
    rcases List.mem_cons.1 hr with rfl | hr
    · omega
    · exact h2 r hr
def RL (w0 : World) (e : Ending) (w' : World) : Prop := e = .returned (.bool true) ∧ Below w0.heap.size w0 w'
section
variable {rest : List (FuncId × Sum)} {w0 : World} {cs0 : List Frame} {s p : ByteArray} {k : Int} {xs : List RowT} {off c b cap : Nat}
theorem loopL1 (hrest : ∀ r ∈ rest, SumOK Tryz.prog MX r) (hm : MX w0) (hl : xs.length ≤ 9223372036854775807) {z : Int}
    (hend : Goes (EL rest) (layOwn [(b, cap)] [(SO.look (rowsAt rowC off xs), false)]) w0 cs0 3 (RL w0) (layVal [(b, cap)]) (SM.at (hd1 off xs.length c s p k (sumR z xs) xs.length) 6 [look off xs])) :
    ∀ (j i : Nat), i + j = xs.length → Goes (EL rest) (layOwn [(b, cap)] [(SO.look (rowsAt rowC off xs), false)]) w0 cs0 3 (RL w0) (layVal [(b, cap)]) (SM.at (hd1 off xs.length c s p k (sumR z (xs.take i)) i) 6 [look off xs])
  | 0, i, hj => by
    have hi : i = xs.length := by omega
    subst hi
    rw [List.take_length]; exact hend
  | j + 1, i, hj => by
    have hi : i < xs.length := by omega
    have hxi : xs[i]? = some xs[i] := List.getElem?_eq_getElem hi
    have t1 : decide ((i : Int) < (xs.length : Int)) = true := decide_eq_true (by omega)
    have r1 := in_range hi
    have ra := rowsAt_at (off := off) rowC_len hxi
    have ws : IntKind.i64.wrap ((i : Int) + 1) = ((i + 1 : Nat) : Int) := by rw [wi (by omega)]; omega
    have nx := loopL1 hrest hm hl hend j (i + 1) (by omega)
    rw [List.take_succ_eq_append_getElem hi, sumR_snoc] at nx
    refine Goes.reach (KL hrest none1 hm) (k := 2) (n := 60) (o := (ff [0, 1] true ++ [(2, .cells (rowC xs[i]))])) (ren := [(0, 0)]) (eqs := [0]) ?_ (by kernel_rfl) (fun i b h => by rw [lay1 h]; rfl) nx
    rw [v1]
    simp only [Owed, Int.toNat_natCast, t1, r1, ra, ws, rowC_len, rows_closed, and_self]
theorem find_drop (f : RowT → Bool) {xs : List RowT} {i : Nat} (h : ∀ r ∈ xs.take i, f r = false) : xs.find? f = (xs.drop i).find? f := by
  conv => lhs; rw [← List.take_append_drop i xs]
  rw [List.find?_append]
  have : (xs.take i).find? f = none := by
    rw [List.find?_eq_none]; intro r hr; rw [h r hr]; simp
  rw [this]; rfl
theorem loopL2 (hrest : ∀ r ∈ rest, SumOK Tryz.prog MX r) (hm : MX w0) (hl : xs.length ≤ 1000) : ∀ (j i : Nat), i + j = xs.length → (∀ r ∈ xs.take i, isP p r = false) →
    Goes (EL rest) (layOwn [(b, cap)] [(SO.look (rowsAt rowC off xs), false)]) w0 cs0 3 (RL w0) (layVal [(b, cap)]) (SM.at (hd2 off xs.length c p (foundB p xs) i) 6 [look off xs, rowO (findR p xs)])
  | 0, i, hj, hn => by
    have hf := find_drop (isP p) hn
    rw [List.drop_eq_nil_of_le (by omega)] at hf
    have er : findR p xs = (p, 0, 0, 0, 0) := by unfold findR; rw [hf]; rfl
    have eb : foundB p xs = false := by unfold foundB; rw [hf]; rfl
    have t1 : decide ((i : Int) < (xs.length : Int)) = false := decide_eq_false (by omega)
    rw [er, eb]
    refine goes_due (KL hrest none1 hm) none1 (n := 200) (o := (ff [0] false ++ ff [1, 2, 3, 4, 6] true ++ [(5, .eqs true)])) (v := .bool true) ⟨?_⟩ fun w' hw => ⟨rfl, hw⟩
    rw [v7]
    simp only [Owed, t1, Bool.not_false, and_self]
  | j + 1, i, hj, hn => by
    have hi : i < xs.length := by omega
    have hxi : xs[i]? = some xs[i] := List.getElem?_eq_getElem hi
    have t1 : decide ((i : Int) < (xs.length : Int)) = true := decide_eq_true (by omega)
    have r1 := in_range hi
    have ra := rowsAt_at (off := off) rowC_len hxi
    have ws := wrap_succ (k := i) (by omega)
    cases hq : isP p xs[i]
    · have hq' : (xs[i].1.toList == p.toList) = false := by rw [tlB, tlB]; exact hq
      refine Goes.reach (KL hrest none1 hm) (k := 2) (n := 200) (o := (ff [0, 1] true ++ [(2, .cells (rowC xs[i]))] ++ ff [3] false)) (ren := [(0, 0), (1, 1)]) (eqs := [0]) ?_ (by kernel_rfl) (fun i b h => by rw [lay1 h]; rfl) (loopL2 hrest hm hl j (i + 1) (by omega) fun r hr => by
        rw [List.take_succ_eq_append_getElem hi] at hr
        rcases List.mem_append.1 hr with hr | hr
        · exact hn r hr
        · rw [List.mem_singleton.1 hr]; exact hq)
      rw [v5]
      simp only [Owed, Int.toNat_natCast, t1, r1, ra, hq', ws, rowC_len, rows_closed, and_self]
    · have hq' : (xs[i].1.toList == p.toList) = true := by rw [tlB, tlB]; exact hq
      have hf := find_drop (isP p) hn
      rw [List.drop_eq_getElem_cons hi, List.find?_cons, hq] at hf
      have er : findR p xs = xs[i] := by unfold findR; rw [hf]; rfl
      have eb : foundB p xs = true := by unfold foundB; rw [hf]; rfl
      rw [er, eb]
      refine goes_due (KL hrest none1 hm) none1 (n := 200) (o := (ff [0, 1] true ++ [(2, .cells (rowC xs[i]))] ++ ff [3, 4, 5, 6, 8] true ++ [(7, .eqs true)])) (v := .bool true) ⟨?_⟩ fun w' hw => ⟨rfl, hw⟩
      rw [v6]
      simp only [Owed, Int.toNat_natCast, t1, r1, ra, hq', rowC_len, and_self]
/-- Few rows, short paths. -/
structure Fine (s p : ByteArray) (xs : List RowT) : Prop where
  sum : ¬ sumR (IntKind.i64.wrap ((s.size : Int) + (p.size : Int))) xs > 5000
  few : ¬ (xs.length : Int) > 200
  size : s.size ≤ 5000
  sizes : ∀ r ∈ xs, r.1.size ≤ 5000
theorem law_rows (hrest : ∀ r ∈ rest, SumOK Tryz.prog MX r) (hm : MX w0) {cs : Array Value} {e : TypeId} {fz : Nat × Nat} (hb : w0.heap[b]? = some (.cells cs e fz)) (hoff : off ≤ cs.size)
    (hc : ∀ (k : Nat) (v : Value), (xs.flatMap rowV)[k]? = some v → cs[off + k]? = some v) (hlc : xs.length ≤ c) (hl : xs.length ≤ 9223372036854775807) (h1 : s.size ≤ 140737488355328) (h2 : p.size ≤ 140737488355328) (h3 : ∀ r ∈ xs, r.1.size ≤ 140737488355328)
    (hmid : ∀ cs0 cap, Fine s p xs → Goes (EL rest) (layOwn [(b, cap)] [(SO.look (rowsAt rowC off xs), false)]) w0 cs0 3 (RL w0) (layVal [(b, cap)]) (SM.at (hd2 off xs.length c p (foundB p xs) 0) 6 [look off xs, rowO (findR p xs)]) →
      Goes (EL rest) (layOwn [(b, cap)] [(SO.look (rowsAt rowC off xs), false)]) w0 cs0 3 (RL w0) (layVal [(b, cap)]) (SM.at (hd1 off xs.length c s p k (sumR (IntKind.i64.wrap ((s.size : Int) + (p.size : Int))) xs) xs.length) 6 [look off xs])) :
    Calls Tryz.prog 3 #[.slice (some ⟨b, off, none⟩) xs.length c, .string s, .string p, .int .i64 k] w0 (RL w0) := by
  refine calls_readR (E := EL rest) rfl (args := [.sl 0 off xs.length (some c), .v (.string s), .v (.string p), .v (.int .i64 k)]) (a := [.slice (some ⟨b, off, none⟩) xs.length c, .string s, .string p, .int .i64 k]) (d := 6) (l := [(b, 0)]) (os := [.look (rowsAt rowC off xs)]) rfl (by simp) (by simp) ?_ rfl (S0 := entL (EL rest) off xs xs.length c s p k) (by kernel_rfl)
    (VRL.cons (VR.sl_iff.2 ⟨(b, 0), rfl, hlc, rfl⟩) (VRL.lits _ [.string s, .string p, .int .i64 k])) fun cs0 => ?_
  · intro i o' b' c' e1 e2
    match i with
    | 0 =>
      simp only [List.getElem?_cons_zero, Option.some.injEq, Prod.mk.injEq] at e1 e2
      obtain ⟨rfl, rfl⟩ := e2
      subst e1
      exact ⟨_, hb, rowsAt_look rowCV hoff hc⟩
    | i + 1 => simp at e1
  · have hend : Goes (EL rest) (layOwn [(b, 0)] [(SO.look (rowsAt rowC off xs), false)]) w0 cs0 3 (RL w0) (layVal [(b, 0)]) (SM.at (hd1 off xs.length c s p k (sumR (IntKind.i64.wrap ((s.size : Int) + (p.size : Int))) xs) xs.length) 6 [look off xs]) := by
      have t1 : decide (((xs.length : Nat) : Int) < (xs.length : Int)) = false := decide_eq_false (by omega)
      by_cases hz : sumR (IntKind.i64.wrap ((s.size : Int) + (p.size : Int))) xs > 5000
      · refine goes_due (KL hrest none1 hm) none1 (n := 60) (o := (ff [0] false ++ ff [1, 2, 3, 4, 5] true)) (v := .bool true) ⟨?_⟩ fun w' hw => ⟨rfl, hw⟩
        rw [v2]
        simp only [Owed, t1, decide_eq_true hz, and_self]
      · by_cases hL : (xs.length : Int) > 200
        · refine goes_due (KL hrest none1 hm) none1 (n := 60) (o := (ff [0, 1, 2, 3, 4] false ++ ff [5] true)) (v := .bool true) ⟨?_⟩ fun w' hw => ⟨rfl, hw⟩
          rw [v3]
          simp only [Owed, t1, decide_eq_false hz, decide_eq_true hL, and_self]
        · have hw : IntKind.i64.wrap ((s.size : Int) + (p.size : Int)) = (s.size : Int) + (p.size : Int) := wi (by omega)
          have hs := sumR_eq xs (IntKind.i64.wrap ((s.size : Int) + (p.size : Int))) (by rw [hw]; omega) (by rw [hw]; omega) h3
          have F : Fine s p xs := ⟨hz, hL, by omega, fun r hr => by have := hs.2 r hr; omega⟩
          exact hmid cs0 0 F (loopL2 hrest hm (by omega) xs.length 0 (by omega) fun r hr => by simp at hr)
    have nx := loopL1 hrest hm hl hend xs.length 0 (by omega)
    refine Goes.reach (KL hrest none1 hm) (k := 2) (n := 60) (o := [(1000, .b true)]) (ren := [(0, 0)]) (eqs := [0]) (F := hd1 off xs.length c s p k (IntKind.i64.wrap ((s.size : Int) + (p.size : Int))) 0) (d := 6) (l := [look off xs]) ?_ (by kernel_rfl) (fun i b h => by rw [lay1 h]; rfl) nx
    rw [v0]
    simp only [Owed, rows_closed, and_self]
end
theorem take_len {α : Type} (l : List α) (n : Nat) : l.take n = l.take (l.take n).length := by
  rw [List.length_take]
  by_cases h : n ≤ l.length
  · rw [Nat.min_eq_left h]
  · rw [Nat.min_eq_right (by omega), List.take_of_length_le (by omega), List.take_length]
theorem law_all {w0 : World} {s p : ByteArray} {k : Int} {xs : List RowT} {off c b : Nat} (hm : MX w0) {cs : Array Value} {e : TypeId} {fz : Nat × Nat} (hb : w0.heap[b]? = some (.cells cs e fz)) (hoff : off ≤ cs.size)
    (hc : ∀ (k : Nat) (v : Value), (xs.flatMap rowV)[k]? = some v → cs[off + k]? = some v) (hlc : xs.length ≤ c) (hl : xs.length ≤ 9223372036854775807) (h1 : s.size ≤ 140737488355328) (h2 : p.size ≤ 140737488355328) (h3 : ∀ r ∈ xs, r.1.size ≤ 140737488355328) :
    Calls Tryz.prog 3 #[.slice (some ⟨b, off, none⟩) xs.length c, .string s, .string p, .int .i64 k] w0 (RL w0) := by
  have t1 : decide (((xs.length : Nat) : Int) < (xs.length : Int)) = false := decide_eq_false (by omega)
  have ok : ∀ t : ByteArray, t.size ≤ 5000 → Fine s p xs → RowsOK off xs (rowsAt rowC off xs) off xs.length t := fun t ht F => ⟨rfl, rfl, rfl, by have := F.few; omega, by omega, fun r hr => by have := F.sizes r hr; omega⟩
  have z0 : (⟨#[]⟩ : ByteArray).size ≤ 5000 := by decide
  have mm : (!(moreB s k xs == moreB s k xs)) = false := by simp
  have cm : ∀ l : List RowT, List.map SV.v (vR l) = cR l := cR_map
  by_cases hbh : behind s xs = []
  · have hpg : pageL s k xs = [] := by unfold pageL; rw [hbh]; simp
    have hrest : ∀ r ∈ lW0 off xs, SumOK Tryz.prog MX r := fun r hr => by
      simp only [lW0, List.mem_cons, List.not_mem_nil, or_false] at hr
      rcases hr with rfl | rfl | rfl
      · exact pageN_ok off xs
      · exact rpageN_ok off xs
      · exact find_ok off xs
    refine law_rows (rest := lW0 off xs) hrest hm hb hoff hc hlc hl h1 h2 h3 fun cs0 cap F nx => ?_
    refine Goes.reach (KL hrest none1 hm) (k := 2) (n := 200) (o := ff (List.range 60) false) (ren := [(0, 0), (1, 1)]) (eqs := [0]) ?_ (by kernel_rfl) (fun i b h => by rw [lay1 h]; rfl) nx
    rw [v4]
    simp only [Owed, t1, decide_eq_false F.sum, decide_eq_false F.few, ok s F.size F, ok _ z0 F, hbh, hpg, mm, rows_closed, and_self]
  by_cases hpg : pageL s k xs = []
  · have hrest : ∀ r ∈ lW1 off xs, SumOK Tryz.prog MX r := fun r hr => by
      simp only [lW1, List.mem_cons, List.not_mem_nil, or_false] at hr
      rcases hr with rfl | rfl | rfl
      · exact pageN_ok off xs
      · exact rpage_ok off xs
      · exact find_ok off xs
    refine law_rows (rest := lW1 off xs) hrest hm hb hoff hc hlc hl h1 h2 h3 fun cs0 cap F nx => ?_
    refine Goes.reach (KL hrest none1 hm) (k := 2) (n := 200) (o := ff (List.range 60) false) (ren := [(0, 0), (1, 2)]) (eqs := [0]) ?_ (by kernel_rfl) (fun i b h => by rw [lay1 h]; rfl) nx
    rw [v41]
    have hz : (!(((0 : Nat) : Int) == (((pageL s k xs).length : Nat) : Int))) = false := by rw [hpg]; rfl
    simp only [Owed, t1, decide_eq_false F.sum, decide_eq_false F.few, ok s F.size F, ok _ z0 F, hbh, hpg, hz, mm, rows_closed, ne_eq, not_false_eq_true, and_self]
    simp
  · have hrest : ∀ r ∈ lW2 off xs (pageL s k xs) (behind s xs), SumOK Tryz.prog MX r := fun r hr => by
      simp only [lW2, List.mem_cons, List.not_mem_nil, or_false] at hr
      rcases hr with rfl | rfl | rfl | rfl
      · exact page_ok off xs
      · exact rpage_ok off xs
      · exact same_ok _ _
      · exact find_ok off xs
    refine law_rows (rest := lW2 off xs (pageL s k xs) (behind s xs)) hrest hm hb hoff hc hlc hl h1 h2 h3 fun cs0 cap F nx => ?_
    refine Goes.reach (KL hrest none1 hm) (k := 2) (n := 200) (o := ff (List.range 60) false) (ren := [(0, 0), (1, 3)]) (eqs := [0]) ?_ (by kernel_rfl) (fun i b h => by rw [lay1 h]; rfl) nx
    rw [v42]
    have hlen : (pageL s k xs).length ≤ 1000 := by
      have h5 : (pageL s k xs).length ≤ (behind s xs).length := by unfold pageL; rw [List.length_take]; omega
      have h6 := behind_len s xs
      have := F.few; omega
    have htk : pageL s k xs = List.take (pageL s k xs).length (behind s xs) := take_len _ _
    simp only [Owed, t1, decide_eq_false F.sum, decide_eq_false F.few, ok s F.size F, ok _ z0 F, hbh, hpg, mm, cm, hlen, ← htk, rows_closed, ne_eq, not_false_eq_true, and_self]
theorem law_none {w0 : World} {a : Option Addr} {c : Nat} {s p : ByteArray} {k : Int} (hm : MX w0) : Calls Tryz.prog 3 #[.slice a 0 c, .string s, .string p, .int .i64 k] w0 (RL w0) := by
  have hrest : ∀ r ∈ ([] : List (FuncId × Sum)), SumOK Tryz.prog MX r := fun r hr => by cases hr
  refine calls_bareR (E := EL []) (a := [.slice a 0 c, .string s, .string p, .int .i64 k]) rfl rfl (args := [.v (.slice a 0 c), .v (.string s), .v (.string p), .v (.int .i64 k)]) (S0 := entZ a c s p k) (by kernel_rfl) (VRL.lits _ [.slice a 0 c, .string s, .string p, .int .i64 k]) fun cs0 => ?_
  by_cases hz : IntKind.i64.wrap ((s.size : Int) + (p.size : Int)) > 5000
  · refine goes_due (KL hrest not_laid hm) not_laid (n := 400) (o := ff [1, 2, 3, 4] true) (v := .bool true) ⟨?_⟩ fun w' hw => ⟨rfl, hw⟩
    rw [w0_]
    simp only [Owed, decide_eq_true hz, and_self]
  · by_cases hk : k < 0
    · refine goes_due (KL hrest not_laid hm) not_laid (n := 400) (o := (ff [1, 2, 3, 4, 5] false ++ ff [8] true ++ [(24, .eqs true)])) (v := .bool true) ⟨?_⟩ fun w' hw => ⟨rfl, hw⟩
      rw [w1_]
      simp only [Owed, decide_eq_false hz, decide_eq_true hk, and_self]
    · refine goes_due (KL hrest not_laid hm) not_laid (n := 400) (o := (ff [1, 2, 3, 4, 5, 8] false ++ ff [9] true ++ [(24, .eqs true)])) (v := .bool true) ⟨?_⟩ fun w' hw => ⟨rfl, hw⟩
      rw [w2_]
      have hk' : decide (k ≥ ((0 : Nat) : Int)) = true := decide_eq_true (by omega)
      simp only [Owed, decide_eq_false hz, decide_eq_false hk, hk', and_self]
end paths
end Go.Proofs.YtjhmpmhkppglnaaGreat
