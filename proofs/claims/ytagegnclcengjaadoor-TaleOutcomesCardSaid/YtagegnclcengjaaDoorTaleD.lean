/- tale's words told back (tale.Unpath): its contract. By an AI agent. -/
import Derived.Test.YtagegnclcengjaaDoorTaleC
namespace Go.Proofs.YtagegnclcengjaaDoor
open Go Go.Rx Go.RowKit
set_option linter.unusedVariables false
set_option linter.unusedSimpArgs false
set_option maxRecDepth 100000
namespace words
/-- Does a call come to this number? -/
def okInt (E : Env) (f : FuncId) (n : Nat) (S : SM) (k : Int) : Bool := match goS E SM.over n (S.with []) with
  | some T => match endS E f T with
    | some (.v (.int .i64 x), s') => x == k && s'.obl.isEmpty
    | _ => false
  | none => false
theorem Goes.okInt {E : Env} {ν : Val} {M : Own} {w0 : World} {cs0 : List Frame} {f : FuncId} {R : Ending → World → Prop} (K : Facts E M w0) {n : Nat} {S : SM} {k : Int} (h : words.okInt E f n S k = true)
    (hR : ∀ ν' M1 w1 s' w', ν.Le ν' → Base M w0 M1 w1 → HR ν' M1 w1 s' w' → R (.returned (.int .i64 k)) w') : Goes E M w0 cs0 f R ν S := by
  unfold words.okInt at h
  split at h
  · rename_i T hT
    split at h
    · rename_i x s' hend
      rw [Bool.and_eq_true] at h
      obtain rfl : x = k := by simpa using h.1
      have ob : s'.ob := by
        show Owed s'.obl
        rw [List.isEmpty_iff.1 h.2]; trivial
      refine Goes.go K hT (resultsS_mono' hend ob) (Goes.done hend ob fun ν' M1 w1 w' u hle hB hv hr hg => ?_)
      rw [VR.v_iff.1 hv]
      exact hR ν' M1 w1 s' w' hle hB hr
    · cases h
  · cases h
/-- A hex digit's number, or none. -/
def digI (n : Nat) : Int := if 48 ≤ n ∧ n ≤ 57 then (n : Int) - 48 else if 97 ≤ n ∧ n ≤ 102 then (n : Int) - 87 else -1
theorem idx_tab : (List.range 256).all (fun n => okInt E0 16 200 (entE E0 16 [.v (.string hexes), .v (.int .u8 (Int.ofNat n))]) (digI n)) = true := by kernel_rfl
def idxPS : PS := fun args => match args with | [.string s, .int .u8 c] => some (.int .i64 (digI c.toNat), s = hexes ∧ 0 ≤ c ∧ c < 256) | _ => none
theorem idx_ok : PureOK Tryd.prog (fun _ => True) (16, idxPS) := by
  refine ⟨⟨_, Tryd.func16, by kernel_rfl, by kernel_rfl⟩, fun args v p h hp w hX => ?_⟩
  dsimp only [idxPS] at h
  split at h
  · rename_i s c
    cases h
    obtain ⟨rfl, h0, h1⟩ := hp
    have ht := List.all_eq_true.1 idx_tab c.toNat (List.mem_range.2 (by omega))
    have hc : Int.ofNat c.toNat = c := Int.toNat_of_nonneg h0
    rw [hc] at ht
    refine (calls_bare (E := E0) rfl rfl (Q := fun v => v = .int .i64 (digI c.toNat)) (args := [.v (.string hexes), .v (.int .u8 c)]) (a := [.string hexes, .int .u8 c]) w (S0 := entE E0 16 [.v (.string hexes), .v (.int .u8 c)]) (by kernel_rfl) (VRL.cons (VR.v_iff.2 rfl) (VRL.cons (VR.v_iff.2 rfl) VRL.nil)) fun cs0 => ?_).mono fun e w' ⟨h1, u, h2, h3⟩ => ⟨h1, by rw [h2, h3]⟩
    refine Goes.okInt K0 (n := 200) (k := digI c.toNat) ?_ ?_
    · with_reducible exact ht
    · intro ν' M1 w1 s' w' _ hB hr
      exact ⟨below_of not_laid hB hr, _, rfl, rfl⟩
  · cases h
noncomputable def E3 : Env := EP [(7, pathPS), (16, idxPS)] []
theorem K3 {M : Own} {w0 : World} : Facts E3 M w0 := factsP0 fun r h => by
  simp only [List.mem_cons, List.not_mem_nil, or_false] at h
  rcases h with rfl | rfl
  · exact pathT_ok
  · exact idx_ok
noncomputable def todoU : List SI := todoL E3 2 60 (entE E3 8 [.v (.string ⟨#[]⟩)]) []
noncomputable def hdU (p : ByteArray) (b : SV) (i : Int) : SF := { fn := 8, tm := tmOf 62 6 ([.v (.string p), .junk, .junk, .junk, b, .v (.int .i64 i)] ++ List.replicate 56 .junk), todo := todoU, defers := [], ret := false, kind := .normal, ro := none }
def un1 (l : List SV) : List (Option (SO × Bool)) := [some (.row l 5 (0, 0) (some 1), true)]
def G6 (t : Bool) : List (Nat × Ans) := [(2, .b t), (3, .b t), (4, .b t), (5, .b t), (6, .b t), (7, .b t)]
theorem u0 (p : ByteArray) : reach E3 2 60 (entE E3 8 [.v (.string p)]) [(1000, .b true)] [] [] (hdU p (.v (.slice none 0 0)) 0) 6 [] = [
  Value.string p = Value.string p,
  Value.slice none (0 : Nat) (0 : Nat) = Value.slice none (0 : Nat) (0 : Nat),
  Value.int IntKind.i64 (0 : Int) = Value.int IntKind.i64 (0 : Int)] := by kernel_rfl
theorem u1 (p : ByteArray) (i i' : Int) (l' : List SV) : reach E3 2 200 (SM.at (hdU p (.v (.slice none 0 0)) i) 6 []) ([(0, .b true)] ++ G6 false) [(0, 1)] [0] (hdU p (.sl 0 0 1 none) i') 6 (un1 l') = [
  Value.string p = Value.string p,
  (0 : Nat) = (0 : Nat) ∧ (1 : Nat) = (1 : Nat) ∧ (none : Option Nat) = none,
  Value.int IntKind.i64 (IntKind.i64.wrap (i + (1 : Int))) = Value.int IntKind.i64 i',
  [] ++
   List.take (1 : Nat)
   (List.drop (0 : Nat)
   (splice
   (List.replicate (1 : Nat)
   (List.map SV.v { toList := [Value.int IntKind.u8 (0 : Int)] : Array Value }.toList)).flatten
   (0 : Nat) [SV.v (Value.int IntKind.u8 (↑(p.data.getD i.toNat (0 : UInt8)).toNat : Int))])) =
   l',
  l'.all closedSV = true,
  ((↑(p.data.getD i.toNat (0 : UInt8)).toNat : Int) == (92 : Int)) = false,
  ((↑(p.data.getD i.toNat (0 : UInt8)).toNat : Int) == (92 : Int)) = false,
  ((↑(p.data.getD i.toNat (0 : UInt8)).toNat : Int) == (92 : Int)) = false,
  ((↑(p.data.getD i.toNat (0 : UInt8)).toNat : Int) == (92 : Int)) = false,
  ((↑(p.data.getD i.toNat (0 : UInt8)).toNat : Int) == (92 : Int)) = false,
  ((↑(p.data.getD i.toNat (0 : UInt8)).toNat : Int) == (92 : Int)) = false,
  inRange i p.size = true,
  decide (i < (↑p.size : Int)) = true] := by kernel_rfl
theorem u2 (p : ByteArray) (i i' : Int) (l' : List SV) : reach E3 2 200 (SM.at (hdU p (.v (.slice none 0 0)) i) 6 []) ([(0, .b true)] ++ G6 true ++ [(8, .b true)]) [(0, 1)] [0] (hdU p (.sl 0 0 1 none) i') 6 (un1 l') = [
  Value.string p = Value.string p,
  (0 : Nat) = (0 : Nat) ∧ (1 : Nat) = (1 : Nat) ∧ (none : Option Nat) = none,
  Value.int IntKind.i64 (IntKind.i64.wrap (IntKind.i64.wrap (i + (2 : Int)) + (1 : Int))) = Value.int IntKind.i64 i',
  [] ++
   List.take (1 : Nat)
   (List.drop (0 : Nat)
   (splice
   (List.replicate (1 : Nat)
   (List.map SV.v { toList := [Value.int IntKind.u8 (0 : Int)] : Array Value }.toList)).flatten
   (0 : Nat)
   [SV.v
   (Value.int IntKind.u8
   (IntKind.u8.wrap
   (IntKind.i64.wrap
   (↑(BitVec.ofInt (64 : Nat)
   (IntKind.i64.wrap
   ((if
   (0 : Int) >
   digI
   (↑(p.data.getD (IntKind.i64.wrap (i + (1 : Int))).toNat (0 : UInt8)).toNat :
   Int).toNat then
   (0 : Int)
   else
   digI
   (↑(p.data.getD (IntKind.i64.wrap (i + (1 : Int))).toNat (0 : UInt8)).toNat :
   Int).toNat) *
   (2 : Int) ^ (4 : Nat))) |||
   BitVec.ofInt (64 : Nat)
   (if
   (0 : Int) >
   digI
   (↑(p.data.getD (IntKind.i64.wrap (i + (2 : Int))).toNat (0 : UInt8)).toNat :
   Int).toNat then
   (0 : Int)
   else
   digI
   (↑(p.data.getD (IntKind.i64.wrap (i + (2 : Int))).toNat (0 : UInt8)).toNat :
   Int).toNat)).toNat :
   Int))))])) =
   l',
  l'.all closedSV = true,
  {
   data :=
   {
   toList :=
   [(48 : UInt8), (49 : UInt8), (50 : UInt8), (51 : UInt8), (52 : UInt8), (53 : UInt8), (54 : UInt8),
   (55 : UInt8), (56 : UInt8), (57 : UInt8), (97 : UInt8), (98 : UInt8), (99 : UInt8), (100 : UInt8),
   (101 : UInt8), (102 : UInt8)] :
   Array UInt8 } :
   ByteArray } =
   hexes ∧
   (0 : Int) ≤ (↑(p.data.getD (IntKind.i64.wrap (i + (2 : Int))).toNat (0 : UInt8)).toNat : Int) ∧
   (↑(p.data.getD (IntKind.i64.wrap (i + (2 : Int))).toNat (0 : UInt8)).toNat : Int) < (256 : Int),
  {
   data :=
   {
   toList :=
   [(48 : UInt8), (49 : UInt8), (50 : UInt8), (51 : UInt8), (52 : UInt8), (53 : UInt8), (54 : UInt8),
   (55 : UInt8), (56 : UInt8), (57 : UInt8), (97 : UInt8), (98 : UInt8), (99 : UInt8), (100 : UInt8),
   (101 : UInt8), (102 : UInt8)] :
   Array UInt8 } :
   ByteArray } =
   hexes ∧
   (0 : Int) ≤ (↑(p.data.getD (IntKind.i64.wrap (i + (1 : Int))).toNat (0 : UInt8)).toNat : Int) ∧
   (↑(p.data.getD (IntKind.i64.wrap (i + (1 : Int))).toNat (0 : UInt8)).toNat : Int) < (256 : Int),
  inRange (IntKind.i64.wrap (i + (2 : Int))) p.size = true,
  inRange (IntKind.i64.wrap (i + (1 : Int))) p.size = true,
  decide (IntKind.i64.wrap (i + (2 : Int)) < (↑p.size : Int)) = true,
  ((↑(p.data.getD i.toNat (0 : UInt8)).toNat : Int) == (92 : Int)) = true,
  ((↑(p.data.getD i.toNat (0 : UInt8)).toNat : Int) == (92 : Int)) = true,
  ((↑(p.data.getD i.toNat (0 : UInt8)).toNat : Int) == (92 : Int)) = true,
  ((↑(p.data.getD i.toNat (0 : UInt8)).toNat : Int) == (92 : Int)) = true,
  ((↑(p.data.getD i.toNat (0 : UInt8)).toNat : Int) == (92 : Int)) = true,
  ((↑(p.data.getD i.toNat (0 : UInt8)).toNat : Int) == (92 : Int)) = true,
  inRange i p.size = true,
  decide (i < (↑p.size : Int)) = true] := by kernel_rfl
theorem u3 (p : ByteArray) (i i' : Int) (l' : List SV) : reach E3 2 200 (SM.at (hdU p (.v (.slice none 0 0)) i) 6 []) ([(0, .b true)] ++ G6 true ++ [(8, .b false)]) [(0, 1)] [0] (hdU p (.sl 0 0 1 none) i') 6 (un1 l') = [
  Value.string p = Value.string p,
  (0 : Nat) = (0 : Nat) ∧ (1 : Nat) = (1 : Nat) ∧ (none : Option Nat) = none,
  Value.int IntKind.i64 (IntKind.i64.wrap (i + (1 : Int))) = Value.int IntKind.i64 i',
  [] ++
   List.take (1 : Nat)
   (List.drop (0 : Nat)
   (splice
   (List.replicate (1 : Nat)
   (List.map SV.v { toList := [Value.int IntKind.u8 (0 : Int)] : Array Value }.toList)).flatten
   (0 : Nat) [SV.v (Value.int IntKind.u8 (↑(p.data.getD i.toNat (0 : UInt8)).toNat : Int))])) =
   l',
  l'.all closedSV = true,
  decide (IntKind.i64.wrap (i + (2 : Int)) < (↑p.size : Int)) = false,
  ((↑(p.data.getD i.toNat (0 : UInt8)).toNat : Int) == (92 : Int)) = true,
  ((↑(p.data.getD i.toNat (0 : UInt8)).toNat : Int) == (92 : Int)) = true,
  ((↑(p.data.getD i.toNat (0 : UInt8)).toNat : Int) == (92 : Int)) = true,
  ((↑(p.data.getD i.toNat (0 : UInt8)).toNat : Int) == (92 : Int)) = true,
  ((↑(p.data.getD i.toNat (0 : UInt8)).toNat : Int) == (92 : Int)) = true,
  ((↑(p.data.getD i.toNat (0 : UInt8)).toNat : Int) == (92 : Int)) = true,
  inRange i p.size = true,
  decide (i < (↑p.size : Int)) = true] := by kernel_rfl
theorem u4 (p : ByteArray) (i i' : Int) (n : Nat) (l l' w : List SV) : reach E3 2 200 (SM.at (hdU p (.sl 0 0 n none) i) 6 (un1 l)) ([(0, .b true)] ++ G6 false ++ [(9, .app l w)]) [(0, 2)] [0] (hdU p (.sl 0 0 (n + 1) none) i') 6 (un1 l') = [
  Value.string p = Value.string p,
  (0 : Nat) = (0 : Nat) ∧ n + (1 : Nat) = n + (1 : Nat) ∧ (none : Option Nat) = none,
  Value.int IntKind.i64 (IntKind.i64.wrap (i + (1 : Int))) = Value.int IntKind.i64 i',
  l ++ w = l',
  l'.all closedSV = true,
  ((List.take (1 : Nat)
   (List.drop (0 : Nat)
   (splice
   (List.replicate (1 : Nat)
   (List.map SV.v { toList := [Value.int IntKind.u8 (0 : Int)] : Array Value }.toList)).flatten
   (0 : Nat) [SV.v (Value.int IntKind.u8 (↑(p.data.getD i.toNat (0 : UInt8)).toNat : Int))])) =
   w ∧
   w.length = (1 : Nat) * (1 : Nat)) ∧
   (1 : Nat) ≠ (0 : Nat) ∧ ((2 : Nat) * (n + (1 : Nat)) + (1024 : Nat)) * (1 : Nat) ≤ (140737488355328 : Nat)) ∧
   List.take (n * (1 : Nat)) l = l ∧ l.length = n * (1 : Nat) ∧ w.all SV.flat = true,
  ((↑(p.data.getD i.toNat (0 : UInt8)).toNat : Int) == (92 : Int)) = false,
  ((↑(p.data.getD i.toNat (0 : UInt8)).toNat : Int) == (92 : Int)) = false,
  ((↑(p.data.getD i.toNat (0 : UInt8)).toNat : Int) == (92 : Int)) = false,
  ((↑(p.data.getD i.toNat (0 : UInt8)).toNat : Int) == (92 : Int)) = false,
  ((↑(p.data.getD i.toNat (0 : UInt8)).toNat : Int) == (92 : Int)) = false,
  ((↑(p.data.getD i.toNat (0 : UInt8)).toNat : Int) == (92 : Int)) = false,
  inRange i p.size = true,
  decide (i < (↑p.size : Int)) = true] := by kernel_rfl
theorem u5 (p : ByteArray) (i i' : Int) (n : Nat) (l l' w : List SV) : reach E3 2 200 (SM.at (hdU p (.sl 0 0 n none) i) 6 (un1 l)) ([(0, .b true)] ++ G6 true ++ [(8, .b true), (13, .app l w)]) [(0, 2)] [0] (hdU p (.sl 0 0 (n + 1) none) i') 6 (un1 l') = [
  Value.string p = Value.string p,
  (0 : Nat) = (0 : Nat) ∧ n + (1 : Nat) = n + (1 : Nat) ∧ (none : Option Nat) = none,
  Value.int IntKind.i64 (IntKind.i64.wrap (IntKind.i64.wrap (i + (2 : Int)) + (1 : Int))) = Value.int IntKind.i64 i',
  l ++ w = l',
  l'.all closedSV = true,
  ((List.take (1 : Nat)
   (List.drop (0 : Nat)
   (splice
   (List.replicate (1 : Nat)
   (List.map SV.v { toList := [Value.int IntKind.u8 (0 : Int)] : Array Value }.toList)).flatten
   (0 : Nat)
   [SV.v
   (Value.int IntKind.u8
   (IntKind.u8.wrap
   (IntKind.i64.wrap
   (↑(BitVec.ofInt (64 : Nat)
   (IntKind.i64.wrap
   ((if
   (0 : Int) >
   digI
   (↑(p.data.getD (IntKind.i64.wrap (i + (1 : Int))).toNat
   (0 : UInt8)).toNat :
   Int).toNat then
   (0 : Int)
   else
   digI
   (↑(p.data.getD (IntKind.i64.wrap (i + (1 : Int))).toNat (0 : UInt8)).toNat :
   Int).toNat) *
   (2 : Int) ^ (4 : Nat))) |||
   BitVec.ofInt (64 : Nat)
   (if
   (0 : Int) >
   digI
   (↑(p.data.getD (IntKind.i64.wrap (i + (2 : Int))).toNat (0 : UInt8)).toNat :
   Int).toNat then
   (0 : Int)
   else
   digI
   (↑(p.data.getD (IntKind.i64.wrap (i + (2 : Int))).toNat (0 : UInt8)).toNat :
   Int).toNat)).toNat :
   Int))))])) =
   w ∧
   w.length = (1 : Nat) * (1 : Nat)) ∧
   (1 : Nat) ≠ (0 : Nat) ∧ ((2 : Nat) * (n + (1 : Nat)) + (1024 : Nat)) * (1 : Nat) ≤ (140737488355328 : Nat)) ∧
   List.take (n * (1 : Nat)) l = l ∧ l.length = n * (1 : Nat) ∧ w.all SV.flat = true,
  {
   data :=
   {
   toList :=
   [(48 : UInt8), (49 : UInt8), (50 : UInt8), (51 : UInt8), (52 : UInt8), (53 : UInt8), (54 : UInt8),
   (55 : UInt8), (56 : UInt8), (57 : UInt8), (97 : UInt8), (98 : UInt8), (99 : UInt8), (100 : UInt8),
   (101 : UInt8), (102 : UInt8)] :
   Array UInt8 } :
   ByteArray } =
   hexes ∧
   (0 : Int) ≤ (↑(p.data.getD (IntKind.i64.wrap (i + (2 : Int))).toNat (0 : UInt8)).toNat : Int) ∧
   (↑(p.data.getD (IntKind.i64.wrap (i + (2 : Int))).toNat (0 : UInt8)).toNat : Int) < (256 : Int),
  {
   data :=
   {
   toList :=
   [(48 : UInt8), (49 : UInt8), (50 : UInt8), (51 : UInt8), (52 : UInt8), (53 : UInt8), (54 : UInt8),
   (55 : UInt8), (56 : UInt8), (57 : UInt8), (97 : UInt8), (98 : UInt8), (99 : UInt8), (100 : UInt8),
   (101 : UInt8), (102 : UInt8)] :
   Array UInt8 } :
   ByteArray } =
   hexes ∧
   (0 : Int) ≤ (↑(p.data.getD (IntKind.i64.wrap (i + (1 : Int))).toNat (0 : UInt8)).toNat : Int) ∧
   (↑(p.data.getD (IntKind.i64.wrap (i + (1 : Int))).toNat (0 : UInt8)).toNat : Int) < (256 : Int),
  inRange (IntKind.i64.wrap (i + (2 : Int))) p.size = true,
  inRange (IntKind.i64.wrap (i + (1 : Int))) p.size = true,
  decide (IntKind.i64.wrap (i + (2 : Int)) < (↑p.size : Int)) = true,
  ((↑(p.data.getD i.toNat (0 : UInt8)).toNat : Int) == (92 : Int)) = true,
  ((↑(p.data.getD i.toNat (0 : UInt8)).toNat : Int) == (92 : Int)) = true,
  ((↑(p.data.getD i.toNat (0 : UInt8)).toNat : Int) == (92 : Int)) = true,
  ((↑(p.data.getD i.toNat (0 : UInt8)).toNat : Int) == (92 : Int)) = true,
  ((↑(p.data.getD i.toNat (0 : UInt8)).toNat : Int) == (92 : Int)) = true,
  ((↑(p.data.getD i.toNat (0 : UInt8)).toNat : Int) == (92 : Int)) = true,
  inRange i p.size = true,
  decide (i < (↑p.size : Int)) = true] := by kernel_rfl
theorem u6 (p : ByteArray) (i i' : Int) (n : Nat) (l l' w : List SV) : reach E3 2 200 (SM.at (hdU p (.sl 0 0 n none) i) 6 (un1 l)) ([(0, .b true)] ++ G6 true ++ [(8, .b false), (9, .app l w)]) [(0, 2)] [0] (hdU p (.sl 0 0 (n + 1) none) i') 6 (un1 l') = [
  Value.string p = Value.string p,
  (0 : Nat) = (0 : Nat) ∧ n + (1 : Nat) = n + (1 : Nat) ∧ (none : Option Nat) = none,
  Value.int IntKind.i64 (IntKind.i64.wrap (i + (1 : Int))) = Value.int IntKind.i64 i',
  l ++ w = l',
  l'.all closedSV = true,
  ((List.take (1 : Nat)
   (List.drop (0 : Nat)
   (splice
   (List.replicate (1 : Nat)
   (List.map SV.v { toList := [Value.int IntKind.u8 (0 : Int)] : Array Value }.toList)).flatten
   (0 : Nat) [SV.v (Value.int IntKind.u8 (↑(p.data.getD i.toNat (0 : UInt8)).toNat : Int))])) =
   w ∧
   w.length = (1 : Nat) * (1 : Nat)) ∧
   (1 : Nat) ≠ (0 : Nat) ∧ ((2 : Nat) * (n + (1 : Nat)) + (1024 : Nat)) * (1 : Nat) ≤ (140737488355328 : Nat)) ∧
   List.take (n * (1 : Nat)) l = l ∧ l.length = n * (1 : Nat) ∧ w.all SV.flat = true,
  decide (IntKind.i64.wrap (i + (2 : Int)) < (↑p.size : Int)) = false,
  ((↑(p.data.getD i.toNat (0 : UInt8)).toNat : Int) == (92 : Int)) = true,
  ((↑(p.data.getD i.toNat (0 : UInt8)).toNat : Int) == (92 : Int)) = true,
  ((↑(p.data.getD i.toNat (0 : UInt8)).toNat : Int) == (92 : Int)) = true,
  ((↑(p.data.getD i.toNat (0 : UInt8)).toNat : Int) == (92 : Int)) = true,
  ((↑(p.data.getD i.toNat (0 : UInt8)).toNat : Int) == (92 : Int)) = true,
  ((↑(p.data.getD i.toNat (0 : UInt8)).toNat : Int) == (92 : Int)) = true,
  inRange i p.size = true,
  decide (i < (↑p.size : Int)) = true] := by kernel_rfl
theorem u7 (p : ByteArray) (i : Int) (v : Value) : endsV E3 8 200 (SM.at (hdU p (.v (.slice none 0 0)) i) 6 []) ([(0, .b false), (1, .b false), (2, .b false), (3, .b false), (4, .b false), (5, .b false), (6, .b false)]) v = [
  Value.tuple
   { toList := [Value.string { data := { toList := [] : Array UInt8 } : ByteArray }, Value.bool false] :
   Array Value } =
   v,
  false = false,
  (!p.toList == { data := { toList := [] : Array UInt8 } : ByteArray }.toList) = false,
  (!p.toList == { data := { toList := [] : Array UInt8 } : ByteArray }.toList) = false,
  (!p.toList == { data := { toList := [] : Array UInt8 } : ByteArray }.toList) = false,
  (!p.toList == { data := { toList := [] : Array UInt8 } : ByteArray }.toList) = false,
  (!p.toList == { data := { toList := [] : Array UInt8 } : ByteArray }.toList) = false,
  decide (i < (↑p.size : Int)) = false] := by kernel_rfl
theorem u8 (p : ByteArray) (i : Int) (n : Nat) (l : List SV) (b : ByteArray) (v : Value) : endsV E3 8 200 (SM.at (hdU p (.sl 0 0 n none) i) 6 (un1 l)) ([(0, .b false), (1, .str b), (2, .b true), (3, .b true), (5, .b true), (6, .b true), (7, .b true), (8, .b true)]) v = [
  Value.tuple { toList := [Value.string b, Value.bool true] : Array Value } = v,
  ((mkS (pathL b.data.toList)).toList == p.toList) = true,
  (!p.toList == { data := { toList := [] : Array UInt8 } : ByteArray }.toList) = true,
  (!p.toList == { data := { toList := [] : Array UInt8 } : ByteArray }.toList) = true,
  (!p.toList == { data := { toList := [] : Array UInt8 } : ByteArray }.toList) = true,
  b.size.le (1000000000 : Nat),
  (!p.toList == { data := { toList := [] : Array UInt8 } : ByteArray }.toList) = true,
  (!p.toList == { data := { toList := [] : Array UInt8 } : ByteArray }.toList) = true,
  List.take n (List.drop (0 : Nat) l) = List.map (fun c => SV.v (Value.int IntKind.u8 (↑c.toNat : Int))) b.data.toList ∧
   b.size = n,
  decide (i < (↑p.size : Int)) = false] := by kernel_rfl
theorem u9 (p : ByteArray) (i : Int) (n : Nat) (l : List SV) (b : ByteArray) (v : Value) : endsV E3 8 200 (SM.at (hdU p (.sl 0 0 n none) i) 6 (un1 l)) ([(0, .b false), (1, .str b), (2, .b true), (3, .b true), (5, .b true), (6, .b true), (7, .b true), (8, .b false)]) v = [
  Value.tuple
   { toList := [Value.string { data := { toList := [] : Array UInt8 } : ByteArray }, Value.bool false] :
   Array Value } =
   v,
  ((mkS (pathL b.data.toList)).toList == p.toList) = false,
  (!p.toList == { data := { toList := [] : Array UInt8 } : ByteArray }.toList) = true,
  (!p.toList == { data := { toList := [] : Array UInt8 } : ByteArray }.toList) = true,
  (!p.toList == { data := { toList := [] : Array UInt8 } : ByteArray }.toList) = true,
  b.size.le (1000000000 : Nat),
  (!p.toList == { data := { toList := [] : Array UInt8 } : ByteArray }.toList) = true,
  (!p.toList == { data := { toList := [] : Array UInt8 } : ByteArray }.toList) = true,
  List.take n (List.drop (0 : Nat) l) = List.map (fun c => SV.v (Value.int IntKind.u8 (↑c.toNat : Int))) b.data.toList ∧
   b.size = n,
  decide (i < (↑p.size : Int)) = false] := by kernel_rfl
/-- A hex digit's number, or 0. -/
def hv (n : Nat) : Nat := (digI n).toNat
theorem hv_if (n : Nat) : (if (0 : Int) > digI n then (0 : Int) else digI n) = (hv n : Int) := by unfold hv; split <;> omega
theorem hv_lt (n : Nat) : hv n < 16 := by unfold hv digI; split <;> (try split) <;> omega
theorem or_tab : (List.range 16).all (fun x => (List.range 16).all fun y => decide (IntKind.u8.wrap (IntKind.i64.wrap (((BitVec.ofInt 64 (IntKind.i64.wrap ((x : Int) * (2 : Int) ^ (4 : Nat))) ||| BitVec.ofInt 64 (y : Int)).toNat : Nat) : Int)) = ((x * 16 + y : Nat) : Int))) = true := by kernel_rfl
theorem or_at {x y : Nat} (hx : x < 16) (hy : y < 16) : IntKind.u8.wrap (IntKind.i64.wrap (((BitVec.ofInt 64 (IntKind.i64.wrap ((x : Int) * (2 : Int) ^ (4 : Nat))) ||| BitVec.ofInt 64 (y : Int)).toNat : Nat) : Int)) = ((x * 16 + y : Nat) : Int) :=
  of_decide_eq_true (List.all_eq_true.1 (List.all_eq_true.1 or_tab x (List.mem_range.2 hx)) y (List.mem_range.2 hy))
def dec2 (a b : UInt8) : UInt8 := UInt8.ofNat (hv a.toNat * 16 + hv b.toNat)
theorem dec2_nat (a b : UInt8) : (dec2 a b).toNat = hv a.toNat * 16 + hv b.toNat := by
  have h1 := hv_lt a.toNat
  have h2 := hv_lt b.toNat
  unfold dec2; rw [UInt8.toNat_ofNat']; omega
/-- What a word says. -/
def unL : List UInt8 → List UInt8
  | [] => []
  | c :: r => if c = 92 then match r with
      | a :: b :: r' => dec2 a b :: unL r'
      | [] => [c]
      | [a] => [c, a]
    else c :: unL r
theorem unL_cons (c : UInt8) (r : List UInt8) : unL (c :: r) = if c = 92 then (match r with
      | a :: b :: r' => dec2 a b :: unL r'
      | [] => [c]
      | [a] => [c, a])
    else c :: unL r := by rw [unL.eq_def]
theorem unL_one (a : UInt8) : unL [a] = [a] := by
  rw [unL_cons]; split <;> simp [unL]
/-- The writer of a word's text. -/
noncomputable def stU (p : ByteArray) (s : List UInt8) (i : Nat) : SM := match s with
  | [] => SM.at (hdU p (.v (.slice none 0 0)) i) 6 []
  | _ :: _ => SM.at (hdU p (.sl 0 0 s.length none) i) 6 (un1 (cB s))
theorem stU_ne {p : ByteArray} {s : List UInt8} {i : Nat} (h : s ≠ []) : stU p s i = SM.at (hdU p (.sl 0 0 s.length none) i) 6 (un1 (cB s)) := by
  cases s with
  | nil => exact absurd rfl h
  | cons a l => rfl
theorem stU_nil {p : ByteArray} {i : Nat} : stU p [] i = SM.at (hdU p (.v (.slice none 0 0)) i) 6 [] := rfl
theorem snoc_ne {α : Type} (s : List α) (c : α) : s ++ [c] ≠ [] := by simp
theorem byte_ne {c : UInt8} (h : c ≠ 92) : ((c.toNat : Int) == 92) = false := by
  have : c.toNat ≠ 92 := fun e => h (UInt8.toNat_inj.1 e)
  simp; omega
theorem wrap_add {k m : Nat} (h : k + m < 9223372036854775807) : IntKind.i64.wrap ((k : Int) + (m : Int)) = ((k + m : Nat) : Int) := by rw [IntWalk.i64_in _ (by omega)]; omega
section
variable {M : Own} {w0 : World} {cs0 : List Frame} {R : Ending → World → Prop} {ν : Val} {l : List UInt8}
theorem stepU1 (hν : ∀ i b, ν i = some b → False) (hl : l.length ≤ 1000000000) {k : Nat} (hlt : k < l.length) {s : List UInt8} (hs : s.length ≤ 1000000000) (hc : l[k] ≠ 92)
    (hn : Goes E3 M w0 cs0 8 R ν (stU (mkS l) (s ++ [l[k]]) (k + 1))) : Goes E3 M w0 cs0 8 R ν (stU (mkS l) s k) := by
  have hx : (mkS l).data.getD k 0 = l[k] := by rw [mkS_at]; simp [hlt]
  have h256 : l[k].toNat < 256 := UInt8.toNat_lt _
  have hws := wrap_succ (k := k) (by omega)
  rw [stU_ne (snoc_ne _ _)] at hn
  cases s with
  | nil =>
    rw [stU_nil]
    refine Goes.reach K3 (k := 2) (n := 200) (F := hdU (mkS l) (.sl 0 0 1 none) ((k + 1 : Nat) : Int)) (d := 6) (o := [(0, .b true)] ++ G6 false) (ren := [(0, 1)]) (eqs := [0]) ?_ (by kernel_rfl) (fun i b h => (hν i b h).elim) (l := un1 (cB [l[k]])) hn
    rw [u1]
    simp only [Owed, Int.toNat_natCast, hws, hx, mkS_size, byte_ne hc, true_and, and_true, cB_closed]
    repeat' apply And.intro
    all_goals first | rfl | exact in_range hlt | exact decide_eq_true (by omega) | (simp [cB]; done)
  | cons a s =>
    rw [stU_ne (List.cons_ne_nil _ _)]
    refine Goes.reach K3 (k := 2) (n := 200) (F := hdU (mkS l) (.sl 0 0 ((a :: s).length + 1) none) ((k + 1 : Nat) : Int)) (d := 6) (o := [(0, .b true)] ++ G6 false ++ [(9, .app (cB (a :: s)) (cB [l[k]]))]) (ren := [(0, 2)]) (eqs := [0]) ?_ (by kernel_rfl) (fun i b h => (hν i b h).elim) (l := un1 (cB (a :: s ++ [l[k]]))) (by rw [List.length_append] at hn; exact hn)
    rw [u4]
    simp only [Owed, Int.toNat_natCast, hws, hx, mkS_size, byte_ne hc, true_and, and_true, cB_app, one_cell, cB_closed, cB_flat, cB_len, List.all_append, Bool.and_self]
    repeat' apply And.intro
    all_goals first | rfl | exact in_range hlt | exact decide_eq_true (by omega) | omega | exact take_all (by simp [cB]) | (simp [cB]; done)
theorem stepU3 (hν : ∀ i b, ν i = some b → False) (hl : l.length ≤ 1000000000) {k : Nat} (hlt : k < l.length) {s : List UInt8} (hs : s.length ≤ 1000000000) (hc : l[k] = 92) (hk : ¬ k + 2 < l.length)
    (hn : Goes E3 M w0 cs0 8 R ν (stU (mkS l) (s ++ [l[k]]) (k + 1))) : Goes E3 M w0 cs0 8 R ν (stU (mkS l) s k) := by
  have hx : (mkS l).data.getD k 0 = l[k] := by rw [mkS_at]; simp [hlt]
  have h256 : l[k].toNat < 256 := UInt8.toNat_lt _
  have hws := wrap_succ (k := k) (by omega)
  have hw2 := wrap_add (k := k) (m := 2) (by omega)
  have hc' : ((l[k].toNat : Int) == 92) = true := by rw [hc]; rfl
  rw [stU_ne (snoc_ne _ _)] at hn
  cases s with
  | nil =>
    rw [stU_nil]
    refine Goes.reach K3 (k := 2) (n := 200) (F := hdU (mkS l) (.sl 0 0 1 none) ((k + 1 : Nat) : Int)) (d := 6) (o := [(0, .b true)] ++ G6 true ++ [(8, .b false)]) (ren := [(0, 1)]) (eqs := [0]) ?_ (by kernel_rfl) (fun i b h => (hν i b h).elim) (l := un1 (cB [l[k]])) hn
    rw [u3]
    simp only [Owed, Int.toNat_natCast, hws, hx, mkS_size, hc', true_and, and_true, cB_closed]
    repeat' apply And.intro
    all_goals first | rfl | exact in_range hlt | exact decide_eq_true (by omega) | (rw [show ((2 : Int)) = ((2 : Nat) : Int) from rfl, hw2]; exact decide_eq_false (by omega)) | (simp [cB]; done)
  | cons a s =>
    rw [stU_ne (List.cons_ne_nil _ _)]
    refine Goes.reach K3 (k := 2) (n := 200) (F := hdU (mkS l) (.sl 0 0 ((a :: s).length + 1) none) ((k + 1 : Nat) : Int)) (d := 6) (o := [(0, .b true)] ++ G6 true ++ [(8, .b false), (9, .app (cB (a :: s)) (cB [l[k]]))]) (ren := [(0, 2)]) (eqs := [0]) ?_ (by kernel_rfl) (fun i b h => (hν i b h).elim) (l := un1 (cB (a :: s ++ [l[k]]))) (by rw [List.length_append] at hn; exact hn)
    rw [u6]
    simp only [Owed, Int.toNat_natCast, hws, hx, mkS_size, hc', true_and, and_true, cB_app, one_cell, cB_closed, cB_flat, cB_len, List.all_append, Bool.and_self]
    repeat' apply And.intro
    all_goals first | rfl | exact in_range hlt | exact decide_eq_true (by omega) | omega | (rw [show ((2 : Int)) = ((2 : Nat) : Int) from rfl, hw2]; exact decide_eq_false (by omega)) | exact take_all (by simp [cB]) | (simp [cB]; done)
theorem stepU2 (hν : ∀ i b, ν i = some b → False) (hl : l.length ≤ 1000000000) {k : Nat} (hk : k + 2 < l.length) {s : List UInt8} (hs : s.length ≤ 1000000000) (hc : l[k] = 92)
    (hn : Goes E3 M w0 cs0 8 R ν (stU (mkS l) (s ++ [dec2 l[k + 1] l[k + 2]]) (k + 3))) : Goes E3 M w0 cs0 8 R ν (stU (mkS l) s k) := by
  have hlt : k < l.length := by omega
  have hx : (mkS l).data.getD k 0 = l[k] := by rw [mkS_at]; simp [hlt]
  have hx1 : (mkS l).data.getD (k + 1) 0 = l[k + 1] := by rw [mkS_at]; simp [show k + 1 < l.length by omega]
  have hx2 : (mkS l).data.getD (k + 2) 0 = l[k + 2] := by rw [mkS_at]; simp [hk]
  have ha : l[k + 1].toNat < 256 := UInt8.toNat_lt _
  have hb : l[k + 2].toNat < 256 := UInt8.toNat_lt _
  have hw1 : IntKind.i64.wrap ((k : Int) + 1) = ((k + 1 : Nat) : Int) := wrap_add (k := k) (m := 1) (by omega)
  have hw2 : IntKind.i64.wrap ((k : Int) + 2) = ((k + 2 : Nat) : Int) := wrap_add (k := k) (m := 2) (by omega)
  have hw3 : IntKind.i64.wrap (((k + 2 : Nat) : Int) + 1) = ((k + 3 : Nat) : Int) := wrap_add (k := k + 2) (m := 1) (by omega)
  have hc' : ((l[k].toNat : Int) == 92) = true := by rw [hc]; rfl
  have hor := or_at (hv_lt l[k + 1].toNat) (hv_lt l[k + 2].toNat)
  rw [← dec2_nat] at hor
  rw [stU_ne (snoc_ne _ _)] at hn
  cases s with
  | nil =>
    rw [stU_nil]
    refine Goes.reach K3 (k := 2) (n := 200) (F := hdU (mkS l) (.sl 0 0 1 none) ((k + 3 : Nat) : Int)) (d := 6) (o := [(0, .b true)] ++ G6 true ++ [(8, .b true)]) (ren := [(0, 1)]) (eqs := [0]) ?_ (by kernel_rfl) (fun i b h => (hν i b h).elim) (l := un1 (cB [dec2 l[k + 1] l[k + 2]])) hn
    rw [u2]
    simp only [Owed, Int.toNat_natCast, hw1, hw2, hw3, hx, hx1, hx2, hv_if, hor, mkS_size, hc', true_and, and_true, cB_closed]
    repeat' apply And.intro
    all_goals first | rfl | exact in_range (by omega) | exact decide_eq_true (by omega) | omega | (simp [cB]; done)
  | cons a s =>
    rw [stU_ne (List.cons_ne_nil _ _)]
    refine Goes.reach K3 (k := 2) (n := 200) (F := hdU (mkS l) (.sl 0 0 ((a :: s).length + 1) none) ((k + 3 : Nat) : Int)) (d := 6) (o := [(0, .b true)] ++ G6 true ++ [(8, .b true), (13, .app (cB (a :: s)) (cB [dec2 l[k + 1] l[k + 2]]))]) (ren := [(0, 2)]) (eqs := [0]) ?_ (by kernel_rfl) (fun i b h => (hν i b h).elim) (l := un1 (cB (a :: s ++ [dec2 l[k + 1] l[k + 2]]))) (by rw [List.length_append] at hn; exact hn)
    rw [u5]
    simp only [Owed, Int.toNat_natCast, hw1, hw2, hw3, hx, hx1, hx2, hv_if, hor, mkS_size, hc', true_and, and_true, cB_app, one_cell, cB_closed, cB_flat, cB_len, List.all_append, Bool.and_self]
    repeat' apply And.intro
    all_goals first | rfl | exact in_range (by omega) | exact decide_eq_true (by omega) | omega | exact take_all (by simp [cB]) | (simp [cB]; done)
/-- What Unpath answers. -/
def resU (l u : List UInt8) : Value := if l ≠ [] ∧ pathL u = l then .tuple #[.string (mkS u), .bool true] else .tuple #[.string ⟨#[]⟩, .bool false]
theorem endU {s : List UInt8} (hR : ∀ w', Below w0.heap.size w0 w' → R (.returned (resU l s)) w') (hM : ∀ b, ¬ M b) (hs : s.length ≤ 1000000000) (h0 : s = [] → l = []) (h1 : s ≠ [] → l ≠ []) {k : Nat} (hk : k = l.length) : Goes E3 M w0 cs0 8 R ν (stU (mkS l) s k) := by
  have hd : decide ((k : Int) < ((mkS l).size : Int)) = false := decide_eq_false (by rw [mkS_size]; omega)
  have hm : (mkS l).toList = l := by rw [ByteArray.toList_eq]; rfl
  have hz : ({ data := { toList := [] : Array UInt8 } : ByteArray }).toList = [] := by rw [ByteArray.toList_eq]
  cases s with
  | nil =>
    have hl := h0 rfl
    subst hl
    rw [stU_nil]
    refine Goes.endsV K3 (n := 200) (o := [(0, .b false), (1, .b false), (2, .b false), (3, .b false), (4, .b false), (5, .b false), (6, .b false)]) (v := resU [] []) ?_ fun ν' M1 w1 s' w' _ hB hr => hR _ (below_of hM hB hr)
    rw [u7]
    simp only [Owed, hd, hm, hz, true_and, and_true]
    simp [resU]
  | cons a s =>
    have hl := h1 (by simp)
    rw [stU_ne (List.cons_ne_nil _ _)]
    have hle : (l == []) = false := by cases l <;> simp_all
    by_cases hp : pathL (a :: s) = l
    · refine Goes.endsV K3 (n := 200) (o := [(0, .b false), (1, .str (mkS (a :: s))), (2, .b true), (3, .b true), (5, .b true), (6, .b true), (7, .b true), (8, .b true)]) (v := resU l (a :: s)) ?_ fun ν' M1 w1 s' w' _ hB hr => hR _ (below_of hM hB hr)
      rw [u8]
      have h2 : (mkS (pathL (mkS (a :: s)).data.toList)).toList = l := by rw [ByteArray.toList_eq]; exact hp
      simp only [Owed, hd, hm, hz, h2, hle, true_and, and_true, Bool.not_false, beq_self_eq_true, List.drop_zero, mkS_size, ← cB_str]
      repeat' apply And.intro
      all_goals first | rfl | exact hs | exact decide_eq_false (by omega) | (rw [← cB_len, List.take_length]; done) | (simp [resU, hl, hp]; done)
    · refine Goes.endsV K3 (n := 200) (o := [(0, .b false), (1, .str (mkS (a :: s))), (2, .b true), (3, .b true), (5, .b true), (6, .b true), (7, .b true), (8, .b false)]) (v := resU l (a :: s)) ?_ fun ν' M1 w1 s' w' _ hB hr => hR _ (below_of hM hB hr)
      rw [u9]
      have h2 : ((mkS (pathL (mkS (a :: s)).data.toList)).toList == l) = false := by rw [ByteArray.toList_eq]; simpa [mkS] using hp
      simp only [Owed, hd, hm, hz, h2, hle, true_and, and_true, Bool.not_false, List.drop_zero, mkS_size, ← cB_str]
      repeat' apply And.intro
      all_goals first | rfl | exact hs | exact decide_eq_false (by omega) | (rw [← cB_len, List.take_length]; done) | (simp [resU, hp]; done)
theorem loopU (hν : ∀ i b, ν i = some b → False) (hl : l.length ≤ 1000000000) (hM : ∀ b, ¬ M b) :
    ∀ (n k : Nat) (s : List UInt8), l.length - k ≤ n → k ≤ l.length → s.length ≤ k → (s = [] → k = 0) → (k = 0 → s = []) → (∀ w', Below w0.heap.size w0 w' → R (.returned (resU l (s ++ unL (l.drop k)))) w') → Goes E3 M w0 cs0 8 R ν (stU (mkS l) s k)
  | n, k, s, hn, hk, hs, h0, h1, hR => by
    by_cases hlt : k < l.length
    · have hdrop : l.drop k = l[k] :: l.drop (k + 1) := List.drop_eq_getElem_cons hlt
      match n, hn with
      | 0, hn => omega
      | n + 1, hn =>
      by_cases hc : l[k] = 92
      · by_cases hk2 : k + 2 < l.length
        · have hd2 : l.drop (k + 1) = l[k + 1] :: l[k + 2] :: l.drop (k + 3) := by
            rw [List.drop_eq_getElem_cons (show k + 1 < l.length by omega), List.drop_eq_getElem_cons hk2]
          have hu : unL (l.drop k) = dec2 l[k + 1] l[k + 2] :: unL (l.drop (k + 3)) := by rw [hdrop, hd2, unL_cons, if_pos hc]
          refine stepU2 hν hl hk2 (by omega) hc (loopU hν hl hM n (k + 3) _ (by omega) (by omega) (by simp; omega) (fun e => absurd e (snoc_ne _ _)) (fun e => by omega) ?_)
          rw [hu] at hR
          simpa using hR
        · have hu : unL (l.drop k) = l[k] :: unL (l.drop (k + 1)) := by
            rw [hdrop, unL_cons, if_pos hc]
            have hlen : (l.drop (k + 1)).length < 2 := by simp; omega
            generalize l.drop (k + 1) = r at hlen
            match r, hlen with
            | [], _ => simp [unL]
            | [a], _ => rw [unL_one]
            | _ :: _ :: _, h => simp at h; omega
          refine stepU3 hν hl hlt (by omega) hc hk2 (loopU hν hl hM n (k + 1) _ (by omega) (by omega) (by simp; omega) (fun e => absurd e (snoc_ne _ _)) (fun e => by omega) ?_)
          rw [hu] at hR
          simpa using hR
      · have hu : unL (l.drop k) = l[k] :: unL (l.drop (k + 1)) := by rw [hdrop, unL_cons, if_neg hc]
        refine stepU1 hν hl hlt (by omega) hc (loopU hν hl hM n (k + 1) _ (by omega) (by omega) (by simp; omega) (fun e => absurd e (snoc_ne _ _)) (fun e => by omega) ?_)
        rw [hu] at hR
        simpa using hR
    · have hk' : k = l.length := by omega
      have hd : l.drop k = [] := by rw [hk', List.drop_length]
      rw [hd] at hR
      refine endU (by simpa [unL] using hR) hM (by omega) (fun e => ?_) (fun e => ?_) hk'
      · have := h0 e
        exact List.length_eq_zero_iff.1 (by omega)
      · intro el
        rw [el] at hk'
        exact e (h1 (by simpa using hk'))
end
def unPS : PS := fun args => match args with | [.string p] => some (resU p.data.toList (unL p.data.toList), p.size ≤ 1000000000) | _ => none
theorem unpath_ok : PureOK Tryd.prog (fun _ => True) (8, unPS) := by
  refine ⟨⟨_, Tryd.func8, by kernel_rfl, by kernel_rfl⟩, fun args v p h hp w hX => ?_⟩
  dsimp only [unPS] at h
  split at h
  · rename_i p
    cases h
    refine (calls_bare (E := E3) rfl rfl (Q := fun v => v = resU p.data.toList (unL p.data.toList)) (args := [.v (.string p)]) (a := [.string p]) w (S0 := entE E3 8 [.v (.string p)]) (by kernel_rfl) (VRL.cons (VR.v_iff.2 rfl) VRL.nil) fun cs0 => ?_).mono fun e w' ⟨h1, u, h2, h3⟩ => ⟨h1, by rw [h2, h3]⟩
    refine Goes.reach K3 (k := 2) (n := 60) (o := [(1000, .b true)]) (ren := []) (eqs := []) (F := hdU p (.v (.slice none 0 0)) 0) (d := 6) (l := []) ?_ (by kernel_rfl) (fun i b h => no_name h) ?_
    · rw [u0]; simp [Owed]
    · have hl : p.data.toList.length = p.size := by simp
      have t := loopU (l := p.data.toList) (M := layOwn [] []) (w0 := w) (cs0 := cs0) (ν := layVal []) (R := fun e w' => Below w.heap.size w w' ∧ ∃ v, e = .returned v ∧ v = resU p.data.toList (unL p.data.toList)) (fun i b h => no_name h) (by rw [hl]; exact hp) not_laid p.data.toList.length 0 [] (by omega) (by omega) (by simp) (fun _ => rfl) (fun _ => rfl)
        (fun w' hB => ⟨hB, _, rfl, by simp⟩)
      rw [mkS_of] at t
      exact t
  · cases h
end words
end Go.Proofs.YtagegnclcengjaaDoor
