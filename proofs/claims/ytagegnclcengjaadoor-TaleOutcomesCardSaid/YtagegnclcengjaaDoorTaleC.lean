/- tale's words (tale.Path): its contract. By an AI agent. -/
import Derived.Test.YtagegnclcengjaaDoorTaleB
namespace Go.Proofs.YtagegnclcengjaaDoor
open Go Go.Rx Go.RowKit
set_option linter.unusedVariables false
set_option linter.unusedSimpArgs false
set_option maxRecDepth 100000
namespace words
noncomputable def E2 : Env := EP [(13, plainPS)] []
theorem K2 {M : Own} {w0 : World} : Facts E2 M w0 := factsP0 fun r h => by
  simp only [List.mem_cons, List.not_mem_nil, or_false] at h
  rcases h with rfl
  exact tplain_ok
noncomputable def todoC : List SI := todoL E2 2 60 (entE E2 7 [.v (.string ⟨#[]⟩)]) []
noncomputable def hdC (p : ByteArray) (n i : Int) : SF := { fn := 7, tm := tmOf 29 6 ([.v (.string p), .junk, .v (.string ⟨#[]⟩), .ptr 0 0, .junk, .junk, .junk, .v (.int .i64 n), .v (.int .i64 i)] ++ List.replicate 20 .junk), todo := todoC, defers := [], ret := false, kind := .normal, ro := none }
/-- The writer, with nothing written. -/
def wr0 : List (Option (SO × Bool)) := [some (.row [.v (.pointer none), .v (.slice none 0 0)] 38 (0, 0) none, true)]
/-- The writer, with these bytes written. -/
def wr1 (n : Nat) (l : List SV) : List (Option (SO × Bool)) := [some (.row [.ptr 0 0, .sl 1 0 n none] 38 (0, 0) none, true), some (.row l 5 (0, 0) (some 1), true)]
theorem c0 (p : ByteArray) : reach E2 2 60 (entE E2 7 [.v (.string p)]) [(1000, .b true)] [(0, 0)] [] (hdC p p.size 0) 6 wr0 = [
  Value.string p = Value.string p,
  Value.string { data := { toList := [] : Array UInt8 } : ByteArray } =
   Value.string { data := { toList := [] : Array UInt8 } : ByteArray },
  (0 : Nat) = (0 : Nat),
  Value.int IntKind.i64 (↑p.size : Int) = Value.int IntKind.i64 (↑p.size : Int),
  Value.int IntKind.i64 (0 : Int) = Value.int IntKind.i64 (0 : Int),
  Value.pointer none = Value.pointer none,
  Value.slice none (0 : Nat) (0 : Nat) = Value.slice none (0 : Nat) (0 : Nat)] := by kernel_rfl
theorem c1 (p : ByteArray) (n i i' : Int) (l' : List SV) : reach E2 2 200 (SM.at (hdC p n i) 6 wr0) [(0, .b true), (3, .b true)] [(0, 0), (1, 2)] [1] (hdC p n i') 6 (wr1 1 l') = [
  Value.string p = Value.string p,
  Value.string { data := { toList := [] : Array UInt8 } : ByteArray } =
   Value.string { data := { toList := [] : Array UInt8 } : ByteArray },
  (0 : Nat) = (0 : Nat),
  Value.int IntKind.i64 n = Value.int IntKind.i64 n,
  Value.int IntKind.i64 (IntKind.i64.wrap (i + (1 : Int))) = Value.int IntKind.i64 i',
  (0 : Nat) = (0 : Nat),
  (0 : Nat) = (0 : Nat) ∧ (1 : Nat) = (1 : Nat) ∧ (none : Option Nat) = none,
  [] ++
   List.take (1 : Nat)
   (List.drop (0 : Nat)
   (splice
   (List.replicate (1 : Nat)
   (List.map SV.v { toList := [Value.int IntKind.u8 (0 : Int)] : Array Value }.toList)).flatten
   (0 : Nat) [SV.v (Value.int IntKind.u8 (↑(p.data.getD i.toNat (0 : UInt8)).toNat : Int))])) =
   l',
  l'.all closedSV = true,
  plainN (↑(p.data.getD i.toNat (0 : UInt8)).toNat : Int).toNat = true,
  (0 : Int) ≤ (↑(p.data.getD i.toNat (0 : UInt8)).toNat : Int) ∧
   (↑(p.data.getD i.toNat (0 : UInt8)).toNat : Int) < (256 : Int),
  inRange i p.size = true,
  decide (i < n) = true] := by kernel_rfl
theorem c2 (p : ByteArray) (n i i' : Int) (l' : List SV) : reach E2 2 300 (SM.at (hdC p n i) 6 wr0) [(0, .b true), (3, .b false)] [(0, 0), (1, 6)] [1] (hdC p n i') 6 (wr1 3 l') = [
  Value.string p = Value.string p,
  Value.string { data := { toList := [] : Array UInt8 } : ByteArray } =
   Value.string { data := { toList := [] : Array UInt8 } : ByteArray },
  (0 : Nat) = (0 : Nat),
  Value.int IntKind.i64 n = Value.int IntKind.i64 n,
  Value.int IntKind.i64 (IntKind.i64.wrap (i + (1 : Int))) = Value.int IntKind.i64 i',
  (0 : Nat) = (0 : Nat),
  (0 : Nat) = (0 : Nat) ∧ (3 : Nat) = (3 : Nat) ∧ (none : Option Nat) = none,
  List.take (2 : Nat)
   (List.take (1 : Nat)
   ([] ++
   List.take (1 : Nat)
   (List.drop (0 : Nat)
   (splice
   (List.replicate (1 : Nat)
   (List.map SV.v { toList := [Value.int IntKind.u8 (0 : Int)] : Array Value }.toList)).flatten
   (0 : Nat) [SV.v (Value.int IntKind.u8 (92 : Int))]))) ++
   List.take (1 : Nat)
   (List.drop (0 : Nat)
   (splice
   (List.replicate (1 : Nat)
   (List.map SV.v { toList := [Value.int IntKind.u8 (0 : Int)] : Array Value }.toList)).flatten
   (0 : Nat)
   [SV.v
   (Value.int IntKind.u8
   (↑({
   data :=
   {
   toList :=
   [(48 : UInt8), (49 : UInt8), (50 : UInt8), (51 : UInt8), (52 : UInt8),
   (53 : UInt8), (54 : UInt8), (55 : UInt8), (56 : UInt8), (57 : UInt8),
   (97 : UInt8), (98 : UInt8), (99 : UInt8), (100 : UInt8), (101 : UInt8),
   (102 : UInt8)] :
   Array UInt8 } :
   ByteArray }.data.getD
   ((↑(p.data.getD i.toNat (0 : UInt8)).toNat : Int).fdiv ((2 : Int) ^ (4 : Nat))).toNat
   (0 : UInt8)).toNat :
   Int))]))) ++
   List.take (1 : Nat)
   (List.drop (0 : Nat)
   (splice
   (List.replicate (1 : Nat)
   (List.map SV.v { toList := [Value.int IntKind.u8 (0 : Int)] : Array Value }.toList)).flatten
   (0 : Nat)
   [SV.v
   (Value.int IntKind.u8
   (↑({
   data :=
   {
   toList :=
   [(48 : UInt8), (49 : UInt8), (50 : UInt8), (51 : UInt8), (52 : UInt8), (53 : UInt8),
   (54 : UInt8), (55 : UInt8), (56 : UInt8), (57 : UInt8), (97 : UInt8),
   (98 : UInt8), (99 : UInt8), (100 : UInt8), (101 : UInt8), (102 : UInt8)] :
   Array UInt8 } :
   ByteArray }.data.getD
   (IntKind.u8.wrap
   (↑(BitVec.ofInt (8 : Nat) (↑(p.data.getD i.toNat (0 : UInt8)).toNat : Int) &&&
   BitVec.ofInt (8 : Nat) (15 : Int)).toNat :
   Int)).toNat
   (0 : UInt8)).toNat :
   Int))])) =
   l',
  l'.all closedSV = true,
  inRange
   (IntKind.u8.wrap
   (↑(BitVec.ofInt (8 : Nat) (↑(p.data.getD i.toNat (0 : UInt8)).toNat : Int) &&&
   BitVec.ofInt (8 : Nat) (15 : Int)).toNat :
   Int))
   (16 : Nat) =
   true,
  inRange ((↑(p.data.getD i.toNat (0 : UInt8)).toNat : Int).fdiv ((2 : Int) ^ (4 : Nat))) (16 : Nat) = true,
  plainN (↑(p.data.getD i.toNat (0 : UInt8)).toNat : Int).toNat = false,
  (0 : Int) ≤ (↑(p.data.getD i.toNat (0 : UInt8)).toNat : Int) ∧
   (↑(p.data.getD i.toNat (0 : UInt8)).toNat : Int) < (256 : Int),
  inRange i p.size = true,
  decide (i < n) = true] := by kernel_rfl
theorem c3 (p : ByteArray) (n i i' : Int) (m : Nat) (l l' w : List SV) : reach E2 2 300 (SM.at (hdC p n i) 6 (wr1 m l)) [(0, .b true), (3, .b true), (6, .app l w)] [(0, 0), (1, 3)] [1] (hdC p n i') 6 (wr1 (m + 1) l') = [
  Value.string p = Value.string p,
  Value.string { data := { toList := [] : Array UInt8 } : ByteArray } =
   Value.string { data := { toList := [] : Array UInt8 } : ByteArray },
  (0 : Nat) = (0 : Nat),
  Value.int IntKind.i64 n = Value.int IntKind.i64 n,
  Value.int IntKind.i64 (IntKind.i64.wrap (i + (1 : Int))) = Value.int IntKind.i64 i',
  (0 : Nat) = (0 : Nat),
  (0 : Nat) = (0 : Nat) ∧ m + (1 : Nat) = m + (1 : Nat) ∧ (none : Option Nat) = none,
  l ++ w = l',
  l'.all closedSV = true,
  ((List.take (1 : Nat)
   (List.drop (0 : Nat)
   (splice
   (List.replicate (1 : Nat)
   (List.map SV.v { toList := [Value.int IntKind.u8 (0 : Int)] : Array Value }.toList)).flatten
   (0 : Nat) [SV.v (Value.int IntKind.u8 (↑(p.data.getD i.toNat (0 : UInt8)).toNat : Int))])) =
   w ∧
   w.length = (1 : Nat) * (1 : Nat)) ∧
   (1 : Nat) ≠ (0 : Nat) ∧ ((2 : Nat) * (m + (1 : Nat)) + (1024 : Nat)) * (1 : Nat) ≤ (140737488355328 : Nat)) ∧
   List.take (m * (1 : Nat)) l = l ∧ l.length = m * (1 : Nat) ∧ w.all SV.flat = true,
  plainN (↑(p.data.getD i.toNat (0 : UInt8)).toNat : Int).toNat = true,
  (0 : Int) ≤ (↑(p.data.getD i.toNat (0 : UInt8)).toNat : Int) ∧
   (↑(p.data.getD i.toNat (0 : UInt8)).toNat : Int) < (256 : Int),
  inRange i p.size = true,
  decide (i < n) = true] := by kernel_rfl
theorem c4 (p : ByteArray) (n i i' : Int) (m : Nat) (l l' w w2 w3 : List SV) : reach E2 2 300 (SM.at (hdC p n i) 6 (wr1 m l)) [(0, .b true), (3, .b false), (6, .app l w), (10, .app (l ++ w) w2), (14, .app (l ++ w ++ w2) w3)] [(0, 0), (1, 7)] [1] (hdC p n i') 6 (wr1 (m + 3) l') = [
  Value.string p = Value.string p,
  Value.string { data := { toList := [] : Array UInt8 } : ByteArray } =
   Value.string { data := { toList := [] : Array UInt8 } : ByteArray },
  (0 : Nat) = (0 : Nat),
  Value.int IntKind.i64 n = Value.int IntKind.i64 n,
  Value.int IntKind.i64 (IntKind.i64.wrap (i + (1 : Int))) = Value.int IntKind.i64 i',
  (0 : Nat) = (0 : Nat),
  (0 : Nat) = (0 : Nat) ∧ m + (1 : Nat) + (1 : Nat) + (1 : Nat) = m + (3 : Nat) ∧ (none : Option Nat) = none,
  l ++ w ++ w2 ++ w3 = l',
  l'.all closedSV = true,
  ((List.take (1 : Nat)
   (List.drop (0 : Nat)
   (splice
   (List.replicate (1 : Nat)
   (List.map SV.v { toList := [Value.int IntKind.u8 (0 : Int)] : Array Value }.toList)).flatten
   (0 : Nat)
   [SV.v
   (Value.int IntKind.u8
   (↑({
   data :=
   {
   toList :=
   [(48 : UInt8), (49 : UInt8), (50 : UInt8), (51 : UInt8), (52 : UInt8),
   (53 : UInt8), (54 : UInt8), (55 : UInt8), (56 : UInt8), (57 : UInt8),
   (97 : UInt8), (98 : UInt8), (99 : UInt8), (100 : UInt8), (101 : UInt8),
   (102 : UInt8)] :
   Array UInt8 } :
   ByteArray }.data.getD
   (IntKind.u8.wrap
   (↑(BitVec.ofInt (8 : Nat) (↑(p.data.getD i.toNat (0 : UInt8)).toNat : Int) &&&
   BitVec.ofInt (8 : Nat) (15 : Int)).toNat :
   Int)).toNat
   (0 : UInt8)).toNat :
   Int))])) =
   w3 ∧
   w3.length = (1 : Nat) * (1 : Nat)) ∧
   (1 : Nat) ≠ (0 : Nat) ∧
   ((2 : Nat) * (m + (1 : Nat) + (1 : Nat) + (1 : Nat)) + (1024 : Nat)) * (1 : Nat) ≤ (140737488355328 : Nat)) ∧
   List.take ((m + (1 : Nat) + (1 : Nat)) * (1 : Nat)) (l ++ w ++ w2) = l ++ w ++ w2 ∧
   (l ++ w ++ w2).length = (m + (1 : Nat) + (1 : Nat)) * (1 : Nat) ∧ w3.all SV.flat = true,
  inRange
   (IntKind.u8.wrap
   (↑(BitVec.ofInt (8 : Nat) (↑(p.data.getD i.toNat (0 : UInt8)).toNat : Int) &&&
   BitVec.ofInt (8 : Nat) (15 : Int)).toNat :
   Int))
   (16 : Nat) =
   true,
  ((List.take (1 : Nat)
   (List.drop (0 : Nat)
   (splice
   (List.replicate (1 : Nat)
   (List.map SV.v { toList := [Value.int IntKind.u8 (0 : Int)] : Array Value }.toList)).flatten
   (0 : Nat)
   [SV.v
   (Value.int IntKind.u8
   (↑({
   data :=
   {
   toList :=
   [(48 : UInt8), (49 : UInt8), (50 : UInt8), (51 : UInt8), (52 : UInt8),
   (53 : UInt8), (54 : UInt8), (55 : UInt8), (56 : UInt8), (57 : UInt8),
   (97 : UInt8), (98 : UInt8), (99 : UInt8), (100 : UInt8), (101 : UInt8),
   (102 : UInt8)] :
   Array UInt8 } :
   ByteArray }.data.getD
   ((↑(p.data.getD i.toNat (0 : UInt8)).toNat : Int).fdiv ((2 : Int) ^ (4 : Nat))).toNat
   (0 : UInt8)).toNat :
   Int))])) =
   w2 ∧
   w2.length = (1 : Nat) * (1 : Nat)) ∧
   (1 : Nat) ≠ (0 : Nat) ∧
   ((2 : Nat) * (m + (1 : Nat) + (1 : Nat)) + (1024 : Nat)) * (1 : Nat) ≤ (140737488355328 : Nat)) ∧
   List.take ((m + (1 : Nat)) * (1 : Nat)) (l ++ w) = l ++ w ∧
   (l ++ w).length = (m + (1 : Nat)) * (1 : Nat) ∧ w2.all SV.flat = true,
  inRange ((↑(p.data.getD i.toNat (0 : UInt8)).toNat : Int).fdiv ((2 : Int) ^ (4 : Nat))) (16 : Nat) = true,
  ((List.take (1 : Nat)
   (List.drop (0 : Nat)
   (splice
   (List.replicate (1 : Nat)
   (List.map SV.v { toList := [Value.int IntKind.u8 (0 : Int)] : Array Value }.toList)).flatten
   (0 : Nat) [SV.v (Value.int IntKind.u8 (92 : Int))])) =
   w ∧
   w.length = (1 : Nat) * (1 : Nat)) ∧
   (1 : Nat) ≠ (0 : Nat) ∧ ((2 : Nat) * (m + (1 : Nat)) + (1024 : Nat)) * (1 : Nat) ≤ (140737488355328 : Nat)) ∧
   List.take (m * (1 : Nat)) l = l ∧ l.length = m * (1 : Nat) ∧ w.all SV.flat = true,
  plainN (↑(p.data.getD i.toNat (0 : UInt8)).toNat : Int).toNat = false,
  (0 : Int) ≤ (↑(p.data.getD i.toNat (0 : UInt8)).toNat : Int) ∧
   (↑(p.data.getD i.toNat (0 : UInt8)).toNat : Int) < (256 : Int),
  inRange i p.size = true,
  decide (i < n) = true] := by kernel_rfl
theorem c5 (p : ByteArray) (n i : Int) (v : Value) : endsV E2 7 300 (SM.at (hdC p n i) 6 wr0) [(0, .b false)] v = [
  Value.string { data := { toList := [] : Array UInt8 } : ByteArray } = v,
  true = true,
  true = true,
  decide (i < n) = false] := by kernel_rfl
theorem c6 (p : ByteArray) (n i : Int) (m : Nat) (l : List SV) (b : ByteArray) (v : Value) : endsV E2 7 300 (SM.at (hdC p n i) 6 (wr1 m l)) [(0, .b false), (4, .str b)] v = [
  Value.string b = v,
  ((0 : Int) < (↑m : Int) ∧ (↑m : Int) ≤ (2 : Int) ^ (40 : Nat)) ∧
   (↑m : Int).toNat ≤ l.length ∧
   List.take (↑m : Int).toNat l = List.map (fun c => SV.v (Value.int IntKind.u8 (↑c.toNat : Int))) b.data.toList,
  (0 : Nat) = (0 : Nat) ∧ m = m ∧ (none : Option Nat) = none,
  ((↑m : Int) == (↑m : Int)) = true,
  (!m == (0 : Nat)) = true,
  decide (i < n) = false] := by kernel_rfl
theorem fdiv16 (n : Nat) : ((n : Int)).fdiv ((2 : Int) ^ (4 : Nat)) = ((n / 16 : Nat) : Int) := by
  rw [Int.fdiv_eq_ediv_of_nonneg _ (by decide)]; rfl
theorem and15_tab : (List.range 256).all (fun n => decide (IntKind.u8.wrap (((BitVec.ofInt 8 (n : Int) &&& BitVec.ofInt 8 15).toNat : Nat) : Int) = ((n % 16 : Nat) : Int))) = true := by kernel_rfl
theorem and15 {n : Nat} (h : n < 256) : IntKind.u8.wrap (((BitVec.ofInt 8 (n : Int) &&& BitVec.ofInt 8 15).toNat : Nat) : Int) = ((n % 16 : Nat) : Int) := of_decide_eq_true (List.all_eq_true.1 and15_tab n (List.mem_range.2 h))
/-- Bytes as cells. -/
def cB (l : List UInt8) : List SV := l.map fun c => .v (.int .u8 (c.toNat : Int))
theorem cB_app (a b : List UInt8) : cB (a ++ b) = cB a ++ cB b := by simp [cB]
theorem cB_len (a : List UInt8) : (cB a).length = a.length := by simp [cB]
theorem cB_closed (a : List UInt8) : (cB a).all closedSV = true := by
  rw [List.all_eq_true]; intro x hx; obtain ⟨c, _, rfl⟩ := List.mem_map.1 hx; rfl
theorem cB_flat (a : List UInt8) : (cB a).all SV.flat = true := by
  rw [List.all_eq_true]; intro x hx; obtain ⟨c, _, rfl⟩ := List.mem_map.1 hx; rfl
theorem one_cell (x z : SV) : List.take 1 (List.drop 0 (splice (List.replicate 1 [z]).flatten 0 [x])) = [x] := rfl
theorem hexes_eq : ({ data := { toList := [(48 : UInt8), (49 : UInt8), (50 : UInt8), (51 : UInt8), (52 : UInt8), (53 : UInt8), (54 : UInt8), (55 : UInt8), (56 : UInt8), (57 : UInt8), (97 : UInt8), (98 : UInt8), (99 : UInt8), (100 : UInt8), (101 : UInt8), (102 : UInt8)] : Array UInt8 } : ByteArray }) = hexes := rfl
theorem hexes_getD (n : Nat) : hexes.data.getD n 0 = hexD n := rfl
theorem take_all {α : Type} {l : List α} {m : Nat} (h : l.length = m) : List.take (m * 1) l = l := by rw [Nat.mul_one, ← h, List.take_length]
section
variable {M : Own} {w0 : World} {cs0 : List Frame} {R : Ending → World → Prop} {ν : Val} {l : List UInt8}
theorem stepC (hν : ∀ i b, ν i = some b → False) (hl : l.length ≤ 1000000000) {k : Nat} (hlt : k < l.length) {s : List UInt8} (hs : s.length ≤ 3000000000)
    (hn : Goes E2 M w0 cs0 7 R ν (SM.at (hdC (mkS l) l.length (k + 1 : Nat)) 6 (wr1 (s ++ escL l[k]).length (cB (s ++ escL l[k]))))) : Goes E2 M w0 cs0 7 R ν (SM.at (hdC (mkS l) l.length k) 6 (wr1 s.length (cB s))) := by
  have hx : (mkS l).data.getD k 0 = l[k] := by rw [mkS_at]; simp [hlt]
  have h256 : l[k].toNat < 256 := UInt8.toNat_lt _
  have hws := wrap_succ (k := k) (by omega)
  by_cases hp : plainN l[k].toNat = true
  · have he : escL l[k] = [l[k]] := by unfold escL; rw [if_pos hp]
    rw [he] at hn
    refine Goes.reach K2 (k := 2) (n := 300) (o := [(0, .b true), (3, .b true), (6, .app (cB s) (cB [l[k]]))]) (ren := [(0, 0), (1, 3)]) (eqs := [1]) ?_ (by kernel_rfl) (fun i b h => (hν i b h).elim) (l := wr1 (s.length + 1) (cB (s ++ [l[k]]))) (by rw [List.length_append] at hn; exact hn)
    rw [c3]
    simp only [Owed, Int.toNat_natCast, hws, hx, mkS_size, hp, true_and, and_true, cB_app, one_cell, cB_closed, cB_flat, cB_len, List.all_append, Bool.and_self, take_all (cB_len s)]
    repeat' apply And.intro
    all_goals first | rfl | exact in_range hlt | exact decide_eq_true (by omega) | omega | (simp [cB, closedSV, SV.flat]; done) | (simp [cB]; omega)
  · have hpf : plainN l[k].toNat = false := by simpa using hp
    have he : escL l[k] = [92, hexD (l[k].toNat / 16), hexD (l[k].toNat % 16)] := by unfold escL; rw [if_neg hp]
    rw [he] at hn
    have hd : l[k].toNat / 16 < 16 := by omega
    have hm : l[k].toNat % 16 < 16 := by omega
    refine Goes.reach K2 (k := 2) (n := 300) (o := [(0, .b true), (3, .b false), (6, .app (cB s) (cB [92])), (10, .app (cB s ++ cB [92]) (cB [hexD (l[k].toNat / 16)])), (14, .app (cB s ++ cB [92] ++ cB [hexD (l[k].toNat / 16)]) (cB [hexD (l[k].toNat % 16)]))])
      (ren := [(0, 0), (1, 7)]) (eqs := [1]) ?_ (by kernel_rfl) (fun i b h => (hν i b h).elim) (l := wr1 (s.length + 3) (cB (s ++ [92, hexD (l[k].toNat / 16), hexD (l[k].toNat % 16)]))) (by rw [List.length_append] at hn; exact hn)
    rw [c4]
    have hsp : ∀ (a b c : UInt8), cB (s ++ [a, b, c]) = cB s ++ cB [a] ++ cB [b] ++ cB [c] := fun a b c => by simp [cB]
    have hx1 : hexes.data.getD ((l[k].toNat / 16 : Nat) : Int).toNat 0 = hexD (l[k].toNat / 16) := rfl
    have hx2 : hexes.data.getD ((l[k].toNat % 16 : Nat) : Int).toNat 0 = hexD (l[k].toNat % 16) := rfl
    simp only [Owed, Int.toNat_natCast, hws, hx, hexes_eq, mkS_size, hpf, fdiv16, and15 h256, true_and, and_true, hsp, one_cell, cB_closed, cB_flat, cB_len, List.all_append, Bool.and_self, hexes_getD, List.length_append]
    repeat' apply And.intro
    all_goals first | rfl | exact in_range hlt | exact in_range hd | exact in_range hm | exact decide_eq_true (by omega) | omega | exact take_all (by simp [cB]) | (simp [cB, closedSV, SV.flat]; done) | (simp [cB]; done) | skip

/-- The first byte. -/
theorem firstC (hν : ∀ i b, ν i = some b → False) (hl : l.length ≤ 1000000000) (hlt : 0 < l.length)
    (hn : Goes E2 M w0 cs0 7 R ν (SM.at (hdC (mkS l) l.length (0 + 1 : Nat)) 6 (wr1 (escL l[0]).length (cB (escL l[0]))))) : Goes E2 M w0 cs0 7 R ν (SM.at (hdC (mkS l) l.length (0 : Nat)) 6 wr0) := by
  have hx : (mkS l).data.getD 0 0 = l[0] := by rw [mkS_at]; simp [hlt]
  have h256 : l[0].toNat < 256 := UInt8.toNat_lt _
  have hws := wrap_succ (k := 0) (by omega)
  by_cases hp : plainN l[0].toNat = true
  · have he : escL l[0] = [l[0]] := by unfold escL; rw [if_pos hp]
    rw [he] at hn
    refine Goes.reach K2 (k := 2) (n := 200) (o := [(0, .b true), (3, .b true)]) (ren := [(0, 0), (1, 2)]) (eqs := [1]) ?_ (by kernel_rfl) (fun i b h => (hν i b h).elim) (l := wr1 1 (cB [l[0]])) hn
    rw [c1]
    simp only [Owed, Int.toNat_natCast, hws, hx, mkS_size, hp, true_and, and_true, cB_closed]
    repeat' apply And.intro
    all_goals first | rfl | exact in_range hlt | exact decide_eq_true (by omega) | omega | (simp [cB, closedSV, SV.flat]; done) | (simp; omega)
  · have hpf : plainN l[0].toNat = false := by simpa using hp
    have he : escL l[0] = [92, hexD (l[0].toNat / 16), hexD (l[0].toNat % 16)] := by unfold escL; rw [if_neg hp]
    rw [he] at hn
    have hd : l[0].toNat / 16 < 16 := by omega
    have hm : l[0].toNat % 16 < 16 := by omega
    refine Goes.reach K2 (k := 2) (n := 300) (o := [(0, .b true), (3, .b false)]) (ren := [(0, 0), (1, 6)]) (eqs := [1]) ?_ (by kernel_rfl) (fun i b h => (hν i b h).elim) (l := wr1 3 (cB [92, hexD (l[0].toNat / 16), hexD (l[0].toNat % 16)])) hn
    rw [c2]
    simp only [Owed, Int.toNat_natCast, hws, hx, hexes_eq, mkS_size, hpf, fdiv16, and15 h256, true_and, and_true, cB_closed, hexes_getD]
    repeat' apply And.intro
    all_goals first | rfl | exact in_range hlt | exact in_range hd | exact in_range hm | exact decide_eq_true (by omega) | omega | (simp [cB, closedSV, SV.flat]; done) | (simp; omega)
theorem escL_ne (c : UInt8) : escL c ≠ [] := by unfold escL; split <;> simp
theorem pathL_ne {l : List UInt8} (h : l ≠ []) : pathL l ≠ [] := by
  cases l with
  | nil => exact absurd rfl h
  | cons c l => simp [pathL, escL_ne]
theorem cB_str (s : List UInt8) : cB s = List.map (fun c => SV.v (Value.int IntKind.u8 (c.toNat : Int))) (mkS s).data.toList := by simp [cB, mkS]
theorem endC {s : List UInt8} (hR : ∀ w', Below w0.heap.size w0 w' → R (.returned (.string (mkS s))) w') (hM : ∀ b, ¬ M b) (h0 : s ≠ []) (hs : s.length ≤ 3000000000) {n i : Int} (hi : ¬ i < n) {p : ByteArray} : Goes E2 M w0 cs0 7 R ν (SM.at (hdC p n i) 6 (wr1 s.length (cB s))) := by
  refine Goes.endsV K2 (n := 300) (o := [(0, .b false), (4, .str (mkS s))]) (v := .string (mkS s)) ?_ ?_
  · rw [c6]
    have hlen : 0 < s.length := List.length_pos_iff.2 h0
    simp only [Owed, Int.toNat_natCast, true_and, and_true, cB_len]
    repeat' apply And.intro
    all_goals first | rfl | exact decide_eq_false hi | (simp; omega) | omega | (rw [← cB_len, List.take_length]; exact cB_str s) | (simp; done) | (simp; intro e; rw [e] at hlen; simp at hlen)
  · intro ν' M1 w1 s' w' _ hB hr
    exact hR _ (below_of hM hB hr)
theorem take_snoc {l : List UInt8} {k : Nat} (h : k < l.length) : pathL (l.take (k + 1)) = pathL (l.take k) ++ escL l[k] := by rw [List.take_succ_eq_append_getElem h, pathL_snoc]
theorem take_path_len {l : List UInt8} {k : Nat} (hl : l.length ≤ 1000000000) : (pathL (l.take k)).length ≤ 3000000000 := by
  have := pathL_len (l.take k)
  have h2 : (l.take k).length ≤ l.length := by simp; omega
  omega
theorem loopC (hν : ∀ i b, ν i = some b → False) (hl : l.length ≤ 1000000000) (hR : ∀ w', Below w0.heap.size w0 w' → R (.returned (.string (mkS (pathL l)))) w') (hM : ∀ b, ¬ M b) :
    ∀ (j k : Nat), k + 1 + j = l.length → Goes E2 M w0 cs0 7 R ν (SM.at (hdC (mkS l) l.length (k + 1 : Nat)) 6 (wr1 (pathL (l.take (k + 1))).length (cB (pathL (l.take (k + 1))))))
  | 0, k, hk => by
    have hk' : l.take (k + 1) = l := List.take_of_length_le (by omega)
    rw [hk']
    have hne : l ≠ [] := by intro e; rw [e] at hk; simp at hk
    have := take_path_len (k := k + 1) hl
    rw [hk'] at this
    exact endC hR hM (pathL_ne hne) this (by omega)
  | j + 1, k, hk => by
    have hlt : k + 1 < l.length := by omega
    refine stepC hν hl hlt (take_path_len hl) ?_
    rw [← take_snoc hlt]
    exact loopC hν hl hR hM j (k + 1) (by omega)
end
theorem pathT_ok : PureOK Tryd.prog (fun _ => True) (7, pathPS) := by
  refine ⟨⟨_, Tryd.func7, by kernel_rfl, by kernel_rfl⟩, fun args v p h hp w hX => ?_⟩
  dsimp only [pathPS] at h
  split at h
  · rename_i p
    cases h
    refine (calls_bare (E := E2) rfl rfl (Q := fun v => v = .string (mkS (pathL p.data.toList))) (args := [.v (.string p)]) (a := [.string p]) w (S0 := entE E2 7 [.v (.string p)]) (by kernel_rfl) (VRL.cons (VR.v_iff.2 rfl) VRL.nil) fun cs0 => ?_).mono fun e w' ⟨h1, u, h2, h3⟩ => ⟨h1, by rw [h2, h3]⟩
    refine Goes.reach K2 (k := 2) (n := 60) (o := [(1000, .b true)]) (ren := [(0, 0)]) (eqs := []) (F := hdC p p.size 0) (d := 6) (l := wr0) ?_ (by kernel_rfl) (fun i b h => no_name h) ?_
    · rw [c0]; simp [Owed]
    · have hl : p.data.toList.length = p.size := by simp
      have hp' : p.data.toList.length ≤ 1000000000 := by rw [hl]; exact hp
      have hR : ∀ w', Below w.heap.size w w' → (fun (e : Ending) (w' : World) => Below w.heap.size w w' ∧ ∃ v, e = .returned v ∧ v = .string (mkS (pathL p.data.toList))) (.returned (.string (mkS (pathL p.data.toList)))) w' := fun w' hB => ⟨hB, _, rfl, rfl⟩
      by_cases h0 : p.data.toList.length = 0
      · refine Goes.endsV K2 (n := 300) (o := [(0, .b false)]) (v := .string (mkS (pathL p.data.toList))) ?_ fun ν' M1 w1 s' w' _ hB hr => hR _ (below_of not_laid hB hr)
        rw [c5]
        rw [List.length_eq_zero_iff.1 h0]
        rw [h0] at hl
        simp [Owed, ← hl, pathL, mkS]
      · have t := firstC (l := p.data.toList) (M := layOwn [] []) (w0 := w) (cs0 := cs0) (ν := layVal []) (R := fun e w' => Below w.heap.size w w' ∧ ∃ v, e = .returned v ∧ v = .string (mkS (pathL p.data.toList))) (fun i b h => no_name h) hp' (by omega)
        have t2 := loopC (l := p.data.toList) (M := layOwn [] []) (w0 := w) (cs0 := cs0) (ν := layVal []) (R := fun e w' => Below w.heap.size w w' ∧ ∃ v, e = .returned v ∧ v = .string (mkS (pathL p.data.toList))) (fun i b h => no_name h) hp' hR not_laid (p.data.toList.length - 1) 0 (by omega)
        rw [take_snoc (by omega), List.take_zero, show pathL [] = [] from rfl, List.nil_append] at t2
        have t := t t2
        rw [mkS_of, hl] at t
        exact t
  · cases h
end words
end Go.Proofs.YtagegnclcengjaaDoor
