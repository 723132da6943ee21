/- The lines of outcomes: the reference's (tenderref44.Outcome) and tale's (tale.Outcome): their contracts. By an AI agent. -/
import Derived.Test.YtagegnclcengjaaDoorTaleE
namespace Go.Proofs.YtagegnclcengjaaDoor
open Go Go.Rx Go.RowKit
set_option linter.unusedVariables false
set_option linter.unusedSimpArgs false
set_option maxRecDepth 100000
namespace words
def ff (l : List Nat) (b : Bool) : List (Nat × Ans) := l.map fun n => (n, .b b)
noncomputable def EO : Env := EP [(9, pathPS), (24, signedPS)] []
theorem KO {M : Own} {w0 : World} : Facts EO M w0 := factsP0 fun r h => by
  simp only [List.mem_cons, List.not_mem_nil, or_false] at h
  rcases h with rfl | rfl
  · exact path_ok
  · exact signed_ok
def slT : List (FuncId × PS) := [(7, pathPS), (22, itoaPS)]
noncomputable def ET : Env := { EP slT [] with sums := fun f => bif Nat.beq f 30 then some joinSum else sumsOf slT f }
theorem tab_keep {w0 w : World} (h : PowTab w0) (hk : ∀ k, k < w0.heap.size → w.heap[k]? = w0.heap[k]?) : PowTab w := by
  unfold PowTab Lib.TabIs World.var? at *
  cases hg : Tryd.prog.globalNamed "internal/strconv.uint64pow10" with
  | none => simp [hg] at h
  | some g =>
    simp only [hg, Option.bind_some] at h ⊢
    have hlt : g < w0.heap.size := by
      rcases Nat.lt_or_ge g w0.heap.size with h' | h'
      · exact h'
      · rw [Array.getElem?_eq_none h'] at h; simp at h
    rw [hk g hlt]
    exact h
theorem KT {M : Own} {w0 : World} (hM : ∀ b, ¬ M b) (h : PowTab w0) : Facts ET M w0 :=
  Facts.of' (Checked.mixed Tryd.checked) (by kernel_rfl) (ExtOK.of extL rfl extRows) (SumsOK.join (X := PowTab) (l := slT) (J := 30) rfl join_ok (fun r hr => by
    simp only [slT, List.mem_cons, List.not_mem_nil, or_false] at hr
    rcases hr with rfl | rfl
    · exact ⟨pathT_ok.1, fun args v p h hp w _ => pathT_ok.2 args v p h hp w trivial⟩
    · exact itoa_ok) fun ν s w hr _ => tab_keep h fun k hk => hr.frame k hk (hM k)) (fun f g h => by cases h)
theorem r1a (p : ByteArray) (c : Int) (v : Value) : endsV EO 11 300 (entE EO 11 [.v (.agg #[.string p, .int .i64 1, .int .i64 c])]) (ff [5, 6, 7, 8, 12, 14, 15] false) v = [
  Value.string
   ({
   data :=
   { toList := [(112 : UInt8), (117 : UInt8), (115 : UInt8), (104 : UInt8), (101 : UInt8), (100 : UInt8)] :
   Array UInt8 } :
   ByteArray } ++
   { data := { toList := [(32 : UInt8)] : Array UInt8 } : ByteArray } ++
   mkS (pathL p.data.toList) ++
   { data := { toList := [(10 : UInt8)] : Array UInt8 } : ByteArray }) =
   v,
  (({
   data :=
   { toList := [(112 : UInt8), (117 : UInt8), (115 : UInt8), (104 : UInt8), (101 : UInt8), (100 : UInt8)] :
   Array UInt8 } :
   ByteArray } ++
   { data := { toList := [(32 : UInt8)] : Array UInt8 } : ByteArray } ++
   mkS (pathL p.data.toList)).size +
   (1 : Nat)).le
   (9223372036854775807 : Nat),
  ((7 : Nat) + (mkS (pathL p.data.toList)).size).le (9223372036854775807 : Nat),
  p.size.le (1000000000 : Nat),
  Nat.le (7 : Nat) (9223372036854775807 : Nat),
  (!c == (0 : Int)) = false,
  (p.toList == { data := { toList := [] : Array UInt8 } : ByteArray }.toList) = false,
  (p.toList == { data := { toList := [] : Array UInt8 } : ByteArray }.toList) = false,
  (p.toList == { data := { toList := [] : Array UInt8 } : ByteArray }.toList) = false,
  (p.toList == { data := { toList := [] : Array UInt8 } : ByteArray }.toList) = false,
  (p.toList == { data := { toList := [] : Array UInt8 } : ByteArray }.toList) = false,
  (p.toList == { data := { toList := [] : Array UInt8 } : ByteArray }.toList) = false] := by kernel_rfl
theorem r1b (p : ByteArray) (c : Int) (v : Value) : endsV EO 11 300 (entE EO 11 [.v (.agg #[.string p, .int .i64 1, .int .i64 c])]) (ff [5, 6, 7, 8, 12, 14] false ++ [(15, .b true)]) v = [
  Value.string { data := { toList := [] : Array UInt8 } : ByteArray } = v,
  (!c == (0 : Int)) = true,
  (p.toList == { data := { toList := [] : Array UInt8 } : ByteArray }.toList) = false,
  (p.toList == { data := { toList := [] : Array UInt8 } : ByteArray }.toList) = false,
  (p.toList == { data := { toList := [] : Array UInt8 } : ByteArray }.toList) = false,
  (p.toList == { data := { toList := [] : Array UInt8 } : ByteArray }.toList) = false,
  (p.toList == { data := { toList := [] : Array UInt8 } : ByteArray }.toList) = false,
  (p.toList == { data := { toList := [] : Array UInt8 } : ByteArray }.toList) = false] := by kernel_rfl
theorem r1e (c : Int) (v : Value) : endsV EO 11 300 (entE EO 11 [.v (.agg #[.string ⟨#[]⟩, .int .i64 1, .int .i64 c])]) [(1000, .b true)] v = [
  Value.string { data := { toList := [] : Array UInt8 } : ByteArray } = v] := by kernel_rfl
theorem r2a (p : ByteArray) (c : Int) (v : Value) : endsV EO 11 300 (entE EO 11 [.v (.agg #[.string p, .int .i64 2, .int .i64 c])]) (ff [6, 7, 8, 9, 13, 15, 16] false) v = [
  Value.string
   ({
   data :=
   { toList := [(112 : UInt8), (117 : UInt8), (108 : UInt8), (108 : UInt8), (101 : UInt8), (100 : UInt8)] :
   Array UInt8 } :
   ByteArray } ++
   { data := { toList := [(32 : UInt8)] : Array UInt8 } : ByteArray } ++
   mkS (pathL p.data.toList) ++
   { data := { toList := [(10 : UInt8)] : Array UInt8 } : ByteArray }) =
   v,
  (({
   data :=
   { toList := [(112 : UInt8), (117 : UInt8), (108 : UInt8), (108 : UInt8), (101 : UInt8), (100 : UInt8)] :
   Array UInt8 } :
   ByteArray } ++
   { data := { toList := [(32 : UInt8)] : Array UInt8 } : ByteArray } ++
   mkS (pathL p.data.toList)).size +
   (1 : Nat)).le
   (9223372036854775807 : Nat),
  ((7 : Nat) + (mkS (pathL p.data.toList)).size).le (9223372036854775807 : Nat),
  p.size.le (1000000000 : Nat),
  Nat.le (7 : Nat) (9223372036854775807 : Nat),
  (!c == (0 : Int)) = false,
  (p.toList == { data := { toList := [] : Array UInt8 } : ByteArray }.toList) = false,
  (p.toList == { data := { toList := [] : Array UInt8 } : ByteArray }.toList) = false,
  (p.toList == { data := { toList := [] : Array UInt8 } : ByteArray }.toList) = false,
  (p.toList == { data := { toList := [] : Array UInt8 } : ByteArray }.toList) = false,
  (p.toList == { data := { toList := [] : Array UInt8 } : ByteArray }.toList) = false,
  (p.toList == { data := { toList := [] : Array UInt8 } : ByteArray }.toList) = false] := by kernel_rfl
theorem r2b (p : ByteArray) (c : Int) (v : Value) : endsV EO 11 300 (entE EO 11 [.v (.agg #[.string p, .int .i64 2, .int .i64 c])]) (ff [6, 7, 8, 9, 13, 15] false ++ [(16, .b true)]) v = [
  Value.string { data := { toList := [] : Array UInt8 } : ByteArray } = v,
  (!c == (0 : Int)) = true,
  (p.toList == { data := { toList := [] : Array UInt8 } : ByteArray }.toList) = false,
  (p.toList == { data := { toList := [] : Array UInt8 } : ByteArray }.toList) = false,
  (p.toList == { data := { toList := [] : Array UInt8 } : ByteArray }.toList) = false,
  (p.toList == { data := { toList := [] : Array UInt8 } : ByteArray }.toList) = false,
  (p.toList == { data := { toList := [] : Array UInt8 } : ByteArray }.toList) = false,
  (p.toList == { data := { toList := [] : Array UInt8 } : ByteArray }.toList) = false] := by kernel_rfl
theorem r2e (c : Int) (v : Value) : endsV EO 11 300 (entE EO 11 [.v (.agg #[.string ⟨#[]⟩, .int .i64 2, .int .i64 c])]) [(1000, .b true)] v = [
  Value.string { data := { toList := [] : Array UInt8 } : ByteArray } = v] := by kernel_rfl
theorem r3a (p : ByteArray) (c : Int) (v : Value) : endsV EO 11 300 (entE EO 11 [.v (.agg #[.string p, .int .i64 3, .int .i64 c])]) (ff [7, 8, 9, 10, 14, 16, 17] false) v = [
  Value.string
   ({
   data :=
   { toList := [(97 : UInt8), (103 : UInt8), (114 : UInt8), (101 : UInt8), (101 : UInt8), (100 : UInt8)] :
   Array UInt8 } :
   ByteArray } ++
   { data := { toList := [(32 : UInt8)] : Array UInt8 } : ByteArray } ++
   mkS (pathL p.data.toList) ++
   { data := { toList := [(10 : UInt8)] : Array UInt8 } : ByteArray }) =
   v,
  (({
   data :=
   { toList := [(97 : UInt8), (103 : UInt8), (114 : UInt8), (101 : UInt8), (101 : UInt8), (100 : UInt8)] :
   Array UInt8 } :
   ByteArray } ++
   { data := { toList := [(32 : UInt8)] : Array UInt8 } : ByteArray } ++
   mkS (pathL p.data.toList)).size +
   (1 : Nat)).le
   (9223372036854775807 : Nat),
  ((7 : Nat) + (mkS (pathL p.data.toList)).size).le (9223372036854775807 : Nat),
  p.size.le (1000000000 : Nat),
  Nat.le (7 : Nat) (9223372036854775807 : Nat),
  (!c == (0 : Int)) = false,
  (p.toList == { data := { toList := [] : Array UInt8 } : ByteArray }.toList) = false,
  (p.toList == { data := { toList := [] : Array UInt8 } : ByteArray }.toList) = false,
  (p.toList == { data := { toList := [] : Array UInt8 } : ByteArray }.toList) = false,
  (p.toList == { data := { toList := [] : Array UInt8 } : ByteArray }.toList) = false,
  (p.toList == { data := { toList := [] : Array UInt8 } : ByteArray }.toList) = false,
  (p.toList == { data := { toList := [] : Array UInt8 } : ByteArray }.toList) = false] := by kernel_rfl
theorem r3b (p : ByteArray) (c : Int) (v : Value) : endsV EO 11 300 (entE EO 11 [.v (.agg #[.string p, .int .i64 3, .int .i64 c])]) (ff [7, 8, 9, 10, 14, 16] false ++ [(17, .b true)]) v = [
  Value.string { data := { toList := [] : Array UInt8 } : ByteArray } = v,
  (!c == (0 : Int)) = true,
  (p.toList == { data := { toList := [] : Array UInt8 } : ByteArray }.toList) = false,
  (p.toList == { data := { toList := [] : Array UInt8 } : ByteArray }.toList) = false,
  (p.toList == { data := { toList := [] : Array UInt8 } : ByteArray }.toList) = false,
  (p.toList == { data := { toList := [] : Array UInt8 } : ByteArray }.toList) = false,
  (p.toList == { data := { toList := [] : Array UInt8 } : ByteArray }.toList) = false,
  (p.toList == { data := { toList := [] : Array UInt8 } : ByteArray }.toList) = false] := by kernel_rfl
theorem r3e (c : Int) (v : Value) : endsV EO 11 300 (entE EO 11 [.v (.agg #[.string ⟨#[]⟩, .int .i64 3, .int .i64 c])]) [(1000, .b true)] v = [
  Value.string { data := { toList := [] : Array UInt8 } : ByteArray } = v] := by kernel_rfl
theorem r4a (p : ByteArray) (c : Int) (v : Value) : endsV EO 11 300 (entE EO 11 [.v (.agg #[.string p, .int .i64 4, .int .i64 c])]) (ff [8, 9, 10, 11, 15, 17, 18] false) v = [
  Value.string
   ({ data := { toList := [(99 : UInt8), (108 : UInt8), (97 : UInt8), (115 : UInt8), (104 : UInt8)] : Array UInt8 } :
   ByteArray } ++
   { data := { toList := [(32 : UInt8)] : Array UInt8 } : ByteArray } ++
   mkS (pathL p.data.toList) ++
   { data := { toList := [(10 : UInt8)] : Array UInt8 } : ByteArray }) =
   v,
  (({ data := { toList := [(99 : UInt8), (108 : UInt8), (97 : UInt8), (115 : UInt8), (104 : UInt8)] : Array UInt8 } :
   ByteArray } ++
   { data := { toList := [(32 : UInt8)] : Array UInt8 } : ByteArray } ++
   mkS (pathL p.data.toList)).size +
   (1 : Nat)).le
   (9223372036854775807 : Nat),
  ((6 : Nat) + (mkS (pathL p.data.toList)).size).le (9223372036854775807 : Nat),
  p.size.le (1000000000 : Nat),
  Nat.le (6 : Nat) (9223372036854775807 : Nat),
  (!c == (0 : Int)) = false,
  (p.toList == { data := { toList := [] : Array UInt8 } : ByteArray }.toList) = false,
  (p.toList == { data := { toList := [] : Array UInt8 } : ByteArray }.toList) = false,
  (p.toList == { data := { toList := [] : Array UInt8 } : ByteArray }.toList) = false,
  (p.toList == { data := { toList := [] : Array UInt8 } : ByteArray }.toList) = false,
  (p.toList == { data := { toList := [] : Array UInt8 } : ByteArray }.toList) = false,
  (p.toList == { data := { toList := [] : Array UInt8 } : ByteArray }.toList) = false] := by kernel_rfl
theorem r4b (p : ByteArray) (c : Int) (v : Value) : endsV EO 11 300 (entE EO 11 [.v (.agg #[.string p, .int .i64 4, .int .i64 c])]) (ff [8, 9, 10, 11, 15, 17] false ++ [(18, .b true)]) v = [
  Value.string { data := { toList := [] : Array UInt8 } : ByteArray } = v,
  (!c == (0 : Int)) = true,
  (p.toList == { data := { toList := [] : Array UInt8 } : ByteArray }.toList) = false,
  (p.toList == { data := { toList := [] : Array UInt8 } : ByteArray }.toList) = false,
  (p.toList == { data := { toList := [] : Array UInt8 } : ByteArray }.toList) = false,
  (p.toList == { data := { toList := [] : Array UInt8 } : ByteArray }.toList) = false,
  (p.toList == { data := { toList := [] : Array UInt8 } : ByteArray }.toList) = false,
  (p.toList == { data := { toList := [] : Array UInt8 } : ByteArray }.toList) = false] := by kernel_rfl
theorem r4e (c : Int) (v : Value) : endsV EO 11 300 (entE EO 11 [.v (.agg #[.string ⟨#[]⟩, .int .i64 4, .int .i64 c])]) [(1000, .b true)] v = [
  Value.string { data := { toList := [] : Array UInt8 } : ByteArray } = v] := by kernel_rfl
theorem r5a (p : ByteArray) (c : Int) (v : Value) : endsV EO 11 300 (entE EO 11 [.v (.agg #[.string p, .int .i64 5, .int .i64 c])]) (ff [9, 10, 11, 12, 16, 18] false) v = [
  Value.string
   ({
   data :=
   {
   toList :=
   [(102 : UInt8), (97 : UInt8), (105 : UInt8), (108 : UInt8), (101 : UInt8), (100 : UInt8)] :
   Array UInt8 } :
   ByteArray } ++
   { data := { toList := [(32 : UInt8)] : Array UInt8 } : ByteArray } ++
   mkS (pathL p.data.toList) ++
   { data := { toList := [(32 : UInt8)] : Array UInt8 } : ByteArray } ++
   { data := { toList := Lib.itoa c : Array UInt8 } : ByteArray } ++
   { data := { toList := [(10 : UInt8)] : Array UInt8 } : ByteArray }) =
   v,
  (({
   data :=
   {
   toList :=
   [(102 : UInt8), (97 : UInt8), (105 : UInt8), (108 : UInt8), (101 : UInt8), (100 : UInt8)] :
   Array UInt8 } :
   ByteArray } ++
   { data := { toList := [(32 : UInt8)] : Array UInt8 } : ByteArray } ++
   mkS (pathL p.data.toList) ++
   { data := { toList := [(32 : UInt8)] : Array UInt8 } : ByteArray } ++
   { data := { toList := Lib.itoa c : Array UInt8 } : ByteArray }).size +
   (1 : Nat)).le
   (9223372036854775807 : Nat),
  (({
   data :=
   {
   toList :=
   [(102 : UInt8), (97 : UInt8), (105 : UInt8), (108 : UInt8), (101 : UInt8), (100 : UInt8)] :
   Array UInt8 } :
   ByteArray } ++
   { data := { toList := [(32 : UInt8)] : Array UInt8 } : ByteArray } ++
   mkS (pathL p.data.toList) ++
   { data := { toList := [(32 : UInt8)] : Array UInt8 } : ByteArray }).size +
   { data := { toList := Lib.itoa c : Array UInt8 } : ByteArray }.size).le
   (9223372036854775807 : Nat),
  (-9223372036854775808 : Int) ≤ c ∧ c ≤ (9223372036854775807 : Int),
  (({
   data :=
   { toList := [(102 : UInt8), (97 : UInt8), (105 : UInt8), (108 : UInt8), (101 : UInt8), (100 : UInt8)] :
   Array UInt8 } :
   ByteArray } ++
   { data := { toList := [(32 : UInt8)] : Array UInt8 } : ByteArray } ++
   mkS (pathL p.data.toList)).size +
   (1 : Nat)).le
   (9223372036854775807 : Nat),
  ((7 : Nat) + (mkS (pathL p.data.toList)).size).le (9223372036854775807 : Nat),
  p.size.le (1000000000 : Nat),
  Nat.le (7 : Nat) (9223372036854775807 : Nat),
  (p.toList == { data := { toList := [] : Array UInt8 } : ByteArray }.toList) = false,
  (p.toList == { data := { toList := [] : Array UInt8 } : ByteArray }.toList) = false,
  (p.toList == { data := { toList := [] : Array UInt8 } : ByteArray }.toList) = false,
  (p.toList == { data := { toList := [] : Array UInt8 } : ByteArray }.toList) = false,
  (p.toList == { data := { toList := [] : Array UInt8 } : ByteArray }.toList) = false,
  (p.toList == { data := { toList := [] : Array UInt8 } : ByteArray }.toList) = false] := by kernel_rfl
theorem r5e (c : Int) (v : Value) : endsV EO 11 300 (entE EO 11 [.v (.agg #[.string ⟨#[]⟩, .int .i64 5, .int .i64 c])]) [(1000, .b true)] v = [
  Value.string { data := { toList := [] : Array UInt8 } : ByteArray } = v] := by kernel_rfl
theorem r6a (p : ByteArray) (c : Int) (v : Value) : endsV EO 11 300 (entE EO 11 [.v (.agg #[.string p, .int .i64 6, .int .i64 c])]) (ff [10, 11, 12, 13, 17, 19] false) v = [
  Value.string
   ({
   data :=
   {
   toList :=
   [(117 : UInt8), (110 : UInt8), (115 : UInt8), (101 : UInt8), (116 : UInt8), (116 : UInt8),
   (108 : UInt8), (101 : UInt8), (100 : UInt8)] :
   Array UInt8 } :
   ByteArray } ++
   { data := { toList := [(32 : UInt8)] : Array UInt8 } : ByteArray } ++
   mkS (pathL p.data.toList) ++
   { data := { toList := [(32 : UInt8)] : Array UInt8 } : ByteArray } ++
   { data := { toList := Lib.itoa c : Array UInt8 } : ByteArray } ++
   { data := { toList := [(10 : UInt8)] : Array UInt8 } : ByteArray }) =
   v,
  (({
   data :=
   {
   toList :=
   [(117 : UInt8), (110 : UInt8), (115 : UInt8), (101 : UInt8), (116 : UInt8), (116 : UInt8),
   (108 : UInt8), (101 : UInt8), (100 : UInt8)] :
   Array UInt8 } :
   ByteArray } ++
   { data := { toList := [(32 : UInt8)] : Array UInt8 } : ByteArray } ++
   mkS (pathL p.data.toList) ++
   { data := { toList := [(32 : UInt8)] : Array UInt8 } : ByteArray } ++
   { data := { toList := Lib.itoa c : Array UInt8 } : ByteArray }).size +
   (1 : Nat)).le
   (9223372036854775807 : Nat),
  (({
   data :=
   {
   toList :=
   [(117 : UInt8), (110 : UInt8), (115 : UInt8), (101 : UInt8), (116 : UInt8), (116 : UInt8),
   (108 : UInt8), (101 : UInt8), (100 : UInt8)] :
   Array UInt8 } :
   ByteArray } ++
   { data := { toList := [(32 : UInt8)] : Array UInt8 } : ByteArray } ++
   mkS (pathL p.data.toList) ++
   { data := { toList := [(32 : UInt8)] : Array UInt8 } : ByteArray }).size +
   { data := { toList := Lib.itoa c : Array UInt8 } : ByteArray }.size).le
   (9223372036854775807 : Nat),
  (-9223372036854775808 : Int) ≤ c ∧ c ≤ (9223372036854775807 : Int),
  (({
   data :=
   {
   toList :=
   [(117 : UInt8), (110 : UInt8), (115 : UInt8), (101 : UInt8), (116 : UInt8), (116 : UInt8),
   (108 : UInt8), (101 : UInt8), (100 : UInt8)] :
   Array UInt8 } :
   ByteArray } ++
   { data := { toList := [(32 : UInt8)] : Array UInt8 } : ByteArray } ++
   mkS (pathL p.data.toList)).size +
   (1 : Nat)).le
   (9223372036854775807 : Nat),
  ((10 : Nat) + (mkS (pathL p.data.toList)).size).le (9223372036854775807 : Nat),
  p.size.le (1000000000 : Nat),
  Nat.le (10 : Nat) (9223372036854775807 : Nat),
  (p.toList == { data := { toList := [] : Array UInt8 } : ByteArray }.toList) = false,
  (p.toList == { data := { toList := [] : Array UInt8 } : ByteArray }.toList) = false,
  (p.toList == { data := { toList := [] : Array UInt8 } : ByteArray }.toList) = false,
  (p.toList == { data := { toList := [] : Array UInt8 } : ByteArray }.toList) = false,
  (p.toList == { data := { toList := [] : Array UInt8 } : ByteArray }.toList) = false,
  (p.toList == { data := { toList := [] : Array UInt8 } : ByteArray }.toList) = false] := by kernel_rfl
theorem r6e (c : Int) (v : Value) : endsV EO 11 300 (entE EO 11 [.v (.agg #[.string ⟨#[]⟩, .int .i64 6, .int .i64 c])]) [(1000, .b true)] v = [
  Value.string { data := { toList := [] : Array UInt8 } : ByteArray } = v] := by kernel_rfl
theorem r0 (p : ByteArray) (w c : Int) (v : Value) : endsV EO 11 300 (entE EO 11 [.v (.agg #[.string p, .int .i64 w, .int .i64 c])]) (ff [0, 1, 2, 3, 4, 5] false) v = [
  Value.string { data := { toList := [] : Array UInt8 } : ByteArray } = v,
  (w == (6 : Int)) = false,
  (w == (5 : Int)) = false,
  (w == (4 : Int)) = false,
  (w == (3 : Int)) = false,
  (w == (2 : Int)) = false,
  (w == (1 : Int)) = false] := by kernel_rfl
theorem t1a (p : ByteArray) (c : Int) (v : Value) : endsV ET 10 600 (entE ET 10 [.v (.agg #[.string p, .int .i64 1, .int .i64 c])]) (ff [8, 13] false) v = [
  Value.string
   (joinB
   [{
   data :=
   { toList := [(112 : UInt8), (117 : UInt8), (115 : UInt8), (104 : UInt8), (101 : UInt8), (100 : UInt8)] :
   Array UInt8 } :
   ByteArray },
   mkS (pathL p.data.toList)]
   { data := { toList := [(32 : UInt8)] : Array UInt8 } : ByteArray } ++
   { data := { toList := [(10 : UInt8)] : Array UInt8 } : ByteArray }) =
   v,
  ((joinB
   [{
   data :=
   { toList := [(112 : UInt8), (117 : UInt8), (115 : UInt8), (104 : UInt8), (101 : UInt8), (100 : UInt8)] :
   Array UInt8 } :
   ByteArray },
   mkS (pathL p.data.toList)]
   { data := { toList := [(32 : UInt8)] : Array UInt8 } : ByteArray }).size +
   (1 : Nat)).le
   (9223372036854775807 : Nat),
  (joinB
   [{
   data :=
   { toList := [(112 : UInt8), (117 : UInt8), (115 : UInt8), (104 : UInt8), (101 : UInt8), (100 : UInt8)] :
   Array UInt8 } :
   ByteArray },
   mkS (pathL p.data.toList)]
   { data := { toList := [(32 : UInt8)] : Array UInt8 } : ByteArray }).size.le
   (140737488355328 : Nat),
  true = true,
  p.size.le (1000000000 : Nat),
  true = true,
  true = true,
  (p == p) = true,
  (!c == (0 : Int)) = false,
  (p.toList == { data := { toList := [] : Array UInt8 } : ByteArray }.toList) = false] := by kernel_rfl
theorem t1b (p : ByteArray) (c : Int) (v : Value) : endsV ET 10 600 (entE ET 10 [.v (.agg #[.string p, .int .i64 1, .int .i64 c])]) (ff [8] false ++ [(13, .b true)]) v = [
  Value.string { data := { toList := [] : Array UInt8 } : ByteArray } = v,
  (!c == (0 : Int)) = true,
  (p.toList == { data := { toList := [] : Array UInt8 } : ByteArray }.toList) = false] := by kernel_rfl
theorem t1e (c : Int) (v : Value) : endsV ET 10 600 (entE ET 10 [.v (.agg #[.string ⟨#[]⟩, .int .i64 1, .int .i64 c])]) [(1000, .b true)] v = [
  Value.string { data := { toList := [] : Array UInt8 } : ByteArray } = v] := by kernel_rfl
theorem t2a (p : ByteArray) (c : Int) (v : Value) : endsV ET 10 600 (entE ET 10 [.v (.agg #[.string p, .int .i64 2, .int .i64 c])]) (ff [8, 13] false) v = [
  Value.string
   (joinB
   [{
   data :=
   { toList := [(112 : UInt8), (117 : UInt8), (108 : UInt8), (108 : UInt8), (101 : UInt8), (100 : UInt8)] :
   Array UInt8 } :
   ByteArray },
   mkS (pathL p.data.toList)]
   { data := { toList := [(32 : UInt8)] : Array UInt8 } : ByteArray } ++
   { data := { toList := [(10 : UInt8)] : Array UInt8 } : ByteArray }) =
   v,
  ((joinB
   [{
   data :=
   { toList := [(112 : UInt8), (117 : UInt8), (108 : UInt8), (108 : UInt8), (101 : UInt8), (100 : UInt8)] :
   Array UInt8 } :
   ByteArray },
   mkS (pathL p.data.toList)]
   { data := { toList := [(32 : UInt8)] : Array UInt8 } : ByteArray }).size +
   (1 : Nat)).le
   (9223372036854775807 : Nat),
  (joinB
   [{
   data :=
   { toList := [(112 : UInt8), (117 : UInt8), (108 : UInt8), (108 : UInt8), (101 : UInt8), (100 : UInt8)] :
   Array UInt8 } :
   ByteArray },
   mkS (pathL p.data.toList)]
   { data := { toList := [(32 : UInt8)] : Array UInt8 } : ByteArray }).size.le
   (140737488355328 : Nat),
  true = true,
  p.size.le (1000000000 : Nat),
  true = true,
  true = true,
  (p == p) = true,
  (!c == (0 : Int)) = false,
  (p.toList == { data := { toList := [] : Array UInt8 } : ByteArray }.toList) = false] := by kernel_rfl
theorem t2b (p : ByteArray) (c : Int) (v : Value) : endsV ET 10 600 (entE ET 10 [.v (.agg #[.string p, .int .i64 2, .int .i64 c])]) (ff [8] false ++ [(13, .b true)]) v = [
  Value.string { data := { toList := [] : Array UInt8 } : ByteArray } = v,
  (!c == (0 : Int)) = true,
  (p.toList == { data := { toList := [] : Array UInt8 } : ByteArray }.toList) = false] := by kernel_rfl
theorem t2e (c : Int) (v : Value) : endsV ET 10 600 (entE ET 10 [.v (.agg #[.string ⟨#[]⟩, .int .i64 2, .int .i64 c])]) [(1000, .b true)] v = [
  Value.string { data := { toList := [] : Array UInt8 } : ByteArray } = v] := by kernel_rfl
theorem t3a (p : ByteArray) (c : Int) (v : Value) : endsV ET 10 600 (entE ET 10 [.v (.agg #[.string p, .int .i64 3, .int .i64 c])]) (ff [8, 13] false) v = [
  Value.string
   (joinB
   [{
   data :=
   { toList := [(97 : UInt8), (103 : UInt8), (114 : UInt8), (101 : UInt8), (101 : UInt8), (100 : UInt8)] :
   Array UInt8 } :
   ByteArray },
   mkS (pathL p.data.toList)]
   { data := { toList := [(32 : UInt8)] : Array UInt8 } : ByteArray } ++
   { data := { toList := [(10 : UInt8)] : Array UInt8 } : ByteArray }) =
   v,
  ((joinB
   [{
   data :=
   { toList := [(97 : UInt8), (103 : UInt8), (114 : UInt8), (101 : UInt8), (101 : UInt8), (100 : UInt8)] :
   Array UInt8 } :
   ByteArray },
   mkS (pathL p.data.toList)]
   { data := { toList := [(32 : UInt8)] : Array UInt8 } : ByteArray }).size +
   (1 : Nat)).le
   (9223372036854775807 : Nat),
  (joinB
   [{
   data :=
   { toList := [(97 : UInt8), (103 : UInt8), (114 : UInt8), (101 : UInt8), (101 : UInt8), (100 : UInt8)] :
   Array UInt8 } :
   ByteArray },
   mkS (pathL p.data.toList)]
   { data := { toList := [(32 : UInt8)] : Array UInt8 } : ByteArray }).size.le
   (140737488355328 : Nat),
  true = true,
  p.size.le (1000000000 : Nat),
  true = true,
  true = true,
  (p == p) = true,
  (!c == (0 : Int)) = false,
  (p.toList == { data := { toList := [] : Array UInt8 } : ByteArray }.toList) = false] := by kernel_rfl
theorem t3b (p : ByteArray) (c : Int) (v : Value) : endsV ET 10 600 (entE ET 10 [.v (.agg #[.string p, .int .i64 3, .int .i64 c])]) (ff [8] false ++ [(13, .b true)]) v = [
  Value.string { data := { toList := [] : Array UInt8 } : ByteArray } = v,
  (!c == (0 : Int)) = true,
  (p.toList == { data := { toList := [] : Array UInt8 } : ByteArray }.toList) = false] := by kernel_rfl
theorem t3e (c : Int) (v : Value) : endsV ET 10 600 (entE ET 10 [.v (.agg #[.string ⟨#[]⟩, .int .i64 3, .int .i64 c])]) [(1000, .b true)] v = [
  Value.string { data := { toList := [] : Array UInt8 } : ByteArray } = v] := by kernel_rfl
theorem t4a (p : ByteArray) (c : Int) (v : Value) : endsV ET 10 600 (entE ET 10 [.v (.agg #[.string p, .int .i64 4, .int .i64 c])]) (ff [8, 13] false) v = [
  Value.string
   (joinB
   [{
   data :=
   { toList := [(99 : UInt8), (108 : UInt8), (97 : UInt8), (115 : UInt8), (104 : UInt8)] : Array UInt8 } :
   ByteArray },
   mkS (pathL p.data.toList)]
   { data := { toList := [(32 : UInt8)] : Array UInt8 } : ByteArray } ++
   { data := { toList := [(10 : UInt8)] : Array UInt8 } : ByteArray }) =
   v,
  ((joinB
   [{
   data :=
   { toList := [(99 : UInt8), (108 : UInt8), (97 : UInt8), (115 : UInt8), (104 : UInt8)] : Array UInt8 } :
   ByteArray },
   mkS (pathL p.data.toList)]
   { data := { toList := [(32 : UInt8)] : Array UInt8 } : ByteArray }).size +
   (1 : Nat)).le
   (9223372036854775807 : Nat),
  (joinB
   [{
   data :=
   { toList := [(99 : UInt8), (108 : UInt8), (97 : UInt8), (115 : UInt8), (104 : UInt8)] : Array UInt8 } :
   ByteArray },
   mkS (pathL p.data.toList)]
   { data := { toList := [(32 : UInt8)] : Array UInt8 } : ByteArray }).size.le
   (140737488355328 : Nat),
  true = true,
  p.size.le (1000000000 : Nat),
  true = true,
  true = true,
  (p == p) = true,
  (!c == (0 : Int)) = false,
  (p.toList == { data := { toList := [] : Array UInt8 } : ByteArray }.toList) = false] := by kernel_rfl
theorem t4b (p : ByteArray) (c : Int) (v : Value) : endsV ET 10 600 (entE ET 10 [.v (.agg #[.string p, .int .i64 4, .int .i64 c])]) (ff [8] false ++ [(13, .b true)]) v = [
  Value.string { data := { toList := [] : Array UInt8 } : ByteArray } = v,
  (!c == (0 : Int)) = true,
  (p.toList == { data := { toList := [] : Array UInt8 } : ByteArray }.toList) = false] := by kernel_rfl
theorem t4e (c : Int) (v : Value) : endsV ET 10 600 (entE ET 10 [.v (.agg #[.string ⟨#[]⟩, .int .i64 4, .int .i64 c])]) [(1000, .b true)] v = [
  Value.string { data := { toList := [] : Array UInt8 } : ByteArray } = v] := by kernel_rfl
theorem t5a (p : ByteArray) (c : Int) (v : Value) : endsV ET 10 600 (entE ET 10 [.v (.agg #[.string p, .int .i64 5, .int .i64 c])]) (ff [8] false) v = [
  Value.string
   (joinB
   [{
   data :=
   { toList := [(102 : UInt8), (97 : UInt8), (105 : UInt8), (108 : UInt8), (101 : UInt8), (100 : UInt8)] :
   Array UInt8 } :
   ByteArray },
   mkS (pathL p.data.toList), { data := { toList := Lib.itoa c : Array UInt8 } : ByteArray }]
   { data := { toList := [(32 : UInt8)] : Array UInt8 } : ByteArray } ++
   { data := { toList := [(10 : UInt8)] : Array UInt8 } : ByteArray }) =
   v,
  ((joinB
   [{
   data :=
   { toList := [(102 : UInt8), (97 : UInt8), (105 : UInt8), (108 : UInt8), (101 : UInt8), (100 : UInt8)] :
   Array UInt8 } :
   ByteArray },
   mkS (pathL p.data.toList), { data := { toList := Lib.itoa c : Array UInt8 } : ByteArray }]
   { data := { toList := [(32 : UInt8)] : Array UInt8 } : ByteArray }).size +
   (1 : Nat)).le
   (9223372036854775807 : Nat),
  (joinB
   [{
   data :=
   { toList := [(102 : UInt8), (97 : UInt8), (105 : UInt8), (108 : UInt8), (101 : UInt8), (100 : UInt8)] :
   Array UInt8 } :
   ByteArray },
   mkS (pathL p.data.toList), { data := { toList := Lib.itoa c : Array UInt8 } : ByteArray }]
   { data := { toList := [(32 : UInt8)] : Array UInt8 } : ByteArray }).size.le
   (140737488355328 : Nat),
  true = true,
  (-9223372036854775808 : Int) ≤ c ∧ c ≤ (9223372036854775807 : Int),
  true = true,
  (c == c) = true,
  p.size.le (1000000000 : Nat),
  true = true,
  true = true,
  (p == p) = true,
  (c == c) = true,
  (p.toList == { data := { toList := [] : Array UInt8 } : ByteArray }.toList) = false] := by kernel_rfl
theorem t5e (c : Int) (v : Value) : endsV ET 10 600 (entE ET 10 [.v (.agg #[.string ⟨#[]⟩, .int .i64 5, .int .i64 c])]) [(1000, .b true)] v = [
  Value.string { data := { toList := [] : Array UInt8 } : ByteArray } = v] := by kernel_rfl
theorem t6a (p : ByteArray) (c : Int) (v : Value) : endsV ET 10 600 (entE ET 10 [.v (.agg #[.string p, .int .i64 6, .int .i64 c])]) (ff [8] false) v = [
  Value.string
   (joinB
   [{
   data :=
   {
   toList :=
   [(117 : UInt8), (110 : UInt8), (115 : UInt8), (101 : UInt8), (116 : UInt8), (116 : UInt8),
   (108 : UInt8), (101 : UInt8), (100 : UInt8)] :
   Array UInt8 } :
   ByteArray },
   mkS (pathL p.data.toList), { data := { toList := Lib.itoa c : Array UInt8 } : ByteArray }]
   { data := { toList := [(32 : UInt8)] : Array UInt8 } : ByteArray } ++
   { data := { toList := [(10 : UInt8)] : Array UInt8 } : ByteArray }) =
   v,
  ((joinB
   [{
   data :=
   {
   toList :=
   [(117 : UInt8), (110 : UInt8), (115 : UInt8), (101 : UInt8), (116 : UInt8), (116 : UInt8),
   (108 : UInt8), (101 : UInt8), (100 : UInt8)] :
   Array UInt8 } :
   ByteArray },
   mkS (pathL p.data.toList), { data := { toList := Lib.itoa c : Array UInt8 } : ByteArray }]
   { data := { toList := [(32 : UInt8)] : Array UInt8 } : ByteArray }).size +
   (1 : Nat)).le
   (9223372036854775807 : Nat),
  (joinB
   [{
   data :=
   {
   toList :=
   [(117 : UInt8), (110 : UInt8), (115 : UInt8), (101 : UInt8), (116 : UInt8), (116 : UInt8),
   (108 : UInt8), (101 : UInt8), (100 : UInt8)] :
   Array UInt8 } :
   ByteArray },
   mkS (pathL p.data.toList), { data := { toList := Lib.itoa c : Array UInt8 } : ByteArray }]
   { data := { toList := [(32 : UInt8)] : Array UInt8 } : ByteArray }).size.le
   (140737488355328 : Nat),
  true = true,
  (-9223372036854775808 : Int) ≤ c ∧ c ≤ (9223372036854775807 : Int),
  true = true,
  (c == c) = true,
  p.size.le (1000000000 : Nat),
  true = true,
  true = true,
  (p == p) = true,
  (c == c) = true,
  (p.toList == { data := { toList := [] : Array UInt8 } : ByteArray }.toList) = false] := by kernel_rfl
theorem t6e (c : Int) (v : Value) : endsV ET 10 600 (entE ET 10 [.v (.agg #[.string ⟨#[]⟩, .int .i64 6, .int .i64 c])]) [(1000, .b true)] v = [
  Value.string { data := { toList := [] : Array UInt8 } : ByteArray } = v] := by kernel_rfl
theorem t0 (p : ByteArray) (w c : Int) (v : Value) : endsV ET 10 600 (entE ET 10 [.v (.agg #[.string p, .int .i64 w, .int .i64 c])]) (ff [0, 1, 2, 3] true) v = [
  Value.string { data := { toList := [] : Array UInt8 } : ByteArray } = v,
  decide (w < (1 : Int)) = true,
  decide (w < (1 : Int)) = true,
  decide (w < (1 : Int)) = true,
  decide (w < (1 : Int)) = true] := by kernel_rfl
theorem t7 (p : ByteArray) (w c : Int) (v : Value) : endsV ET 10 600 (entE ET 10 [.v (.agg #[.string p, .int .i64 w, .int .i64 c])]) (ff [0, 1, 2, 3] false ++ ff [4, 5, 6, 7] true) v = [
  Value.string { data := { toList := [] : Array UInt8 } : ByteArray } = v,
  decide (w > (6 : Int)) = true,
  decide (w > (6 : Int)) = true,
  decide (w > (6 : Int)) = true,
  decide (w > (6 : Int)) = true,
  decide (w < (1 : Int)) = false,
  decide (w < (1 : Int)) = false,
  decide (w < (1 : Int)) = false,
  decide (w < (1 : Int)) = false] := by kernel_rfl
theorem lit_mkS (l : List UInt8) : ({ data := { toList := l } } : ByteArray) = mkS l := rfl
theorem mkS_nil : (⟨#[]⟩ : ByteArray) = mkS [] := rfl
theorem mkS_list (l : List UInt8) : (mkS l).toList = l := by rw [ByteArray.toList_eq]; rfl
theorem nle {a b : Nat} (h : a ≤ b) : a.le b := h
theorem joinB3 (a b c s : List UInt8) : joinB [mkS a, mkS b, mkS c] (mkS s) = mkS (a ++ s ++ b ++ s ++ c) := by
  show mkS (Lib.join [a, b, c] s) = _
  congr 1
  simp [Lib.join, List.intercalate]
theorem joinB2 (a b s : List UInt8) : joinB [mkS a, mkS b] (mkS s) = mkS (a ++ s ++ b) := by
  show mkS (Lib.join [a, b] s) = _
  congr 1
  simp [Lib.join, List.intercalate]
theorem itoa_len {c : Int} (h0 : -9223372036854775808 ≤ c) (h1 : c ≤ 9223372036854775807) : (Lib.itoa c).length ≤ 21 := by
  unfold Lib.itoa
  split
  · have := numB_len (n := c.natAbs) (by omega)
    simp only [numB, ByteArray.size, List.size_toArray] at this
    simp only [List.length_cons]; omega
  · have := numB_len (n := c.toNat) (by omega)
    simp only [numB, ByteArray.size, List.size_toArray] at this
    omega
/-- An outcome's word. -/
def wname (w : Int) : List UInt8 := if w = 1 then [112, 117, 115, 104, 101, 100] else if w = 2 then [112, 117, 108, 108, 101, 100] else if w = 3 then [97, 103, 114, 101, 101, 100] else if w = 4 then [99, 108, 97, 115, 104] else if w = 5 then [102, 97, 105, 108, 101, 100] else if w = 6 then [117, 110, 115, 101, 116, 116, 108, 101, 100] else []
/-- An outcome's line. -/
def outB (p : List UInt8) (w c : Int) : ByteArray :=
  if w < 1 ∨ w > 6 ∨ p = [] then mkS [] else if 5 ≤ w then mkS (wname w ++ [32] ++ pathL p ++ [32] ++ Lib.itoa c ++ [10]) else if c = 0 then mkS (wname w ++ [32] ++ pathL p ++ [10]) else mkS []
theorem outB_none {p : List UInt8} {w c : Int} (h : w < 1 ∨ w > 6 ∨ p = []) : outB p w c = mkS [] := by unfold outB; rw [if_pos h]
section
variable {M : Own} {w0 : World} {cs0 : List Frame} {R : Ending → World → Prop} {ν : Val} {p : ByteArray} {c : Int}
theorem gor1 (hM : ∀ b, ¬ M b) (hp : p.size ≤ 1000000000) (hc : -9223372036854775808 ≤ c ∧ c ≤ 9223372036854775807) (hR : ∀ w', Below w0.heap.size w0 w' → R (.returned (.string (outB p.data.toList 1 c))) w') :
    Goes EO M w0 cs0 11 R ν (entE EO 11 [.v (.agg #[.string p, .int .i64 1, .int .i64 c])]) := by
  have hend : ∀ ν' M1 w1 s' w', ν.Le ν' → Base M w0 M1 w1 → HR ν' M1 w1 s' w' → R (.returned (.string (outB p.data.toList 1 c))) w' := fun ν' M1 w1 s' w' _ hB hr => hR _ (below_of hM hB hr)
  have hpl := pathL_len p.data.toList
  have hl : p.data.toList.length = p.size := by simp
  have hil := itoa_len hc.1 hc.2
  have hz : (mkS []).toList = [] := mkS_list []
  by_cases h : p.data.toList = []
  · have hpe : p = ⟨#[]⟩ := by rw [← mkS_of p, h]; rfl
    subst hpe
    refine Goes.endsV KO (n := 300) (o := [(1000, .b true)]) (v := .string (outB [] 1 c)) ?_ hend
    rw [r1e]
    simp [Owed, outB, mkS]
  have hp0 : (p.toList == (mkS []).toList) = false := by rw [ByteArray.toList_eq, hz]; cases hq : p.data.toList <;> simp_all
  by_cases h0 : c = 0
  · refine Goes.endsV KO (n := 300) (o := ff [5, 6, 7, 8, 12, 14, 15] false) (v := .string (outB p.data.toList 1 c)) ?_ hend
    rw [r1a]
    have hx : outB p.data.toList 1 c = mkS ([112, 117, 115, 104, 101, 100] ++ [32] ++ pathL p.data.toList ++ [10]) := by simp [outB, wname, h, h0]
    rw [hx]
    simp only [Owed, lit_mkS, mkS_app, mkS_size, joinB2, hp0, h0, true_and, and_true]
    repeat' apply And.intro
    all_goals first | rfl | exact (ba_beq _ _).2 rfl | exact hp | (refine nle ?_; (try simp only [List.length_append, List.length_cons, List.length_nil, mkS_size]); omega) | (simp; done) | skip
  · refine Goes.endsV KO (n := 300) (o := ff [5, 6, 7, 8, 12, 14] false ++ [(15, .b true)]) (v := .string (outB p.data.toList 1 c)) ?_ hend
    rw [r1b]
    have hx : outB p.data.toList 1 c = mkS [] := by simp [outB, h, h0]
    rw [hx]
    simp only [Owed, lit_mkS, hp0, true_and, and_true]
    repeat' apply And.intro
    all_goals first | rfl | (simp [h0]; done)
theorem gor2 (hM : ∀ b, ¬ M b) (hp : p.size ≤ 1000000000) (hc : -9223372036854775808 ≤ c ∧ c ≤ 9223372036854775807) (hR : ∀ w', Below w0.heap.size w0 w' → R (.returned (.string (outB p.data.toList 2 c))) w') :
    Goes EO M w0 cs0 11 R ν (entE EO 11 [.v (.agg #[.string p, .int .i64 2, .int .i64 c])]) := by
  have hend : ∀ ν' M1 w1 s' w', ν.Le ν' → Base M w0 M1 w1 → HR ν' M1 w1 s' w' → R (.returned (.string (outB p.data.toList 2 c))) w' := fun ν' M1 w1 s' w' _ hB hr => hR _ (below_of hM hB hr)
  have hpl := pathL_len p.data.toList
  have hl : p.data.toList.length = p.size := by simp
  have hil := itoa_len hc.1 hc.2
  have hz : (mkS []).toList = [] := mkS_list []
  by_cases h : p.data.toList = []
  · have hpe : p = ⟨#[]⟩ := by rw [← mkS_of p, h]; rfl
    subst hpe
    refine Goes.endsV KO (n := 300) (o := [(1000, .b true)]) (v := .string (outB [] 2 c)) ?_ hend
    rw [r2e]
    simp [Owed, outB, mkS]
  have hp0 : (p.toList == (mkS []).toList) = false := by rw [ByteArray.toList_eq, hz]; cases hq : p.data.toList <;> simp_all
  by_cases h0 : c = 0
  · refine Goes.endsV KO (n := 300) (o := ff [6, 7, 8, 9, 13, 15, 16] false) (v := .string (outB p.data.toList 2 c)) ?_ hend
    rw [r2a]
    have hx : outB p.data.toList 2 c = mkS ([112, 117, 108, 108, 101, 100] ++ [32] ++ pathL p.data.toList ++ [10]) := by simp [outB, wname, h, h0]
    rw [hx]
    simp only [Owed, lit_mkS, mkS_app, mkS_size, joinB2, hp0, h0, true_and, and_true]
    repeat' apply And.intro
    all_goals first | rfl | exact (ba_beq _ _).2 rfl | exact hp | (refine nle ?_; (try simp only [List.length_append, List.length_cons, List.length_nil, mkS_size]); omega) | (simp; done) | skip
  · refine Goes.endsV KO (n := 300) (o := ff [6, 7, 8, 9, 13, 15] false ++ [(16, .b true)]) (v := .string (outB p.data.toList 2 c)) ?_ hend
    rw [r2b]
    have hx : outB p.data.toList 2 c = mkS [] := by simp [outB, h, h0]
    rw [hx]
    simp only [Owed, lit_mkS, hp0, true_and, and_true]
    repeat' apply And.intro
    all_goals first | rfl | (simp [h0]; done)
theorem gor3 (hM : ∀ b, ¬ M b) (hp : p.size ≤ 1000000000) (hc : -9223372036854775808 ≤ c ∧ c ≤ 9223372036854775807) (hR : ∀ w', Below w0.heap.size w0 w' → R (.returned (.string (outB p.data.toList 3 c))) w') :
    Goes EO M w0 cs0 11 R ν (entE EO 11 [.v (.agg #[.string p, .int .i64 3, .int .i64 c])]) := by
  have hend : ∀ ν' M1 w1 s' w', ν.Le ν' → Base M w0 M1 w1 → HR ν' M1 w1 s' w' → R (.returned (.string (outB p.data.toList 3 c))) w' := fun ν' M1 w1 s' w' _ hB hr => hR _ (below_of hM hB hr)
  have hpl := pathL_len p.data.toList
  have hl : p.data.toList.length = p.size := by simp
  have hil := itoa_len hc.1 hc.2
  have hz : (mkS []).toList = [] := mkS_list []
  by_cases h : p.data.toList = []
  · have hpe : p = ⟨#[]⟩ := by rw [← mkS_of p, h]; rfl
    subst hpe
    refine Goes.endsV KO (n := 300) (o := [(1000, .b true)]) (v := .string (outB [] 3 c)) ?_ hend
    rw [r3e]
    simp [Owed, outB, mkS]
  have hp0 : (p.toList == (mkS []).toList) = false := by rw [ByteArray.toList_eq, hz]; cases hq : p.data.toList <;> simp_all
  by_cases h0 : c = 0
  · refine Goes.endsV KO (n := 300) (o := ff [7, 8, 9, 10, 14, 16, 17] false) (v := .string (outB p.data.toList 3 c)) ?_ hend
    rw [r3a]
    have hx : outB p.data.toList 3 c = mkS ([97, 103, 114, 101, 101, 100] ++ [32] ++ pathL p.data.toList ++ [10]) := by simp [outB, wname, h, h0]
    rw [hx]
    simp only [Owed, lit_mkS, mkS_app, mkS_size, joinB2, hp0, h0, true_and, and_true]
    repeat' apply And.intro
    all_goals first | rfl | exact (ba_beq _ _).2 rfl | exact hp | (refine nle ?_; (try simp only [List.length_append, List.length_cons, List.length_nil, mkS_size]); omega) | (simp; done) | skip
  · refine Goes.endsV KO (n := 300) (o := ff [7, 8, 9, 10, 14, 16] false ++ [(17, .b true)]) (v := .string (outB p.data.toList 3 c)) ?_ hend
    rw [r3b]
    have hx : outB p.data.toList 3 c = mkS [] := by simp [outB, h, h0]
    rw [hx]
    simp only [Owed, lit_mkS, hp0, true_and, and_true]
    repeat' apply And.intro
    all_goals first | rfl | (simp [h0]; done)
theorem gor4 (hM : ∀ b, ¬ M b) (hp : p.size ≤ 1000000000) (hc : -9223372036854775808 ≤ c ∧ c ≤ 9223372036854775807) (hR : ∀ w', Below w0.heap.size w0 w' → R (.returned (.string (outB p.data.toList 4 c))) w') :
    Goes EO M w0 cs0 11 R ν (entE EO 11 [.v (.agg #[.string p, .int .i64 4, .int .i64 c])]) := by
  have hend : ∀ ν' M1 w1 s' w', ν.Le ν' → Base M w0 M1 w1 → HR ν' M1 w1 s' w' → R (.returned (.string (outB p.data.toList 4 c))) w' := fun ν' M1 w1 s' w' _ hB hr => hR _ (below_of hM hB hr)
  have hpl := pathL_len p.data.toList
  have hl : p.data.toList.length = p.size := by simp
  have hil := itoa_len hc.1 hc.2
  have hz : (mkS []).toList = [] := mkS_list []
  by_cases h : p.data.toList = []
  · have hpe : p = ⟨#[]⟩ := by rw [← mkS_of p, h]; rfl
    subst hpe
    refine Goes.endsV KO (n := 300) (o := [(1000, .b true)]) (v := .string (outB [] 4 c)) ?_ hend
    rw [r4e]
    simp [Owed, outB, mkS]
  have hp0 : (p.toList == (mkS []).toList) = false := by rw [ByteArray.toList_eq, hz]; cases hq : p.data.toList <;> simp_all
  by_cases h0 : c = 0
  · refine Goes.endsV KO (n := 300) (o := ff [8, 9, 10, 11, 15, 17, 18] false) (v := .string (outB p.data.toList 4 c)) ?_ hend
    rw [r4a]
    have hx : outB p.data.toList 4 c = mkS ([99, 108, 97, 115, 104] ++ [32] ++ pathL p.data.toList ++ [10]) := by simp [outB, wname, h, h0]
    rw [hx]
    simp only [Owed, lit_mkS, mkS_app, mkS_size, joinB2, hp0, h0, true_and, and_true]
    repeat' apply And.intro
    all_goals first | rfl | exact (ba_beq _ _).2 rfl | exact hp | (refine nle ?_; (try simp only [List.length_append, List.length_cons, List.length_nil, mkS_size]); omega) | (simp; done) | skip
  · refine Goes.endsV KO (n := 300) (o := ff [8, 9, 10, 11, 15, 17] false ++ [(18, .b true)]) (v := .string (outB p.data.toList 4 c)) ?_ hend
    rw [r4b]
    have hx : outB p.data.toList 4 c = mkS [] := by simp [outB, h, h0]
    rw [hx]
    simp only [Owed, lit_mkS, hp0, true_and, and_true]
    repeat' apply And.intro
    all_goals first | rfl | (simp [h0]; done)
theorem gor5 (hM : ∀ b, ¬ M b) (hp : p.size ≤ 1000000000) (hc : -9223372036854775808 ≤ c ∧ c ≤ 9223372036854775807) (hR : ∀ w', Below w0.heap.size w0 w' → R (.returned (.string (outB p.data.toList 5 c))) w') :
    Goes EO M w0 cs0 11 R ν (entE EO 11 [.v (.agg #[.string p, .int .i64 5, .int .i64 c])]) := by
  have hend : ∀ ν' M1 w1 s' w', ν.Le ν' → Base M w0 M1 w1 → HR ν' M1 w1 s' w' → R (.returned (.string (outB p.data.toList 5 c))) w' := fun ν' M1 w1 s' w' _ hB hr => hR _ (below_of hM hB hr)
  have hpl := pathL_len p.data.toList
  have hl : p.data.toList.length = p.size := by simp
  have hil := itoa_len hc.1 hc.2
  have hz : (mkS []).toList = [] := mkS_list []
  by_cases h : p.data.toList = []
  · have hpe : p = ⟨#[]⟩ := by rw [← mkS_of p, h]; rfl
    subst hpe
    refine Goes.endsV KO (n := 300) (o := [(1000, .b true)]) (v := .string (outB [] 5 c)) ?_ hend
    rw [r5e]
    simp [Owed, outB, mkS]
  have hp0 : (p.toList == (mkS []).toList) = false := by rw [ByteArray.toList_eq, hz]; cases hq : p.data.toList <;> simp_all
  refine Goes.endsV KO (n := 300) (o := ff [9, 10, 11, 12, 16, 18] false) (v := .string (outB p.data.toList 5 c)) ?_ hend
  rw [r5a]
  have hx : outB p.data.toList 5 c = mkS ([102, 97, 105, 108, 101, 100] ++ [32] ++ pathL p.data.toList ++ [32] ++ Lib.itoa c ++ [10]) := by simp [outB, wname, h]
  rw [hx]
  simp only [Owed, lit_mkS, mkS_app, mkS_size, joinB3, hp0, true_and, and_true]
  repeat' apply And.intro
  all_goals first | rfl | exact (ba_beq _ _).2 rfl | exact hp | exact hc.1 | exact hc.2 | (refine nle ?_; (try simp only [List.length_append, List.length_cons, List.length_nil, mkS_size]); omega) | (simp; done) | skip
theorem gor6 (hM : ∀ b, ¬ M b) (hp : p.size ≤ 1000000000) (hc : -9223372036854775808 ≤ c ∧ c ≤ 9223372036854775807) (hR : ∀ w', Below w0.heap.size w0 w' → R (.returned (.string (outB p.data.toList 6 c))) w') :
    Goes EO M w0 cs0 11 R ν (entE EO 11 [.v (.agg #[.string p, .int .i64 6, .int .i64 c])]) := by
  have hend : ∀ ν' M1 w1 s' w', ν.Le ν' → Base M w0 M1 w1 → HR ν' M1 w1 s' w' → R (.returned (.string (outB p.data.toList 6 c))) w' := fun ν' M1 w1 s' w' _ hB hr => hR _ (below_of hM hB hr)
  have hpl := pathL_len p.data.toList
  have hl : p.data.toList.length = p.size := by simp
  have hil := itoa_len hc.1 hc.2
  have hz : (mkS []).toList = [] := mkS_list []
  by_cases h : p.data.toList = []
  · have hpe : p = ⟨#[]⟩ := by rw [← mkS_of p, h]; rfl
    subst hpe
    refine Goes.endsV KO (n := 300) (o := [(1000, .b true)]) (v := .string (outB [] 6 c)) ?_ hend
    rw [r6e]
    simp [Owed, outB, mkS]
  have hp0 : (p.toList == (mkS []).toList) = false := by rw [ByteArray.toList_eq, hz]; cases hq : p.data.toList <;> simp_all
  refine Goes.endsV KO (n := 300) (o := ff [10, 11, 12, 13, 17, 19] false) (v := .string (outB p.data.toList 6 c)) ?_ hend
  rw [r6a]
  have hx : outB p.data.toList 6 c = mkS ([117, 110, 115, 101, 116, 116, 108, 101, 100] ++ [32] ++ pathL p.data.toList ++ [32] ++ Lib.itoa c ++ [10]) := by simp [outB, wname, h]
  rw [hx]
  simp only [Owed, lit_mkS, mkS_app, mkS_size, joinB3, hp0, true_and, and_true]
  repeat' apply And.intro
  all_goals first | rfl | exact (ba_beq _ _).2 rfl | exact hp | exact hc.1 | exact hc.2 | (refine nle ?_; (try simp only [List.length_append, List.length_cons, List.length_nil, mkS_size]); omega) | (simp; done) | skip
theorem gor0 {x : Int} (hx : x < 1 ∨ x > 6) (hM : ∀ b, ¬ M b) (hR : ∀ w', Below w0.heap.size w0 w' → R (.returned (.string (outB p.data.toList x c))) w') :
    Goes EO M w0 cs0 11 R ν (entE EO 11 [.v (.agg #[.string p, .int .i64 x, .int .i64 c])]) := by
  refine Goes.endsV KO (n := 300) (o := ff [0, 1, 2, 3, 4, 5] false) (v := .string (outB p.data.toList x c)) ?_ fun ν' M1 w1 s' w' _ hB hr => hR _ (below_of hM hB hr)
  rw [r0, outB_none (by omega)]
  simp only [Owed, lit_mkS, true_and, and_true]
  repeat' apply And.intro
  all_goals first | rfl | (simp; omega)
theorem got1 (hM : ∀ b, ¬ M b) (hT : PowTab w0) (hp : p.size ≤ 1000000000) (hc : -9223372036854775808 ≤ c ∧ c ≤ 9223372036854775807) (hR : ∀ w', Below w0.heap.size w0 w' → R (.returned (.string (outB p.data.toList 1 c))) w') :
    Goes ET M w0 cs0 10 R ν (entE ET 10 [.v (.agg #[.string p, .int .i64 1, .int .i64 c])]) := by
  have hend : ∀ ν' M1 w1 s' w', ν.Le ν' → Base M w0 M1 w1 → HR ν' M1 w1 s' w' → R (.returned (.string (outB p.data.toList 1 c))) w' := fun ν' M1 w1 s' w' _ hB hr => hR _ (below_of hM hB hr)
  have hpl := pathL_len p.data.toList
  have hl : p.data.toList.length = p.size := by simp
  have hil := itoa_len hc.1 hc.2
  have hz : (mkS []).toList = [] := mkS_list []
  by_cases h : p.data.toList = []
  · have hpe : p = ⟨#[]⟩ := by rw [← mkS_of p, h]; rfl
    subst hpe
    refine Goes.endsV (KT hM hT) (n := 600) (o := [(1000, .b true)]) (v := .string (outB [] 1 c)) ?_ hend
    rw [t1e]
    simp [Owed, outB, mkS]
  have hp0 : (p.toList == (mkS []).toList) = false := by rw [ByteArray.toList_eq, hz]; cases hq : p.data.toList <;> simp_all
  by_cases h0 : c = 0
  · refine Goes.endsV (KT hM hT) (n := 600) (o := ff [8, 13] false) (v := .string (outB p.data.toList 1 c)) ?_ hend
    rw [t1a]
    have hx : outB p.data.toList 1 c = mkS ([112, 117, 115, 104, 101, 100] ++ [32] ++ pathL p.data.toList ++ [10]) := by simp [outB, wname, h, h0]
    rw [hx]
    simp only [Owed, lit_mkS, mkS_app, mkS_size, joinB2, hp0, h0, true_and, and_true]
    repeat' apply And.intro
    all_goals first | rfl | exact (ba_beq _ _).2 rfl | exact hp | (refine nle ?_; (try simp only [List.length_append, List.length_cons, List.length_nil, mkS_size]); omega) | (simp; done) | skip
  · refine Goes.endsV (KT hM hT) (n := 600) (o := ff [8] false ++ [(13, .b true)]) (v := .string (outB p.data.toList 1 c)) ?_ hend
    rw [t1b]
    have hx : outB p.data.toList 1 c = mkS [] := by simp [outB, h, h0]
    rw [hx]
    simp only [Owed, lit_mkS, hp0, true_and, and_true]
    repeat' apply And.intro
    all_goals first | rfl | (simp [h0]; done)
theorem got2 (hM : ∀ b, ¬ M b) (hT : PowTab w0) (hp : p.size ≤ 1000000000) (hc : -9223372036854775808 ≤ c ∧ c ≤ 9223372036854775807) (hR : ∀ w', Below w0.heap.size w0 w' → R (.returned (.string (outB p.data.toList 2 c))) w') :
    Goes ET M w0 cs0 10 R ν (entE ET 10 [.v (.agg #[.string p, .int .i64 2, .int .i64 c])]) := by
  have hend : ∀ ν' M1 w1 s' w', ν.Le ν' → Base M w0 M1 w1 → HR ν' M1 w1 s' w' → R (.returned (.string (outB p.data.toList 2 c))) w' := fun ν' M1 w1 s' w' _ hB hr => hR _ (below_of hM hB hr)
  have hpl := pathL_len p.data.toList
  have hl : p.data.toList.length = p.size := by simp
  have hil := itoa_len hc.1 hc.2
  have hz : (mkS []).toList = [] := mkS_list []
  by_cases h : p.data.toList = []
  · have hpe : p = ⟨#[]⟩ := by rw [← mkS_of p, h]; rfl
    subst hpe
    refine Goes.endsV (KT hM hT) (n := 600) (o := [(1000, .b true)]) (v := .string (outB [] 2 c)) ?_ hend
    rw [t2e]
    simp [Owed, outB, mkS]
  have hp0 : (p.toList == (mkS []).toList) = false := by rw [ByteArray.toList_eq, hz]; cases hq : p.data.toList <;> simp_all
  by_cases h0 : c = 0
  · refine Goes.endsV (KT hM hT) (n := 600) (o := ff [8, 13] false) (v := .string (outB p.data.toList 2 c)) ?_ hend
    rw [t2a]
    have hx : outB p.data.toList 2 c = mkS ([112, 117, 108, 108, 101, 100] ++ [32] ++ pathL p.data.toList ++ [10]) := by simp [outB, wname, h, h0]
    rw [hx]
    simp only [Owed, lit_mkS, mkS_app, mkS_size, joinB2, hp0, h0, true_and, and_true]
    repeat' apply And.intro
    all_goals first | rfl | exact (ba_beq _ _).2 rfl | exact hp | (refine nle ?_; (try simp only [List.length_append, List.length_cons, List.length_nil, mkS_size]); omega) | (simp; done) | skip
  · refine Goes.endsV (KT hM hT) (n := 600) (o := ff [8] false ++ [(13, .b true)]) (v := .string (outB p.data.toList 2 c)) ?_ hend
    rw [t2b]
    have hx : outB p.data.toList 2 c = mkS [] := by simp [outB, h, h0]
    rw [hx]
    simp only [Owed, lit_mkS, hp0, true_and, and_true]
    repeat' apply And.intro
    all_goals first | rfl | (simp [h0]; done)
theorem got3 (hM : ∀ b, ¬ M b) (hT : PowTab w0) (hp : p.size ≤ 1000000000) (hc : -9223372036854775808 ≤ c ∧ c ≤ 9223372036854775807) (hR : ∀ w', Below w0.heap.size w0 w' → R (.returned (.string (outB p.data.toList 3 c))) w') :
    Goes ET M w0 cs0 10 R ν (entE ET 10 [.v (.agg #[.string p, .int .i64 3, .int .i64 c])]) := by
  have hend : ∀ ν' M1 w1 s' w', ν.Le ν' → Base M w0 M1 w1 → HR ν' M1 w1 s' w' → R (.returned (.string (outB p.data.toList 3 c))) w' := fun ν' M1 w1 s' w' _ hB hr => hR _ (below_of hM hB hr)
  have hpl := pathL_len p.data.toList
  have hl : p.data.toList.length = p.size := by simp
  have hil := itoa_len hc.1 hc.2
  have hz : (mkS []).toList = [] := mkS_list []
  by_cases h : p.data.toList = []
  · have hpe : p = ⟨#[]⟩ := by rw [← mkS_of p, h]; rfl
    subst hpe
    refine Goes.endsV (KT hM hT) (n := 600) (o := [(1000, .b true)]) (v := .string (outB [] 3 c)) ?_ hend
    rw [t3e]
    simp [Owed, outB, mkS]
  have hp0 : (p.toList == (mkS []).toList) = false := by rw [ByteArray.toList_eq, hz]; cases hq : p.data.toList <;> simp_all
  by_cases h0 : c = 0
  · refine Goes.endsV (KT hM hT) (n := 600) (o := ff [8, 13] false) (v := .string (outB p.data.toList 3 c)) ?_ hend
    rw [t3a]
    have hx : outB p.data.toList 3 c = mkS ([97, 103, 114, 101, 101, 100] ++ [32] ++ pathL p.data.toList ++ [10]) := by simp [outB, wname, h, h0]
    rw [hx]
    simp only [Owed, lit_mkS, mkS_app, mkS_size, joinB2, hp0, h0, true_and, and_true]
    repeat' apply And.intro
    all_goals first | rfl | exact (ba_beq _ _).2 rfl | exact hp | (refine nle ?_; (try simp only [List.length_append, List.length_cons, List.length_nil, mkS_size]); omega) | (simp; done) | skip
  · refine Goes.endsV (KT hM hT) (n := 600) (o := ff [8] false ++ [(13, .b true)]) (v := .string (outB p.data.toList 3 c)) ?_ hend
    rw [t3b]
    have hx : outB p.data.toList 3 c = mkS [] := by simp [outB, h, h0]
    rw [hx]
    simp only [Owed, lit_mkS, hp0, true_and, and_true]
    repeat' apply And.intro
    all_goals first | rfl | (simp [h0]; done)
theorem got4 (hM : ∀ b, ¬ M b) (hT : PowTab w0) (hp : p.size ≤ 1000000000) (hc : -9223372036854775808 ≤ c ∧ c ≤ 9223372036854775807) (hR : ∀ w', Below w0.heap.size w0 w' → R (.returned (.string (outB p.data.toList 4 c))) w') :
    Goes ET M w0 cs0 10 R ν (entE ET 10 [.v (.agg #[.string p, .int .i64 4, .int .i64 c])]) := by
  have hend : ∀ ν' M1 w1 s' w', ν.Le ν' → Base M w0 M1 w1 → HR ν' M1 w1 s' w' → R (.returned (.string (outB p.data.toList 4 c))) w' := fun ν' M1 w1 s' w' _ hB hr => hR _ (below_of hM hB hr)
  have hpl := pathL_len p.data.toList
  have hl : p.data.toList.length = p.size := by simp
  have hil := itoa_len hc.1 hc.2
  have hz : (mkS []).toList = [] := mkS_list []
  by_cases h : p.data.toList = []
  · have hpe : p = ⟨#[]⟩ := by rw [← mkS_of p, h]; rfl
    subst hpe
    refine Goes.endsV (KT hM hT) (n := 600) (o := [(1000, .b true)]) (v := .string (outB [] 4 c)) ?_ hend
    rw [t4e]
    simp [Owed, outB, mkS]
  have hp0 : (p.toList == (mkS []).toList) = false := by rw [ByteArray.toList_eq, hz]; cases hq : p.data.toList <;> simp_all
  by_cases h0 : c = 0
  · refine Goes.endsV (KT hM hT) (n := 600) (o := ff [8, 13] false) (v := .string (outB p.data.toList 4 c)) ?_ hend
    rw [t4a]
    have hx : outB p.data.toList 4 c = mkS ([99, 108, 97, 115, 104] ++ [32] ++ pathL p.data.toList ++ [10]) := by simp [outB, wname, h, h0]
    rw [hx]
    simp only [Owed, lit_mkS, mkS_app, mkS_size, joinB2, hp0, h0, true_and, and_true]
    repeat' apply And.intro
    all_goals first | rfl | exact (ba_beq _ _).2 rfl | exact hp | (refine nle ?_; (try simp only [List.length_append, List.length_cons, List.length_nil, mkS_size]); omega) | (simp; done) | skip
  · refine Goes.endsV (KT hM hT) (n := 600) (o := ff [8] false ++ [(13, .b true)]) (v := .string (outB p.data.toList 4 c)) ?_ hend
    rw [t4b]
    have hx : outB p.data.toList 4 c = mkS [] := by simp [outB, h, h0]
    rw [hx]
    simp only [Owed, lit_mkS, hp0, true_and, and_true]
    repeat' apply And.intro
    all_goals first | rfl | (simp [h0]; done)
theorem got5 (hM : ∀ b, ¬ M b) (hT : PowTab w0) (hp : p.size ≤ 1000000000) (hc : -9223372036854775808 ≤ c ∧ c ≤ 9223372036854775807) (hR : ∀ w', Below w0.heap.size w0 w' → R (.returned (.string (outB p.data.toList 5 c))) w') :
    Goes ET M w0 cs0 10 R ν (entE ET 10 [.v (.agg #[.string p, .int .i64 5, .int .i64 c])]) := by
  have hend : ∀ ν' M1 w1 s' w', ν.Le ν' → Base M w0 M1 w1 → HR ν' M1 w1 s' w' → R (.returned (.string (outB p.data.toList 5 c))) w' := fun ν' M1 w1 s' w' _ hB hr => hR _ (below_of hM hB hr)
  have hpl := pathL_len p.data.toList
  have hl : p.data.toList.length = p.size := by simp
  have hil := itoa_len hc.1 hc.2
  have hz : (mkS []).toList = [] := mkS_list []
  by_cases h : p.data.toList = []
  · have hpe : p = ⟨#[]⟩ := by rw [← mkS_of p, h]; rfl
    subst hpe
    refine Goes.endsV (KT hM hT) (n := 600) (o := [(1000, .b true)]) (v := .string (outB [] 5 c)) ?_ hend
    rw [t5e]
    simp [Owed, outB, mkS]
  have hp0 : (p.toList == (mkS []).toList) = false := by rw [ByteArray.toList_eq, hz]; cases hq : p.data.toList <;> simp_all
  refine Goes.endsV (KT hM hT) (n := 600) (o := ff [8] false) (v := .string (outB p.data.toList 5 c)) ?_ hend
  rw [t5a]
  have hx : outB p.data.toList 5 c = mkS ([102, 97, 105, 108, 101, 100] ++ [32] ++ pathL p.data.toList ++ [32] ++ Lib.itoa c ++ [10]) := by simp [outB, wname, h]
  rw [hx]
  simp only [Owed, lit_mkS, mkS_app, mkS_size, joinB3, hp0, true_and, and_true]
  repeat' apply And.intro
  all_goals first | rfl | exact (ba_beq _ _).2 rfl | exact hp | exact hc.1 | exact hc.2 | (refine nle ?_; (try simp only [List.length_append, List.length_cons, List.length_nil, mkS_size]); omega) | (simp; done) | skip
theorem got6 (hM : ∀ b, ¬ M b) (hT : PowTab w0) (hp : p.size ≤ 1000000000) (hc : -9223372036854775808 ≤ c ∧ c ≤ 9223372036854775807) (hR : ∀ w', Below w0.heap.size w0 w' → R (.returned (.string (outB p.data.toList 6 c))) w') :
    Goes ET M w0 cs0 10 R ν (entE ET 10 [.v (.agg #[.string p, .int .i64 6, .int .i64 c])]) := by
  have hend : ∀ ν' M1 w1 s' w', ν.Le ν' → Base M w0 M1 w1 → HR ν' M1 w1 s' w' → R (.returned (.string (outB p.data.toList 6 c))) w' := fun ν' M1 w1 s' w' _ hB hr => hR _ (below_of hM hB hr)
  have hpl := pathL_len p.data.toList
  have hl : p.data.toList.length = p.size := by simp
  have hil := itoa_len hc.1 hc.2
  have hz : (mkS []).toList = [] := mkS_list []
  by_cases h : p.data.toList = []
  · have hpe : p = ⟨#[]⟩ := by rw [← mkS_of p, h]; rfl
    subst hpe
    refine Goes.endsV (KT hM hT) (n := 600) (o := [(1000, .b true)]) (v := .string (outB [] 6 c)) ?_ hend
    rw [t6e]
    simp [Owed, outB, mkS]
  have hp0 : (p.toList == (mkS []).toList) = false := by rw [ByteArray.toList_eq, hz]; cases hq : p.data.toList <;> simp_all
  refine Goes.endsV (KT hM hT) (n := 600) (o := ff [8] false) (v := .string (outB p.data.toList 6 c)) ?_ hend
  rw [t6a]
  have hx : outB p.data.toList 6 c = mkS ([117, 110, 115, 101, 116, 116, 108, 101, 100] ++ [32] ++ pathL p.data.toList ++ [32] ++ Lib.itoa c ++ [10]) := by simp [outB, wname, h]
  rw [hx]
  simp only [Owed, lit_mkS, mkS_app, mkS_size, joinB3, hp0, true_and, and_true]
  repeat' apply And.intro
  all_goals first | rfl | exact (ba_beq _ _).2 rfl | exact hp | exact hc.1 | exact hc.2 | (refine nle ?_; (try simp only [List.length_append, List.length_cons, List.length_nil, mkS_size]); omega) | (simp; done) | skip
theorem got0 {x : Int} (hx : x < 1 ∨ x > 6) (hM : ∀ b, ¬ M b) (hT : PowTab w0) (hR : ∀ w', Below w0.heap.size w0 w' → R (.returned (.string (outB p.data.toList x c))) w') :
    Goes ET M w0 cs0 10 R ν (entE ET 10 [.v (.agg #[.string p, .int .i64 x, .int .i64 c])]) := by
  by_cases h1 : x < 1
  · refine Goes.endsV (KT hM hT) (n := 600) (o := ff [0, 1, 2, 3] true) (v := .string (outB p.data.toList x c)) ?_ fun ν' M1 w1 s' w' _ hB hr => hR _ (below_of hM hB hr)
    rw [t0, outB_none (by omega)]
    simp only [Owed, lit_mkS, true_and, and_true]
    repeat' apply And.intro
    all_goals first | rfl | exact decide_eq_true (by omega)
  · refine Goes.endsV (KT hM hT) (n := 600) (o := ff [0, 1, 2, 3] false ++ ff [4, 5, 6, 7] true) (v := .string (outB p.data.toList x c)) ?_ fun ν' M1 w1 s' w' _ hB hr => hR _ (below_of hM hB hr)
    rw [t7, outB_none (by omega)]
    simp only [Owed, lit_mkS, true_and, and_true]
    repeat' apply And.intro
    all_goals first | rfl | exact decide_eq_true (by omega) | exact decide_eq_false (by omega)
end
def outPS : PS := fun args => match args with
  | [.agg a] => match a.toList with
    | [.string p, .int .i64 w, .int .i64 c] => some (.string (outB p.data.toList w c), p.size ≤ 1000000000 ∧ -9223372036854775808 ≤ c ∧ c ≤ 9223372036854775807)
    | _ => none
  | _ => none
theorem rout_ok : PureOK Tryd.prog (fun _ => True) (11, outPS) := by
  refine ⟨⟨_, Tryd.func11, by kernel_rfl, by kernel_rfl⟩, fun args v q h hp w hX => ?_⟩
  dsimp only [outPS] at h
  split at h
  · rename_i a
    split at h
    · rename_i p x c e
      cases h
      obtain rfl : a = #[.string p, .int .i64 x, .int .i64 c] := Array.toList_inj.1 e
      refine (calls_bare (E := EO) rfl rfl (Q := fun v => v = .string (outB p.data.toList x c)) (args := [.v (.agg #[.string p, .int .i64 x, .int .i64 c])]) (a := [.agg #[.string p, .int .i64 x, .int .i64 c]]) w (S0 := entE EO 11 [.v (.agg #[.string p, .int .i64 x, .int .i64 c])]) (by kernel_rfl) (VRL.cons (VR.v_iff.2 rfl) VRL.nil) fun cs0 => ?_).mono fun e w' ⟨h1, u, h2, h3⟩ => ⟨h1, by rw [h2, h3]⟩
      by_cases hr : x < 1 ∨ x > 6
      · exact gor0 hr not_laid fun w' hB => ⟨hB, _, rfl, rfl⟩
      · have hx : x = 1 ∨ x = 2 ∨ x = 3 ∨ x = 4 ∨ x = 5 ∨ x = 6 := by omega
        rcases hx with rfl | rfl | rfl | rfl | rfl | rfl
        · exact gor1 not_laid hp.1 hp.2 fun w' hB => ⟨hB, _, rfl, rfl⟩
        · exact gor2 not_laid hp.1 hp.2 fun w' hB => ⟨hB, _, rfl, rfl⟩
        · exact gor3 not_laid hp.1 hp.2 fun w' hB => ⟨hB, _, rfl, rfl⟩
        · exact gor4 not_laid hp.1 hp.2 fun w' hB => ⟨hB, _, rfl, rfl⟩
        · exact gor5 not_laid hp.1 hp.2 fun w' hB => ⟨hB, _, rfl, rfl⟩
        · exact gor6 not_laid hp.1 hp.2 fun w' hB => ⟨hB, _, rfl, rfl⟩
    · cases h
  · cases h
theorem tout_ok : PureOK Tryd.prog PowTab (10, outPS) := by
  refine ⟨⟨_, Tryd.func10, by kernel_rfl, by kernel_rfl⟩, fun args v q h hp w hX => ?_⟩
  dsimp only [outPS] at h
  split at h
  · rename_i a
    split at h
    · rename_i p x c e
      cases h
      obtain rfl : a = #[.string p, .int .i64 x, .int .i64 c] := Array.toList_inj.1 e
      refine (calls_bare (E := ET) rfl rfl (Q := fun v => v = .string (outB p.data.toList x c)) (args := [.v (.agg #[.string p, .int .i64 x, .int .i64 c])]) (a := [.agg #[.string p, .int .i64 x, .int .i64 c]]) w (S0 := entE ET 10 [.v (.agg #[.string p, .int .i64 x, .int .i64 c])]) (by kernel_rfl) (VRL.cons (VR.v_iff.2 rfl) VRL.nil) fun cs0 => ?_).mono fun e w' ⟨h1, u, h2, h3⟩ => ⟨h1, by rw [h2, h3]⟩
      by_cases hr : x < 1 ∨ x > 6
      · exact got0 hr not_laid hX fun w' hB => ⟨hB, _, rfl, rfl⟩
      · have hx : x = 1 ∨ x = 2 ∨ x = 3 ∨ x = 4 ∨ x = 5 ∨ x = 6 := by omega
        rcases hx with rfl | rfl | rfl | rfl | rfl | rfl
        · exact got1 not_laid hX hp.1 hp.2 fun w' hB => ⟨hB, _, rfl, rfl⟩
        · exact got2 not_laid hX hp.1 hp.2 fun w' hB => ⟨hB, _, rfl, rfl⟩
        · exact got3 not_laid hX hp.1 hp.2 fun w' hB => ⟨hB, _, rfl, rfl⟩
        · exact got4 not_laid hX hp.1 hp.2 fun w' hB => ⟨hB, _, rfl, rfl⟩
        · exact got5 not_laid hX hp.1 hp.2 fun w' hB => ⟨hB, _, rfl, rfl⟩
        · exact got6 not_laid hX hp.1 hp.2 fun w' hB => ⟨hB, _, rfl, rfl⟩
    · cases h
  · cases h
end words
end Go.Proofs.YtagegnclcengjaaDoor
