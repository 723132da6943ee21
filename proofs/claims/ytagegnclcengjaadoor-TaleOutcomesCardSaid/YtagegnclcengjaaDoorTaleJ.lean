/- tale's words taken as an outcome (tale.parsed): its contract. By an AI agent. -/
import Derived.Test.YtagegnclcengjaaDoorTaleI
namespace Go.Proofs.YtagegnclcengjaaDoor
open Go Go.Rx Go.RowKit Go.Proofs
set_option linter.unusedVariables false
set_option linter.unusedSimpArgs false
set_option maxRecDepth 100000
namespace words
theorem mkS_data (l : List UInt8) : (mkS l).data.toList = l := rfl
theorem tlB (b : ByteArray) : b.toList = b.data.toList := ByteArray.toList_eq b
theorem in_r (k : Int) {n : Nat} (h0 : 0 ≤ k) (h : k < n) : inRange k n = true := by unfold inRange; exact decide_eq_true ⟨h0, h⟩
theorem ne_beq {a b : List UInt8} (h : a ≠ b) : (a == b) = false := beq_eq_false_iff_ne.2 h
/-- The outcome that a word names. -/
def nameI (a : List UInt8) : Int := if a = [112, 117, 115, 104, 101, 100] then 1 else if a = [112, 117, 108, 108, 101, 100] then 2 else if a = [97, 103, 114, 101, 101, 100] then 3 else if a = [99, 108, 97, 115, 104] then 4 else if a = [102, 97, 105, 108, 101, 100] then 5 else if a = [117, 110, 115, 101, 116, 116, 108, 101, 100] then 6 else 0
def codeI (d : List UInt8) : Int := if d.length ≤ 9 then (match Lib.atoi d with | some n => if 0 ≤ n then n else 0 | none => 0) else 0
def pVal (ws : List ByteArray) : Value := match ws with
  | a :: b :: r => .agg #[.string (unS b.data.toList), .int .i64 (nameI a.data.toList), .int .i64 (match r with | [d] => codeI d.data.toList | _ => 0)]
  | _ => .agg #[.string ⟨#[]⟩, .int .i64 0, .int .i64 0]
section
variable {M : Own} {w0 : World} {cs0 : List Frame} {R : Ending → World → Prop} {ν : Val} {a b d : ByteArray} {r : List ByteArray} {l c : Nat} {n : Int}
theorem goQ1 (K : Facts (EQ' none) M w0) (hend : ∀ ν' M1 w1 s' w', ν.Le ν' → Base M w0 M1 w1 → HR ν' M1 w1 s' w' → R (.returned (pVal [a])) w') : Goes (EQ' none) M w0 cs0 25 R ν (entQ none [a] 1 c) := by
  refine Goes.endsV K (n := 900) (o := [(1000, .b true)]) (v := pVal [a]) ?_ hend
  rw [g1]
  simp only [Owed, true_and, and_true]
  repeat' apply And.intro
  all_goals rfl
theorem goQm (hl : l = r.length + 2) (hl3 : l ≠ 3) (K : Facts (EQ' none) M w0) (hb : b.size ≤ 1000000000) (hend : ∀ ν' M1 w1 s' w', ν.Le ν' → Base M w0 M1 w1 → HR ν' M1 w1 s' w' → R (.returned (pVal (a :: b :: r))) w') : Goes (EQ' none) M w0 cs0 25 R ν (entQ none (a :: b :: r) l c) := by
  by_cases h : a.data.toList = [112, 117, 115, 104, 101, 100]
  · refine Goes.endsV K (n := 1200) (o := (ff [37, 50, 63, 76, 89] false ++ ff [24] true ++ ff [2, 3, 4, 14, 15, 16, 27, 28, 29, 40, 41, 42, 53, 54, 55, 66, 67, 68, 79, 80, 81, 91] true ++ ff [94, 95, 96, 97, 98, 99] false)) (v := pVal (a :: b :: r)) ?_ hend
    rw [gm1]
    have hv : pVal (a :: b :: r) = .agg #[.string (unS b.data.toList), .int .i64 1, .int .i64 0] := by match r, hl with | [], _ => simp [pVal, nameI, h] | [x], hl => exact absurd hl (by simp at hl; omega) | _ :: _ :: _, _ => simp [pVal, nameI, h]
    rw [hv]
    simp only [Owed, lit_mkS, mkS_list, mkS_data, tlB, h, true_and, and_true]
    repeat' apply And.intro
    all_goals first | rfl | assumption | exact nle hb | exact hv | exact ne_beq (by assumption) | exact decide_eq_true (by omega) | exact decide_eq_false (by omega) | exact in_r _ (by omega) (by omega) | omega | (simp; omega)
  have h1 := h
  clear h
  by_cases h : a.data.toList = [112, 117, 108, 108, 101, 100]
  · refine Goes.endsV K (n := 1200) (o := (ff [24, 50, 63, 76, 89] false ++ ff [37] true ++ ff [2, 3, 4, 14, 15, 16, 27, 28, 29, 40, 41, 42, 53, 54, 55, 66, 67, 68, 79, 80, 81, 91] true ++ ff [94, 95, 96, 97, 98, 99] false)) (v := pVal (a :: b :: r)) ?_ hend
    rw [gm2]
    have hv : pVal (a :: b :: r) = .agg #[.string (unS b.data.toList), .int .i64 2, .int .i64 0] := by match r, hl with | [], _ => simp [pVal, nameI, h] | [x], hl => exact absurd hl (by simp at hl; omega) | _ :: _ :: _, _ => simp [pVal, nameI, h]
    rw [hv]
    simp only [Owed, lit_mkS, mkS_list, mkS_data, tlB, h, true_and, and_true]
    repeat' apply And.intro
    all_goals first | rfl | assumption | exact nle hb | exact hv | exact ne_beq (by assumption) | exact decide_eq_true (by omega) | exact decide_eq_false (by omega) | exact in_r _ (by omega) (by omega) | omega | (simp; omega)
  have h2 := h
  clear h
  by_cases h : a.data.toList = [97, 103, 114, 101, 101, 100]
  · refine Goes.endsV K (n := 1200) (o := (ff [24, 37, 63, 76, 89] false ++ ff [50] true ++ ff [2, 3, 4, 14, 15, 16, 27, 28, 29, 40, 41, 42, 53, 54, 55, 66, 67, 68, 79, 80, 81, 91] true ++ ff [94, 95, 96, 97, 98, 99] false)) (v := pVal (a :: b :: r)) ?_ hend
    rw [gm3]
    have hv : pVal (a :: b :: r) = .agg #[.string (unS b.data.toList), .int .i64 3, .int .i64 0] := by match r, hl with | [], _ => simp [pVal, nameI, h] | [x], hl => exact absurd hl (by simp at hl; omega) | _ :: _ :: _, _ => simp [pVal, nameI, h]
    rw [hv]
    simp only [Owed, lit_mkS, mkS_list, mkS_data, tlB, h, true_and, and_true]
    repeat' apply And.intro
    all_goals first | rfl | assumption | exact nle hb | exact hv | exact ne_beq (by assumption) | exact decide_eq_true (by omega) | exact decide_eq_false (by omega) | exact in_r _ (by omega) (by omega) | omega | (simp; omega)
  have h3 := h
  clear h
  by_cases h : a.data.toList = [99, 108, 97, 115, 104]
  · refine Goes.endsV K (n := 1200) (o := (ff [24, 37, 50, 76, 89] false ++ ff [63] true ++ ff [2, 3, 4, 14, 15, 16, 27, 28, 29, 40, 41, 42, 53, 54, 55, 66, 67, 68, 79, 80, 81, 91] true ++ ff [94, 95, 96, 97, 98, 99] false)) (v := pVal (a :: b :: r)) ?_ hend
    rw [gm4]
    have hv : pVal (a :: b :: r) = .agg #[.string (unS b.data.toList), .int .i64 4, .int .i64 0] := by match r, hl with | [], _ => simp [pVal, nameI, h] | [x], hl => exact absurd hl (by simp at hl; omega) | _ :: _ :: _, _ => simp [pVal, nameI, h]
    rw [hv]
    simp only [Owed, lit_mkS, mkS_list, mkS_data, tlB, h, true_and, and_true]
    repeat' apply And.intro
    all_goals first | rfl | assumption | exact nle hb | exact hv | exact ne_beq (by assumption) | exact decide_eq_true (by omega) | exact decide_eq_false (by omega) | exact in_r _ (by omega) (by omega) | omega | (simp; omega)
  have h4 := h
  clear h
  by_cases h : a.data.toList = [102, 97, 105, 108, 101, 100]
  · refine Goes.endsV K (n := 1200) (o := (ff [24, 37, 50, 63, 89] false ++ ff [76] true ++ ff [2, 3, 4, 14, 15, 16, 27, 28, 29, 40, 41, 42, 53, 54, 55, 66, 67, 68, 79, 80, 81, 91] true ++ ff [94, 95, 96, 97, 98, 99] false)) (v := pVal (a :: b :: r)) ?_ hend
    rw [gm5]
    have hv : pVal (a :: b :: r) = .agg #[.string (unS b.data.toList), .int .i64 5, .int .i64 0] := by match r, hl with | [], _ => simp [pVal, nameI, h] | [x], hl => exact absurd hl (by simp at hl; omega) | _ :: _ :: _, _ => simp [pVal, nameI, h]
    rw [hv]
    simp only [Owed, lit_mkS, mkS_list, mkS_data, tlB, h, true_and, and_true]
    repeat' apply And.intro
    all_goals first | rfl | assumption | exact nle hb | exact hv | exact ne_beq (by assumption) | exact decide_eq_true (by omega) | exact decide_eq_false (by omega) | exact in_r _ (by omega) (by omega) | omega | (simp; omega)
  have h5 := h
  clear h
  by_cases h : a.data.toList = [117, 110, 115, 101, 116, 116, 108, 101, 100]
  · refine Goes.endsV K (n := 1200) (o := (ff [24, 37, 50, 63, 76] false ++ ff [89] true ++ ff [2, 3, 4, 14, 15, 16, 27, 28, 29, 40, 41, 42, 53, 54, 55, 66, 67, 68, 79, 80, 81, 91] true ++ ff [94, 95, 96, 97, 98, 99] false)) (v := pVal (a :: b :: r)) ?_ hend
    rw [gm6]
    have hv : pVal (a :: b :: r) = .agg #[.string (unS b.data.toList), .int .i64 6, .int .i64 0] := by match r, hl with | [], _ => simp [pVal, nameI, h] | [x], hl => exact absurd hl (by simp at hl; omega) | _ :: _ :: _, _ => simp [pVal, nameI, h]
    rw [hv]
    simp only [Owed, lit_mkS, mkS_list, mkS_data, tlB, h, true_and, and_true]
    repeat' apply And.intro
    all_goals first | rfl | assumption | exact nle hb | exact hv | exact ne_beq (by assumption) | exact decide_eq_true (by omega) | exact decide_eq_false (by omega) | exact in_r _ (by omega) (by omega) | omega | (simp; omega)
  have h6 := h
  clear h
  refine Goes.endsV K (n := 1200) (o := (ff [24, 37, 50, 63, 76, 89] false ++ ff [] true ++ ff [2, 3, 4, 14, 15, 16, 27, 28, 29, 40, 41, 42, 53, 54, 55, 66, 67, 68, 79, 80, 81, 91] true ++ ff [94, 95, 96, 97, 98, 99] false)) (v := pVal (a :: b :: r)) ?_ hend
  rw [gm0]
  have h : True := trivial
  have hv : pVal (a :: b :: r) = .agg #[.string (unS b.data.toList), .int .i64 0, .int .i64 0] := by match r, hl with | [], _ => simp [pVal, nameI, h1, h2, h3, h4, h5, h6] | [x], hl => exact absurd hl (by simp at hl; omega) | _ :: _ :: _, _ => simp [pVal, nameI, h1, h2, h3, h4, h5, h6]
  rw [hv]
  simp only [Owed, lit_mkS, mkS_list, mkS_data, tlB, true_and, and_true]
  repeat' apply And.intro
  all_goals first | rfl | assumption | exact nle hb | exact hv | exact ne_beq (by assumption) | exact decide_eq_true (by omega) | exact decide_eq_false (by omega) | exact in_r _ (by omega) (by omega) | omega | (simp; omega)
theorem goQa (hd : ¬ d.size ≤ 9) (K : Facts (EQ' none) M w0) (hb : b.size ≤ 1000000000) (hend : ∀ ν' M1 w1 s' w', ν.Le ν' → Base M w0 M1 w1 → HR ν' M1 w1 s' w' → R (.returned (pVal ([a, b, d]))) w') : Goes (EQ' none) M w0 cs0 25 R ν (entQ none ([a, b, d]) 3 c) := by
  by_cases h : a.data.toList = [112, 117, 115, 104, 101, 100]
  · refine Goes.endsV K (n := 1200) (o := (ff [37, 50, 63, 76, 89] false ++ ff [24] true ++ [(101, .b false)])) (v := pVal ([a, b, d])) ?_ hend
    rw [g1a]
    have hv : pVal ([a, b, d]) = .agg #[.string (unS b.data.toList), .int .i64 1, .int .i64 0] := by simp [pVal, nameI, codeI, h, hd]
    rw [hv]
    simp only [Owed, lit_mkS, mkS_list, mkS_data, tlB, h, true_and, and_true]
    repeat' apply And.intro
    all_goals first | rfl | assumption | exact nle hb | exact hv | exact ne_beq (by assumption) | exact decide_eq_true (by omega) | exact decide_eq_false (by omega) | exact in_r _ (by omega) (by omega) | omega | (simp; omega)
  have h1 := h
  clear h
  by_cases h : a.data.toList = [112, 117, 108, 108, 101, 100]
  · refine Goes.endsV K (n := 1200) (o := (ff [24, 50, 63, 76, 89] false ++ ff [37] true ++ [(101, .b false)])) (v := pVal ([a, b, d])) ?_ hend
    rw [g2a]
    have hv : pVal ([a, b, d]) = .agg #[.string (unS b.data.toList), .int .i64 2, .int .i64 0] := by simp [pVal, nameI, codeI, h, hd]
    rw [hv]
    simp only [Owed, lit_mkS, mkS_list, mkS_data, tlB, h, true_and, and_true]
    repeat' apply And.intro
    all_goals first | rfl | assumption | exact nle hb | exact hv | exact ne_beq (by assumption) | exact decide_eq_true (by omega) | exact decide_eq_false (by omega) | exact in_r _ (by omega) (by omega) | omega | (simp; omega)
  have h2 := h
  clear h
  by_cases h : a.data.toList = [97, 103, 114, 101, 101, 100]
  · refine Goes.endsV K (n := 1200) (o := (ff [24, 37, 63, 76, 89] false ++ ff [50] true ++ [(101, .b false)])) (v := pVal ([a, b, d])) ?_ hend
    rw [g3a]
    have hv : pVal ([a, b, d]) = .agg #[.string (unS b.data.toList), .int .i64 3, .int .i64 0] := by simp [pVal, nameI, codeI, h, hd]
    rw [hv]
    simp only [Owed, lit_mkS, mkS_list, mkS_data, tlB, h, true_and, and_true]
    repeat' apply And.intro
    all_goals first | rfl | assumption | exact nle hb | exact hv | exact ne_beq (by assumption) | exact decide_eq_true (by omega) | exact decide_eq_false (by omega) | exact in_r _ (by omega) (by omega) | omega | (simp; omega)
  have h3 := h
  clear h
  by_cases h : a.data.toList = [99, 108, 97, 115, 104]
  · refine Goes.endsV K (n := 1200) (o := (ff [24, 37, 50, 76, 89] false ++ ff [63] true ++ [(101, .b false)])) (v := pVal ([a, b, d])) ?_ hend
    rw [g4a]
    have hv : pVal ([a, b, d]) = .agg #[.string (unS b.data.toList), .int .i64 4, .int .i64 0] := by simp [pVal, nameI, codeI, h, hd]
    rw [hv]
    simp only [Owed, lit_mkS, mkS_list, mkS_data, tlB, h, true_and, and_true]
    repeat' apply And.intro
    all_goals first | rfl | assumption | exact nle hb | exact hv | exact ne_beq (by assumption) | exact decide_eq_true (by omega) | exact decide_eq_false (by omega) | exact in_r _ (by omega) (by omega) | omega | (simp; omega)
  have h4 := h
  clear h
  by_cases h : a.data.toList = [102, 97, 105, 108, 101, 100]
  · refine Goes.endsV K (n := 1200) (o := (ff [24, 37, 50, 63, 89] false ++ ff [76] true ++ [(101, .b false)])) (v := pVal ([a, b, d])) ?_ hend
    rw [g5a]
    have hv : pVal ([a, b, d]) = .agg #[.string (unS b.data.toList), .int .i64 5, .int .i64 0] := by simp [pVal, nameI, codeI, h, hd]
    rw [hv]
    simp only [Owed, lit_mkS, mkS_list, mkS_data, tlB, h, true_and, and_true]
    repeat' apply And.intro
    all_goals first | rfl | assumption | exact nle hb | exact hv | exact ne_beq (by assumption) | exact decide_eq_true (by omega) | exact decide_eq_false (by omega) | exact in_r _ (by omega) (by omega) | omega | (simp; omega)
  have h5 := h
  clear h
  by_cases h : a.data.toList = [117, 110, 115, 101, 116, 116, 108, 101, 100]
  · refine Goes.endsV K (n := 1200) (o := (ff [24, 37, 50, 63, 76] false ++ ff [89] true ++ [(101, .b false)])) (v := pVal ([a, b, d])) ?_ hend
    rw [g6a]
    have hv : pVal ([a, b, d]) = .agg #[.string (unS b.data.toList), .int .i64 6, .int .i64 0] := by simp [pVal, nameI, codeI, h, hd]
    rw [hv]
    simp only [Owed, lit_mkS, mkS_list, mkS_data, tlB, h, true_and, and_true]
    repeat' apply And.intro
    all_goals first | rfl | assumption | exact nle hb | exact hv | exact ne_beq (by assumption) | exact decide_eq_true (by omega) | exact decide_eq_false (by omega) | exact in_r _ (by omega) (by omega) | omega | (simp; omega)
  have h6 := h
  clear h
  refine Goes.endsV K (n := 1200) (o := (ff [24, 37, 50, 63, 76, 89] false ++ ff [] true ++ [(101, .b false)])) (v := pVal ([a, b, d])) ?_ hend
  rw [g0a]
  have h : True := trivial
  have hv : pVal ([a, b, d]) = .agg #[.string (unS b.data.toList), .int .i64 0, .int .i64 0] := by simp [pVal, nameI, codeI, h1, h2, h3, h4, h5, h6, hd]
  rw [hv]
  simp only [Owed, lit_mkS, mkS_list, mkS_data, tlB, true_and, and_true]
  repeat' apply And.intro
  all_goals first | rfl | assumption | exact nle hb | exact hv | exact ne_beq (by assumption) | exact decide_eq_true (by omega) | exact decide_eq_false (by omega) | exact in_r _ (by omega) (by omega) | omega | (simp; omega)
theorem goQb (hd : d.size ≤ 9) (ha : Lib.atoi d.data.toList = none) (K : Facts (EQ' none) M w0) (hb : b.size ≤ 1000000000) (hend : ∀ ν' M1 w1 s' w', ν.Le ν' → Base M w0 M1 w1 → HR ν' M1 w1 s' w' → R (.returned (pVal ([a, b, d]))) w') : Goes (EQ' none) M w0 cs0 25 R ν (entQ none ([a, b, d]) 3 c) := by
  by_cases h : a.data.toList = [112, 117, 115, 104, 101, 100]
  · refine Goes.endsV K (n := 1200) (o := (ff [37, 50, 63, 76, 89] false ++ ff [24] true ++ [(101, .b true)])) (v := pVal ([a, b, d])) ?_ hend
    rw [g1b]
    have hv : pVal ([a, b, d]) = .agg #[.string (unS b.data.toList), .int .i64 1, .int .i64 0] := by simp [pVal, nameI, codeI, h, hd, ha]
    rw [hv]
    simp only [Owed, lit_mkS, mkS_list, mkS_data, tlB, h, true_and, and_true]
    repeat' apply And.intro
    all_goals first | rfl | assumption | exact nle hb | exact hv | exact ne_beq (by assumption) | exact decide_eq_true (by omega) | exact decide_eq_false (by omega) | exact in_r _ (by omega) (by omega) | omega | (simp; omega)
  have h1 := h
  clear h
  by_cases h : a.data.toList = [112, 117, 108, 108, 101, 100]
  · refine Goes.endsV K (n := 1200) (o := (ff [24, 50, 63, 76, 89] false ++ ff [37] true ++ [(101, .b true)])) (v := pVal ([a, b, d])) ?_ hend
    rw [g2b]
    have hv : pVal ([a, b, d]) = .agg #[.string (unS b.data.toList), .int .i64 2, .int .i64 0] := by simp [pVal, nameI, codeI, h, hd, ha]
    rw [hv]
    simp only [Owed, lit_mkS, mkS_list, mkS_data, tlB, h, true_and, and_true]
    repeat' apply And.intro
    all_goals first | rfl | assumption | exact nle hb | exact hv | exact ne_beq (by assumption) | exact decide_eq_true (by omega) | exact decide_eq_false (by omega) | exact in_r _ (by omega) (by omega) | omega | (simp; omega)
  have h2 := h
  clear h
  by_cases h : a.data.toList = [97, 103, 114, 101, 101, 100]
  · refine Goes.endsV K (n := 1200) (o := (ff [24, 37, 63, 76, 89] false ++ ff [50] true ++ [(101, .b true)])) (v := pVal ([a, b, d])) ?_ hend
    rw [g3b]
    have hv : pVal ([a, b, d]) = .agg #[.string (unS b.data.toList), .int .i64 3, .int .i64 0] := by simp [pVal, nameI, codeI, h, hd, ha]
    rw [hv]
    simp only [Owed, lit_mkS, mkS_list, mkS_data, tlB, h, true_and, and_true]
    repeat' apply And.intro
    all_goals first | rfl | assumption | exact nle hb | exact hv | exact ne_beq (by assumption) | exact decide_eq_true (by omega) | exact decide_eq_false (by omega) | exact in_r _ (by omega) (by omega) | omega | (simp; omega)
  have h3 := h
  clear h
  by_cases h : a.data.toList = [99, 108, 97, 115, 104]
  · refine Goes.endsV K (n := 1200) (o := (ff [24, 37, 50, 76, 89] false ++ ff [63] true ++ [(101, .b true)])) (v := pVal ([a, b, d])) ?_ hend
    rw [g4b]
    have hv : pVal ([a, b, d]) = .agg #[.string (unS b.data.toList), .int .i64 4, .int .i64 0] := by simp [pVal, nameI, codeI, h, hd, ha]
    rw [hv]
    simp only [Owed, lit_mkS, mkS_list, mkS_data, tlB, h, true_and, and_true]
    repeat' apply And.intro
    all_goals first | rfl | assumption | exact nle hb | exact hv | exact ne_beq (by assumption) | exact decide_eq_true (by omega) | exact decide_eq_false (by omega) | exact in_r _ (by omega) (by omega) | omega | (simp; omega)
  have h4 := h
  clear h
  by_cases h : a.data.toList = [102, 97, 105, 108, 101, 100]
  · refine Goes.endsV K (n := 1200) (o := (ff [24, 37, 50, 63, 89] false ++ ff [76] true ++ [(101, .b true)])) (v := pVal ([a, b, d])) ?_ hend
    rw [g5b]
    have hv : pVal ([a, b, d]) = .agg #[.string (unS b.data.toList), .int .i64 5, .int .i64 0] := by simp [pVal, nameI, codeI, h, hd, ha]
    rw [hv]
    simp only [Owed, lit_mkS, mkS_list, mkS_data, tlB, h, true_and, and_true]
    repeat' apply And.intro
    all_goals first | rfl | assumption | exact nle hb | exact hv | exact ne_beq (by assumption) | exact decide_eq_true (by omega) | exact decide_eq_false (by omega) | exact in_r _ (by omega) (by omega) | omega | (simp; omega)
  have h5 := h
  clear h
  by_cases h : a.data.toList = [117, 110, 115, 101, 116, 116, 108, 101, 100]
  · refine Goes.endsV K (n := 1200) (o := (ff [24, 37, 50, 63, 76] false ++ ff [89] true ++ [(101, .b true)])) (v := pVal ([a, b, d])) ?_ hend
    rw [g6b]
    have hv : pVal ([a, b, d]) = .agg #[.string (unS b.data.toList), .int .i64 6, .int .i64 0] := by simp [pVal, nameI, codeI, h, hd, ha]
    rw [hv]
    simp only [Owed, lit_mkS, mkS_list, mkS_data, tlB, h, true_and, and_true]
    repeat' apply And.intro
    all_goals first | rfl | assumption | exact nle hb | exact hv | exact ne_beq (by assumption) | exact decide_eq_true (by omega) | exact decide_eq_false (by omega) | exact in_r _ (by omega) (by omega) | omega | (simp; omega)
  have h6 := h
  clear h
  refine Goes.endsV K (n := 1200) (o := (ff [24, 37, 50, 63, 76, 89] false ++ ff [] true ++ [(101, .b true)])) (v := pVal ([a, b, d])) ?_ hend
  rw [g0b]
  have h : True := trivial
  have hv : pVal ([a, b, d]) = .agg #[.string (unS b.data.toList), .int .i64 0, .int .i64 0] := by simp [pVal, nameI, codeI, h1, h2, h3, h4, h5, h6, hd, ha]
  rw [hv]
  simp only [Owed, lit_mkS, mkS_list, mkS_data, tlB, true_and, and_true]
  repeat' apply And.intro
  all_goals first | rfl | assumption | exact nle hb | exact hv | exact ne_beq (by assumption) | exact decide_eq_true (by omega) | exact decide_eq_false (by omega) | exact in_r _ (by omega) (by omega) | omega | (simp; omega)
theorem goQc (hd : d.size ≤ 9) (ha : Lib.atoi d.data.toList = some n) (hn : 0 ≤ n) (K : Facts (EQ' (some n)) M w0) (hb : b.size ≤ 1000000000) (hend : ∀ ν' M1 w1 s' w', ν.Le ν' → Base M w0 M1 w1 → HR ν' M1 w1 s' w' → R (.returned (pVal ([a, b, d]))) w') : Goes (EQ' (some n)) M w0 cs0 25 R ν (entQ (some n) ([a, b, d]) 3 c) := by
  by_cases h : a.data.toList = [112, 117, 115, 104, 101, 100]
  · refine Goes.endsV K (n := 1200) (o := (ff [37, 50, 63, 76, 89] false ++ ff [24] true ++ [(101, .b true), (107, .b true)])) (v := pVal ([a, b, d])) ?_ hend
    rw [g1c]
    have hv : pVal ([a, b, d]) = .agg #[.string (unS b.data.toList), .int .i64 1, .int .i64 n] := by simp [pVal, nameI, codeI, h, hd, ha, hn]
    rw [hv]
    simp only [Owed, lit_mkS, mkS_list, mkS_data, tlB, h, true_and, and_true]
    repeat' apply And.intro
    all_goals first | rfl | assumption | exact nle hb | exact hv | exact ne_beq (by assumption) | exact decide_eq_true (by omega) | exact decide_eq_false (by omega) | exact in_r _ (by omega) (by omega) | omega | (simp; omega)
  have h1 := h
  clear h
  by_cases h : a.data.toList = [112, 117, 108, 108, 101, 100]
  · refine Goes.endsV K (n := 1200) (o := (ff [24, 50, 63, 76, 89] false ++ ff [37] true ++ [(101, .b true), (107, .b true)])) (v := pVal ([a, b, d])) ?_ hend
    rw [g2c]
    have hv : pVal ([a, b, d]) = .agg #[.string (unS b.data.toList), .int .i64 2, .int .i64 n] := by simp [pVal, nameI, codeI, h, hd, ha, hn]
    rw [hv]
    simp only [Owed, lit_mkS, mkS_list, mkS_data, tlB, h, true_and, and_true]
    repeat' apply And.intro
    all_goals first | rfl | assumption | exact nle hb | exact hv | exact ne_beq (by assumption) | exact decide_eq_true (by omega) | exact decide_eq_false (by omega) | exact in_r _ (by omega) (by omega) | omega | (simp; omega)
  have h2 := h
  clear h
  by_cases h : a.data.toList = [97, 103, 114, 101, 101, 100]
  · refine Goes.endsV K (n := 1200) (o := (ff [24, 37, 63, 76, 89] false ++ ff [50] true ++ [(101, .b true), (107, .b true)])) (v := pVal ([a, b, d])) ?_ hend
    rw [g3c]
    have hv : pVal ([a, b, d]) = .agg #[.string (unS b.data.toList), .int .i64 3, .int .i64 n] := by simp [pVal, nameI, codeI, h, hd, ha, hn]
    rw [hv]
    simp only [Owed, lit_mkS, mkS_list, mkS_data, tlB, h, true_and, and_true]
    repeat' apply And.intro
    all_goals first | rfl | assumption | exact nle hb | exact hv | exact ne_beq (by assumption) | exact decide_eq_true (by omega) | exact decide_eq_false (by omega) | exact in_r _ (by omega) (by omega) | omega | (simp; omega)
  have h3 := h
  clear h
  by_cases h : a.data.toList = [99, 108, 97, 115, 104]
  · refine Goes.endsV K (n := 1200) (o := (ff [24, 37, 50, 76, 89] false ++ ff [63] true ++ [(101, .b true), (107, .b true)])) (v := pVal ([a, b, d])) ?_ hend
    rw [g4c]
    have hv : pVal ([a, b, d]) = .agg #[.string (unS b.data.toList), .int .i64 4, .int .i64 n] := by simp [pVal, nameI, codeI, h, hd, ha, hn]
    rw [hv]
    simp only [Owed, lit_mkS, mkS_list, mkS_data, tlB, h, true_and, and_true]
    repeat' apply And.intro
    all_goals first | rfl | assumption | exact nle hb | exact hv | exact ne_beq (by assumption) | exact decide_eq_true (by omega) | exact decide_eq_false (by omega) | exact in_r _ (by omega) (by omega) | omega | (simp; omega)
  have h4 := h
  clear h
  by_cases h : a.data.toList = [102, 97, 105, 108, 101, 100]
  · refine Goes.endsV K (n := 1200) (o := (ff [24, 37, 50, 63, 89] false ++ ff [76] true ++ [(101, .b true), (107, .b true)])) (v := pVal ([a, b, d])) ?_ hend
    rw [g5c]
    have hv : pVal ([a, b, d]) = .agg #[.string (unS b.data.toList), .int .i64 5, .int .i64 n] := by simp [pVal, nameI, codeI, h, hd, ha, hn]
    rw [hv]
    simp only [Owed, lit_mkS, mkS_list, mkS_data, tlB, h, true_and, and_true]
    repeat' apply And.intro
    all_goals first | rfl | assumption | exact nle hb | exact hv | exact ne_beq (by assumption) | exact decide_eq_true (by omega) | exact decide_eq_false (by omega) | exact in_r _ (by omega) (by omega) | omega | (simp; omega)
  have h5 := h
  clear h
  by_cases h : a.data.toList = [117, 110, 115, 101, 116, 116, 108, 101, 100]
  · refine Goes.endsV K (n := 1200) (o := (ff [24, 37, 50, 63, 76] false ++ ff [89] true ++ [(101, .b true), (107, .b true)])) (v := pVal ([a, b, d])) ?_ hend
    rw [g6c]
    have hv : pVal ([a, b, d]) = .agg #[.string (unS b.data.toList), .int .i64 6, .int .i64 n] := by simp [pVal, nameI, codeI, h, hd, ha, hn]
    rw [hv]
    simp only [Owed, lit_mkS, mkS_list, mkS_data, tlB, h, true_and, and_true]
    repeat' apply And.intro
    all_goals first | rfl | assumption | exact nle hb | exact hv | exact ne_beq (by assumption) | exact decide_eq_true (by omega) | exact decide_eq_false (by omega) | exact in_r _ (by omega) (by omega) | omega | (simp; omega)
  have h6 := h
  clear h
  refine Goes.endsV K (n := 1200) (o := (ff [24, 37, 50, 63, 76, 89] false ++ ff [] true ++ [(101, .b true), (107, .b true)])) (v := pVal ([a, b, d])) ?_ hend
  rw [g0c]
  have h : True := trivial
  have hv : pVal ([a, b, d]) = .agg #[.string (unS b.data.toList), .int .i64 0, .int .i64 n] := by simp [pVal, nameI, codeI, h1, h2, h3, h4, h5, h6, hd, ha, hn]
  rw [hv]
  simp only [Owed, lit_mkS, mkS_list, mkS_data, tlB, true_and, and_true]
  repeat' apply And.intro
  all_goals first | rfl | assumption | exact nle hb | exact hv | exact ne_beq (by assumption) | exact decide_eq_true (by omega) | exact decide_eq_false (by omega) | exact in_r _ (by omega) (by omega) | omega | (simp; omega)
theorem goQd (hd : d.size ≤ 9) (ha : Lib.atoi d.data.toList = some n) (hn : ¬ 0 ≤ n) (K : Facts (EQ' (some n)) M w0) (hb : b.size ≤ 1000000000) (hend : ∀ ν' M1 w1 s' w', ν.Le ν' → Base M w0 M1 w1 → HR ν' M1 w1 s' w' → R (.returned (pVal ([a, b, d]))) w') : Goes (EQ' (some n)) M w0 cs0 25 R ν (entQ (some n) ([a, b, d]) 3 c) := by
  by_cases h : a.data.toList = [112, 117, 115, 104, 101, 100]
  · refine Goes.endsV K (n := 1200) (o := (ff [37, 50, 63, 76, 89] false ++ ff [24] true ++ [(101, .b true), (107, .b false)])) (v := pVal ([a, b, d])) ?_ hend
    rw [g1d]
    have hv : pVal ([a, b, d]) = .agg #[.string (unS b.data.toList), .int .i64 1, .int .i64 0] := by simp [pVal, nameI, codeI, h, hd, ha, hn]
    rw [hv]
    simp only [Owed, lit_mkS, mkS_list, mkS_data, tlB, h, true_and, and_true]
    repeat' apply And.intro
    all_goals first | rfl | assumption | exact nle hb | exact hv | exact ne_beq (by assumption) | exact decide_eq_true (by omega) | exact decide_eq_false (by omega) | exact in_r _ (by omega) (by omega) | omega | (simp; omega)
  have h1 := h
  clear h
  by_cases h : a.data.toList = [112, 117, 108, 108, 101, 100]
  · refine Goes.endsV K (n := 1200) (o := (ff [24, 50, 63, 76, 89] false ++ ff [37] true ++ [(101, .b true), (107, .b false)])) (v := pVal ([a, b, d])) ?_ hend
    rw [g2d]
    have hv : pVal ([a, b, d]) = .agg #[.string (unS b.data.toList), .int .i64 2, .int .i64 0] := by simp [pVal, nameI, codeI, h, hd, ha, hn]
    rw [hv]
    simp only [Owed, lit_mkS, mkS_list, mkS_data, tlB, h, true_and, and_true]
    repeat' apply And.intro
    all_goals first | rfl | assumption | exact nle hb | exact hv | exact ne_beq (by assumption) | exact decide_eq_true (by omega) | exact decide_eq_false (by omega) | exact in_r _ (by omega) (by omega) | omega | (simp; omega)
  have h2 := h
  clear h
  by_cases h : a.data.toList = [97, 103, 114, 101, 101, 100]
  · refine Goes.endsV K (n := 1200) (o := (ff [24, 37, 63, 76, 89] false ++ ff [50] true ++ [(101, .b true), (107, .b false)])) (v := pVal ([a, b, d])) ?_ hend
    rw [g3d]
    have hv : pVal ([a, b, d]) = .agg #[.string (unS b.data.toList), .int .i64 3, .int .i64 0] := by simp [pVal, nameI, codeI, h, hd, ha, hn]
    rw [hv]
    simp only [Owed, lit_mkS, mkS_list, mkS_data, tlB, h, true_and, and_true]
    repeat' apply And.intro
    all_goals first | rfl | assumption | exact nle hb | exact hv | exact ne_beq (by assumption) | exact decide_eq_true (by omega) | exact decide_eq_false (by omega) | exact in_r _ (by omega) (by omega) | omega | (simp; omega)
  have h3 := h
  clear h
  by_cases h : a.data.toList = [99, 108, 97, 115, 104]
  · refine Goes.endsV K (n := 1200) (o := (ff [24, 37, 50, 76, 89] false ++ ff [63] true ++ [(101, .b true), (107, .b false)])) (v := pVal ([a, b, d])) ?_ hend
    rw [g4d]
    have hv : pVal ([a, b, d]) = .agg #[.string (unS b.data.toList), .int .i64 4, .int .i64 0] := by simp [pVal, nameI, codeI, h, hd, ha, hn]
    rw [hv]
    simp only [Owed, lit_mkS, mkS_list, mkS_data, tlB, h, true_and, and_true]
    repeat' apply And.intro
    all_goals first | rfl | assumption | exact nle hb | exact hv | exact ne_beq (by assumption) | exact decide_eq_true (by omega) | exact decide_eq_false (by omega) | exact in_r _ (by omega) (by omega) | omega | (simp; omega)
  have h4 := h
  clear h
  by_cases h : a.data.toList = [102, 97, 105, 108, 101, 100]
  · refine Goes.endsV K (n := 1200) (o := (ff [24, 37, 50, 63, 89] false ++ ff [76] true ++ [(101, .b true), (107, .b false)])) (v := pVal ([a, b, d])) ?_ hend
    rw [g5d]
    have hv : pVal ([a, b, d]) = .agg #[.string (unS b.data.toList), .int .i64 5, .int .i64 0] := by simp [pVal, nameI, codeI, h, hd, ha, hn]
    rw [hv]
    simp only [Owed, lit_mkS, mkS_list, mkS_data, tlB, h, true_and, and_true]
    repeat' apply And.intro
    all_goals first | rfl | assumption | exact nle hb | exact hv | exact ne_beq (by assumption) | exact decide_eq_true (by omega) | exact decide_eq_false (by omega) | exact in_r _ (by omega) (by omega) | omega | (simp; omega)
  have h5 := h
  clear h
  by_cases h : a.data.toList = [117, 110, 115, 101, 116, 116, 108, 101, 100]
  · refine Goes.endsV K (n := 1200) (o := (ff [24, 37, 50, 63, 76] false ++ ff [89] true ++ [(101, .b true), (107, .b false)])) (v := pVal ([a, b, d])) ?_ hend
    rw [g6d]
    have hv : pVal ([a, b, d]) = .agg #[.string (unS b.data.toList), .int .i64 6, .int .i64 0] := by simp [pVal, nameI, codeI, h, hd, ha, hn]
    rw [hv]
    simp only [Owed, lit_mkS, mkS_list, mkS_data, tlB, h, true_and, and_true]
    repeat' apply And.intro
    all_goals first | rfl | assumption | exact nle hb | exact hv | exact ne_beq (by assumption) | exact decide_eq_true (by omega) | exact decide_eq_false (by omega) | exact in_r _ (by omega) (by omega) | omega | (simp; omega)
  have h6 := h
  clear h
  refine Goes.endsV K (n := 1200) (o := (ff [24, 37, 50, 63, 76, 89] false ++ ff [] true ++ [(101, .b true), (107, .b false)])) (v := pVal ([a, b, d])) ?_ hend
  rw [g0d]
  have h : True := trivial
  have hv : pVal ([a, b, d]) = .agg #[.string (unS b.data.toList), .int .i64 0, .int .i64 0] := by simp [pVal, nameI, codeI, h1, h2, h3, h4, h5, h6, hd, ha, hn]
  rw [hv]
  simp only [Owed, lit_mkS, mkS_list, mkS_data, tlB, true_and, and_true]
  repeat' apply And.intro
  all_goals first | rfl | assumption | exact nle hb | exact hv | exact ne_beq (by assumption) | exact decide_eq_true (by omega) | exact decide_eq_false (by omega) | exact in_r _ (by omega) (by omega) | omega | (simp; omega)
end
end words
end Go.Proofs.YtagegnclcengjaaDoor
