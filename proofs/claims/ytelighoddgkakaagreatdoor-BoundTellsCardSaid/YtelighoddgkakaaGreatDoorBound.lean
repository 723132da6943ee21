/- The bounds' small functions: contracts. By an AI agent. -/
import Derived.Test.YtelighoddgkakaaGreatDoorEnv
import Derived.IntWalk
namespace Go.Proofs.YtelighoddgkakaaGreatDoor
open Go Go.Rx Go.RowKit
set_option linter.unusedVariables false
set_option linter.unusedSimpArgs false
set_option maxRecDepth 100000
namespace bnd
/-- From 0 to 2^30. -/
def nearN (n : Int) : Int := if 1073741824 < (if 0 > n then 0 else n) then 1073741824 else (if 0 > n then 0 else n)
theorem near_in (n : Int) : 0 ≤ nearN n ∧ nearN n ≤ 1073741824 := by unfold nearN; split <;> split <;> omega
/-- How many parts of a size are begun. -/
def partsN (n s : Int) : Int := (nearN n + s - 1) / s
noncomputable def E0 : Env := EP [] []
theorem K0 {M : Own} {w0 : World} : Facts E0 M w0 := factsP0 fun r h => by cases h
theorem a0 (n : Int) (v : Value) : endsV E0 15 100 (entE E0 15 [.v (.int .i64 n)]) [(1000, .b true)] v = [
  Value.int IntKind.i64
   (Decidable.rec (fun h => (fun x => if (0 : Int) > n then (0 : Int) else n) h)
   (fun h => (fun x => (1073741824 : Int)) h)
   (Int.decLt (1073741824 : Int) (if (0 : Int) > n then (0 : Int) else n))) =
   v] := by kernel_rfl
theorem a1 (n : Int) (v : Value) : endsV E0 17 100 (entE E0 17 [.v (.int .i64 n)]) (ff [0] true) v = [
  Value.int IntKind.i64 (0 : Int) = v,
  decide (n < (0 : Int)) = true] := by kernel_rfl
theorem a2 (n : Int) (v : Value) : endsV E0 17 100 (entE E0 17 [.v (.int .i64 n)]) (ff [0] false ++ ff [1] true) v = [
  Value.int IntKind.i64 (1073741824 : Int) = v,
  decide (n > (1073741824 : Int)) = true,
  decide (n < (0 : Int)) = false] := by kernel_rfl
theorem a3 (n : Int) (v : Value) : endsV E0 17 100 (entE E0 17 [.v (.int .i64 n)]) (ff [0, 1] false) v = [
  Value.int IntKind.i64 n = v,
  decide (n > (1073741824 : Int)) = false,
  decide (n < (0 : Int)) = false] := by kernel_rfl
def nearPS : PS := fun args => match args with | [.int .i64 n] => some (.int .i64 (nearN n), True) | _ => none
theorem near_ok : PureOK Tryz.prog (fun _ => True) (15, nearPS) := by
  refine .mk ⟨_, Tryz.func15, by kernel_rfl, by kernel_rfl⟩ fun args v p h hp w hX => ?_
  dsimp only [nearPS] at h
  split at h
  · rename_i n
    cases h
    refine calls_endsV (E := E0) (args := [.v (.int .i64 n)]) (n := 100) (o := [(1000, .b true)]) rfl rfl K0 (by kernel_rfl) (VRL.cons (VR.v_iff.2 rfl) VRL.nil) ⟨?_⟩
    rw [a0]; exact ⟨trivial, rfl⟩
  · cases h
theorem rnear_ok : PureOK Tryz.prog (fun _ => True) (17, nearPS) := by
  refine .mk ⟨_, Tryz.func17, by kernel_rfl, by kernel_rfl⟩ fun args v p h hp w hX => ?_
  dsimp only [nearPS] at h
  split at h
  · rename_i n
    cases h
    have go : ∀ {o}, Due (endsV E0 17 100 (entE E0 17 [.v (.int .i64 n)]) o (.int .i64 (nearN n))) → Calls Tryz.prog 17 #[.int .i64 n] w fun e w' => Below w.heap.size w w' ∧ e = .returned (.int .i64 (nearN n)) := fun h =>
      calls_endsV (E := E0) (args := [.v (.int .i64 n)]) rfl rfl K0 (by kernel_rfl) (VRL.cons (VR.v_iff.2 rfl) VRL.nil) h
    by_cases h1 : n < 0
    · refine go (o := ff [0] true) ⟨?_⟩
      rw [a1]; simp [Owed, nearN, h1]
    by_cases h2 : n > 1073741824
    · refine go (o := ff [0] false ++ ff [1] true) ⟨?_⟩
      rw [a2]; simp [Owed, nearN, h1, h2]
      try omega
    · refine go (o := ff [0, 1] false) ⟨?_⟩
      rw [a3]; simp [Owed, nearN, h1, h2]
      try omega
  · cases h
noncomputable def E1 : Env := EP [(15, nearPS), (17, nearPS)] []
theorem K1 {M : Own} {w0 : World} : Facts E1 M w0 := factsP0 fun r h => by
  simp only [List.mem_cons, List.not_mem_nil, or_false] at h
  rcases h with rfl | rfl
  · exact near_ok
  · exact rnear_ok
theorem b64 (n : Int) (v : Value) : endsV E1 16 100 (entE E1 16 [.v (.int .i64 n), .v (.int .i64 64)]) [(1000, .b true)] v = [
  Value.int IntKind.i64
   (IntKind.i64.wrap ((IntKind.i64.wrap (IntKind.i64.wrap (nearN n + (64 : Int)) - (1 : Int))).tdiv (64 : Int))) =
   v,
  True] := by kernel_rfl
theorem c64t (n : Int) (v : Value) : endsV E1 18 100 (entE E1 18 [.v (.int .i64 n), .v (.int .i64 64)]) (ff [0, 1, 2] true) v = [
  Value.int IntKind.i64 (IntKind.i64.wrap (IntKind.i64.wrap ((nearN n).tdiv (64 : Int)) + (1 : Int))) = v,
  decide ((nearN n).tmod (64 : Int) > (0 : Int)) = true,
  True,
  True] := by kernel_rfl
theorem c64f (n : Int) (v : Value) : endsV E1 18 100 (entE E1 18 [.v (.int .i64 n), .v (.int .i64 64)]) (ff [0, 1, 2] false) v = [
  Value.int IntKind.i64 (IntKind.i64.wrap ((nearN n).tdiv (64 : Int))) = v,
  decide ((nearN n).tmod (64 : Int) > (0 : Int)) = false,
  True,
  True] := by kernel_rfl
theorem b128 (n : Int) (v : Value) : endsV E1 16 100 (entE E1 16 [.v (.int .i64 n), .v (.int .i64 128)]) [(1000, .b true)] v = [
  Value.int IntKind.i64
   (IntKind.i64.wrap ((IntKind.i64.wrap (IntKind.i64.wrap (nearN n + (128 : Int)) - (1 : Int))).tdiv (128 : Int))) =
   v,
  True] := by kernel_rfl
theorem c128t (n : Int) (v : Value) : endsV E1 18 100 (entE E1 18 [.v (.int .i64 n), .v (.int .i64 128)]) (ff [0, 1, 2] true) v = [
  Value.int IntKind.i64 (IntKind.i64.wrap (IntKind.i64.wrap ((nearN n).tdiv (128 : Int)) + (1 : Int))) = v,
  decide ((nearN n).tmod (128 : Int) > (0 : Int)) = true,
  True,
  True] := by kernel_rfl
theorem c128f (n : Int) (v : Value) : endsV E1 18 100 (entE E1 18 [.v (.int .i64 n), .v (.int .i64 128)]) (ff [0, 1, 2] false) v = [
  Value.int IntKind.i64 (IntKind.i64.wrap ((nearN n).tdiv (128 : Int))) = v,
  decide ((nearN n).tmod (128 : Int) > (0 : Int)) = false,
  True,
  True] := by kernel_rfl
theorem b200 (n : Int) (v : Value) : endsV E1 16 100 (entE E1 16 [.v (.int .i64 n), .v (.int .i64 200)]) [(1000, .b true)] v = [
  Value.int IntKind.i64
   (IntKind.i64.wrap ((IntKind.i64.wrap (IntKind.i64.wrap (nearN n + (200 : Int)) - (1 : Int))).tdiv (200 : Int))) =
   v,
  True] := by kernel_rfl
theorem c200t (n : Int) (v : Value) : endsV E1 18 100 (entE E1 18 [.v (.int .i64 n), .v (.int .i64 200)]) (ff [0, 1, 2] true) v = [
  Value.int IntKind.i64 (IntKind.i64.wrap (IntKind.i64.wrap ((nearN n).tdiv (200 : Int)) + (1 : Int))) = v,
  decide ((nearN n).tmod (200 : Int) > (0 : Int)) = true,
  True,
  True] := by kernel_rfl
theorem c200f (n : Int) (v : Value) : endsV E1 18 100 (entE E1 18 [.v (.int .i64 n), .v (.int .i64 200)]) (ff [0, 1, 2] false) v = [
  Value.int IntKind.i64 (IntKind.i64.wrap ((nearN n).tdiv (200 : Int))) = v,
  decide ((nearN n).tmod (200 : Int) > (0 : Int)) = false,
  True,
  True] := by kernel_rfl
theorem wi {x : Int} (h : -9223372036854775808 ≤ x ∧ x ≤ 9223372036854775807) : IntKind.i64.wrap x = x := IntWalk.i64_in _ h
theorem parts_eq (n s : Int) (hs : 0 < s) (hs' : s ≤ 1000) : IntKind.i64.wrap ((IntKind.i64.wrap (IntKind.i64.wrap (nearN n + s) - 1)).tdiv s) = partsN n s := by
  obtain ⟨h1, h2⟩ := near_in n
  rw [wi (x := nearN n + s) (by omega), wi (x := nearN n + s - 1) (by omega), Int.tdiv_eq_ediv_of_nonneg (by omega)]
  have h3 : 0 ≤ (nearN n + s - 1) / s := Int.ediv_nonneg (by omega) (by omega)
  have h4 : (nearN n + s - 1) / s ≤ nearN n + s - 1 := Int.ediv_le_self _ (by omega)
  rw [wi (by omega)]; rfl
theorem begun_more (n s : Int) (hs : s = 64 ∨ s = 128 ∨ s = 200) (h : (nearN n).tmod s > 0) : IntKind.i64.wrap (IntKind.i64.wrap ((nearN n).tdiv s) + 1) = partsN n s := by
  obtain ⟨h1, h2⟩ := near_in n
  rw [Int.tmod_eq_emod_of_nonneg h1] at h
  rw [Int.tdiv_eq_ediv_of_nonneg h1]
  unfold partsN
  rcases hs with rfl | rfl | rfl
  · rw [wi (x := nearN n / 64) (by omega), wi (by omega)]; omega
  · rw [wi (x := nearN n / 128) (by omega), wi (by omega)]; omega
  · rw [wi (x := nearN n / 200) (by omega), wi (by omega)]; omega
theorem begun_just (n s : Int) (hs : s = 64 ∨ s = 128 ∨ s = 200) (h : ¬ (nearN n).tmod s > 0) : IntKind.i64.wrap ((nearN n).tdiv s) = partsN n s := by
  obtain ⟨h1, h2⟩ := near_in n
  rw [Int.tmod_eq_emod_of_nonneg h1] at h
  rw [Int.tdiv_eq_ediv_of_nonneg h1]
  unfold partsN
  rcases hs with rfl | rfl | rfl
  · rw [wi (x := nearN n / 64) (by omega)]; omega
  · rw [wi (x := nearN n / 128) (by omega)]; omega
  · rw [wi (x := nearN n / 200) (by omega)]; omega
def partsPS : PS := fun args => match args with | [.int .i64 n, .int .i64 s] => some (.int .i64 (partsN n s), s = 64 ∨ s = 128 ∨ s = 200) | _ => none
theorem parts_ok : PureOK Tryz.prog (fun _ => True) (16, partsPS) := by
  refine .mk ⟨_, Tryz.func16, by kernel_rfl, by kernel_rfl⟩ fun args v p h hp w hX => ?_
  dsimp only [partsPS] at h
  split at h
  · rename_i n s
    cases h
    have go : Due (endsV E1 16 100 (entE E1 16 [.v (.int .i64 n), .v (.int .i64 s)]) [(1000, .b true)] (.int .i64 (partsN n s))) → Calls Tryz.prog 16 #[.int .i64 n, .int .i64 s] w fun e w' => Below w.heap.size w w' ∧ e = .returned (.int .i64 (partsN n s)) := fun h =>
      calls_endsV (E := E1) (args := [.v (.int .i64 n), .v (.int .i64 s)]) (a := [.int .i64 n, .int .i64 s]) rfl rfl K1 (by kernel_rfl) (VRL.cons (VR.v_iff.2 rfl) (VRL.cons (VR.v_iff.2 rfl) VRL.nil)) h
    rcases hp with rfl | rfl | rfl
    · exact go ⟨by rw [b64]; exact ⟨⟨trivial, trivial⟩, by rw [parts_eq _ _ (by omega) (by omega)]⟩⟩
    · exact go ⟨by rw [b128]; exact ⟨⟨trivial, trivial⟩, by rw [parts_eq _ _ (by omega) (by omega)]⟩⟩
    · exact go ⟨by rw [b200]; exact ⟨⟨trivial, trivial⟩, by rw [parts_eq _ _ (by omega) (by omega)]⟩⟩
  · cases h
theorem begun_ok : PureOK Tryz.prog (fun _ => True) (18, partsPS) := by
  refine .mk ⟨_, Tryz.func18, by kernel_rfl, by kernel_rfl⟩ fun args v p h hp w hX => ?_
  dsimp only [partsPS] at h
  split at h
  · rename_i n s
    cases h
    have go : ∀ {o}, Due (endsV E1 18 100 (entE E1 18 [.v (.int .i64 n), .v (.int .i64 s)]) o (.int .i64 (partsN n s))) → Calls Tryz.prog 18 #[.int .i64 n, .int .i64 s] w fun e w' => Below w.heap.size w w' ∧ e = .returned (.int .i64 (partsN n s)) := fun h =>
      calls_endsV (E := E1) (args := [.v (.int .i64 n), .v (.int .i64 s)]) (a := [.int .i64 n, .int .i64 s]) rfl rfl K1 (by kernel_rfl) (VRL.cons (VR.v_iff.2 rfl) (VRL.cons (VR.v_iff.2 rfl) VRL.nil)) h
    by_cases hm : (nearN n).tmod s > 0
    · rcases hp with rfl | rfl | rfl
      · exact go (o := ff [0, 1, 2] true) ⟨by rw [c64t]; exact ⟨⟨⟨⟨trivial, trivial⟩, trivial⟩, decide_eq_true hm⟩, by rw [begun_more _ _ (by omega) hm]⟩⟩
      · exact go (o := ff [0, 1, 2] true) ⟨by rw [c128t]; exact ⟨⟨⟨⟨trivial, trivial⟩, trivial⟩, decide_eq_true hm⟩, by rw [begun_more _ _ (by omega) hm]⟩⟩
      · exact go (o := ff [0, 1, 2] true) ⟨by rw [c200t]; exact ⟨⟨⟨⟨trivial, trivial⟩, trivial⟩, decide_eq_true hm⟩, by rw [begun_more _ _ (by omega) hm]⟩⟩
    · rcases hp with rfl | rfl | rfl
      · exact go (o := ff [0, 1, 2] false) ⟨by rw [c64f]; exact ⟨⟨⟨⟨trivial, trivial⟩, trivial⟩, decide_eq_false hm⟩, by rw [begun_just _ _ (by omega) hm]⟩⟩
      · exact go (o := ff [0, 1, 2] false) ⟨by rw [c128f]; exact ⟨⟨⟨⟨trivial, trivial⟩, trivial⟩, decide_eq_false hm⟩, by rw [begun_just _ _ (by omega) hm]⟩⟩
      · exact go (o := ff [0, 1, 2] false) ⟨by rw [c200f]; exact ⟨⟨⟨⟨trivial, trivial⟩, trivial⟩, decide_eq_false hm⟩, by rw [begun_just _ _ (by omega) hm]⟩⟩
  · cases h
noncomputable def E2 : Env := EP [(15, nearPS), (17, nearPS), (16, partsPS), (18, partsPS)] []
theorem K2 {M : Own} {w0 : World} : Facts E2 M w0 := factsP0 fun r h => by
  simp only [List.mem_cons, List.not_mem_nil, or_false] at h
  rcases h with rfl | rfl | rfl | rfl
  · exact near_ok
  · exact rnear_ok
  · exact parts_ok
  · exact begun_ok
theorem d0 (n : Int) (v : Value) : endsV E2 6 100 (entE E2 6 [.v (.int .i64 n)]) [(1000, .b true)] v = [
  Value.int IntKind.i64
   (Decidable.rec (fun h => (fun x => (1 : Int)) h) (fun h => (fun x => partsN n (200 : Int)) h)
   (Int.decLt (1 : Int) (partsN n (200 : Int)))) =
   v,
  (200 : Int) = (64 : Int) ∨ (200 : Int) = (128 : Int) ∨ (200 : Int) = (200 : Int)] := by kernel_rfl
theorem d1 (n : Int) (v : Value) : endsV E2 7 100 (entE E2 7 [.v (.int .i64 n)]) (ff [0, 1, 2, 3, 4] true) v = [
  Value.int IntKind.i64 (1 : Int) = v,
  (partsN n (200 : Int) == (0 : Int)) = true,
  (200 : Int) = (64 : Int) ∨ (200 : Int) = (128 : Int) ∨ (200 : Int) = (200 : Int)] := by kernel_rfl
theorem d2 (n : Int) (v : Value) : endsV E2 7 100 (entE E2 7 [.v (.int .i64 n)]) (ff [0, 1, 2, 3, 4] false) v = [
  Value.int IntKind.i64 (partsN n (200 : Int)) = v,
  (200 : Int) = (64 : Int) ∨ (200 : Int) = (128 : Int) ∨ (200 : Int) = (200 : Int),
  (partsN n (200 : Int) == (0 : Int)) = false,
  (200 : Int) = (64 : Int) ∨ (200 : Int) = (128 : Int) ∨ (200 : Int) = (200 : Int)] := by kernel_rfl
/-- By how many chunks a stream goes. -/
def chN (n : Int) : Int := if 1 < partsN n 200 then partsN n 200 else 1
theorem parts_nonneg (n : Int) : 0 ≤ partsN n 200 := by
  obtain ⟨h1, h2⟩ := near_in n
  unfold partsN; omega
def chPS : PS := fun args => match args with | [.int .i64 n] => some (.int .i64 (chN n), True) | _ => none
theorem ch_ok : PureOK Tryz.prog (fun _ => True) (6, chPS) := by
  refine .mk ⟨_, Tryz.func6, by kernel_rfl, by kernel_rfl⟩ fun args v p h hp w hX => ?_
  dsimp only [chPS] at h
  split at h
  · rename_i n
    cases h
    refine calls_endsV (E := E2) (args := [.v (.int .i64 n)]) (n := 100) (o := [(1000, .b true)]) rfl rfl K2 (by kernel_rfl) (VRL.cons (VR.v_iff.2 rfl) VRL.nil) ⟨?_⟩
    rw [d0]; exact ⟨⟨trivial, .inr (.inr rfl)⟩, rfl⟩
  · cases h
theorem rch_ok : PureOK Tryz.prog (fun _ => True) (7, chPS) := by
  refine .mk ⟨_, Tryz.func7, by kernel_rfl, by kernel_rfl⟩ fun args v p h hp w hX => ?_
  dsimp only [chPS] at h
  split at h
  · rename_i n
    cases h
    have h0 := parts_nonneg n
    have go : ∀ {o}, Due (endsV E2 7 100 (entE E2 7 [.v (.int .i64 n)]) o (.int .i64 (chN n))) → Calls Tryz.prog 7 #[.int .i64 n] w fun e w' => Below w.heap.size w w' ∧ e = .returned (.int .i64 (chN n)) := fun h =>
      calls_endsV (E := E2) (args := [.v (.int .i64 n)]) rfl rfl K2 (by kernel_rfl) (VRL.cons (VR.v_iff.2 rfl) VRL.nil) h
    by_cases hz : partsN n 200 = 0
    · refine go (o := ff [0, 1, 2, 3, 4] true) ⟨?_⟩
      rw [d1]; exact ⟨⟨⟨trivial, .inr (.inr rfl)⟩, by simp [hz]⟩, by unfold chN; rw [if_neg (by omega)]⟩
    · refine go (o := ff [0, 1, 2, 3, 4] false) ⟨?_⟩
      rw [d2]; exact ⟨⟨⟨⟨trivial, .inr (.inr rfl)⟩, by simp [hz]⟩, .inr (.inr rfl)⟩, by unfold chN; split <;> congr 1; omega⟩
  · cases h
end bnd
end Go.Proofs.YtelighoddgkakaaGreatDoor
