/- Library calls of tale: strings.Join, strconv.Itoa, out of the shelf's contracts. (The numbers of functions and types that the laid facts name were printed for this seat.) By an AI agent. -/
import Derived.Test.YtagegnclcengjaaDoorTaleD
import Derived.Test.YtagegnclcengjaaDoorRyN
import Derived.Shelf.LaysM
import Derived.Shelf.Strings.OnBuilder
import Derived.Shelf.Strconv.Itoa3
namespace Go.Proofs.YtagegnclcengjaaDoor
open Go Go.Rx Go.RowKit Go.Proofs
set_option linter.unusedVariables false
set_option linter.unusedSimpArgs false
set_option maxRecDepth 100000
namespace words
def laysJoin_ren : Go.Shelf.Ren := ⟨fun | 156 => 30 | 165 => 38 | 166 => 39 | 169 => 15 | 240 => 28 | 241 => 47 | 276 => 36 | 277 => 61 | n => n, fun | 31 => 52 | 9 => 9 | 3 => 3 | 4 => 4 | 0 => 0 | 20 => 20 | 72 => 38 | 76 => 59 | 70 => 35 | 37 => 36 | 75 => 41 | 127 => 55 | 164 => 62 | 5 => 5 | 80 => 44 | n => n, fun | n => n⟩
theorem laysJoin : Go.Proofs.Lays.n156 Tryd.prog laysJoin_ren where
  mixed := by kernel_rfl
  f156 := Tryd.func30.trans (congrArg some (by kernel_rfl))
  f165 := Tryd.func38.trans (congrArg some (by kernel_rfl))
  f166 := Tryd.func39.trans (congrArg some (by kernel_rfl))
  f169 := Tryd.func15.trans (congrArg some (by kernel_rfl))
  f240 := Tryd.func28.trans (congrArg some (by kernel_rfl))
  f241 := Tryd.func47.trans (congrArg some (by kernel_rfl))
  f276 := Tryd.func36.trans (congrArg some (by kernel_rfl))
  f277 := Tryd.func61.trans (congrArg some (by kernel_rfl))
  t0 := Tryd.underlying0
  a0 := Tryd.isAgg0
  z0 := Tryd.sizeOf0
  v0 := Tryd.zeroValue0
  t3 := Tryd.underlying3
  a3 := Tryd.isAgg3
  z3 := Tryd.sizeOf3
  v3 := Tryd.zeroValue3
  t4 := Tryd.underlying4
  a4 := Tryd.isAgg4
  z4 := Tryd.sizeOf4
  v4 := Tryd.zeroValue4
  t9 := Tryd.underlying9
  a9 := Tryd.isAgg9
  z9 := Tryd.sizeOf9
  v9 := Tryd.zeroValue9
  t20 := Tryd.underlying20
  a20 := Tryd.isAgg20
  z20 := Tryd.sizeOf20
  v20 := Tryd.zeroValue20
  t31 := Tryd.underlying52
  a31 := Tryd.isAgg52
  z31 := Tryd.sizeOf52
  v31 := Tryd.zeroValue52
  t37 := Tryd.underlying36
  a37 := Tryd.isAgg36
  z37 := Tryd.sizeOf36
  v37 := Tryd.zeroValue36
  t70 := Tryd.underlying35
  a70 := Tryd.isAgg35
  z70 := Tryd.sizeOf35
  v70 := Tryd.zeroValue35
  t72 := Tryd.underlying38
  a72 := Tryd.isAgg38
  z72 := Tryd.sizeOf38
  v72 := Tryd.zeroValue38
  t75 := Tryd.underlying41
  a75 := Tryd.isAgg41
  z75 := Tryd.sizeOf41
  v75 := Tryd.zeroValue41
  t76 := Tryd.underlying59
  a76 := Tryd.isAgg59
  z76 := Tryd.sizeOf59
  v76 := Tryd.zeroValue59
  t127 := Tryd.underlying55
  a127 := Tryd.isAgg55
  z127 := Tryd.sizeOf55
  v127 := Tryd.zeroValue55
  t164 := Tryd.underlying62
  a164 := Tryd.isAgg62
  z164 := Tryd.sizeOf62
  v164 := Tryd.zeroValue62
def laysItoa_ren : Go.Shelf.Ren := ⟨fun | 171 => 22 | 243 => 31 | 246 => 40 | 283 => 48 | 284 => 49 | 285 => 50 | 286 => 51 | 129 => 63 | 317 => 62 | 318 => 64 | 319 => 65 | 320 => 66 | 337 => 74 | 338 => 75 | n => n, fun | 3 => 3 | 9 => 9 | 2 => 2 | 4 => 4 | 171 => 69 | 0 => 0 | 53 => 58 | 37 => 36 | 5 => 5 | 173 => 72 | 212 => 86 | 51 => 87 | 20 => 20 | 213 => 88 | 46 => 43 | 232 => 106 | 233 => 107 | n => n, fun | 17 => 1 | 18 => 6 | 19 => 7 | n => n⟩
theorem laysItoa : Go.Proofs.LaysM.n171 Tryd.prog laysItoa_ren where
  mixed := by kernel_rfl
  f129 := Tryd.func63.trans (congrArg some (by kernel_rfl))
  f171 := Tryd.func22.trans (congrArg some (by kernel_rfl))
  f243 := Tryd.func31.trans (congrArg some (by kernel_rfl))
  f246 := Tryd.func40.trans (congrArg some (by kernel_rfl))
  f283 := Tryd.func48.trans (congrArg some (by kernel_rfl))
  f284 := Tryd.func49.trans (congrArg some (by kernel_rfl))
  f285 := Tryd.func50.trans (congrArg some (by kernel_rfl))
  f286 := Tryd.func51.trans (congrArg some (by kernel_rfl))
  f317 := Tryd.func62.trans (congrArg some (by kernel_rfl))
  f318 := Tryd.func64.trans (congrArg some (by kernel_rfl))
  f319 := Tryd.func65.trans (congrArg some (by kernel_rfl))
  f320 := Tryd.func66.trans (congrArg some (by kernel_rfl))
  f337 := Tryd.func74.trans (congrArg some (by kernel_rfl))
  f338 := Tryd.func75.trans (congrArg some (by kernel_rfl))
  t0 := Tryd.underlying0
  a0 := Tryd.isAgg0
  z0 := Tryd.sizeOf0
  v0 := Tryd.zeroValue0
  t2 := Tryd.underlying2
  a2 := Tryd.isAgg2
  z2 := Tryd.sizeOf2
  v2 := Tryd.zeroValue2
  t3 := Tryd.underlying3
  a3 := Tryd.isAgg3
  z3 := Tryd.sizeOf3
  v3 := Tryd.zeroValue3
  t4 := Tryd.underlying4
  a4 := Tryd.isAgg4
  z4 := Tryd.sizeOf4
  v4 := Tryd.zeroValue4
  t5 := Tryd.underlying5
  a5 := Tryd.isAgg5
  z5 := Tryd.sizeOf5
  v5 := Tryd.zeroValue5
  t9 := Tryd.underlying9
  a9 := Tryd.isAgg9
  z9 := Tryd.sizeOf9
  v9 := Tryd.zeroValue9
  t20 := Tryd.underlying20
  a20 := Tryd.isAgg20
  z20 := Tryd.sizeOf20
  v20 := Tryd.zeroValue20
  t37 := Tryd.underlying36
  a37 := Tryd.isAgg36
  z37 := Tryd.sizeOf36
  v37 := Tryd.zeroValue36
  t46 := Tryd.underlying43
  a46 := Tryd.isAgg43
  z46 := Tryd.sizeOf43
  v46 := Tryd.zeroValue43
  t51 := Tryd.underlying87
  a51 := Tryd.isAgg87
  z51 := Tryd.sizeOf87
  v51 := Tryd.zeroValue87
  t53 := Tryd.underlying58
  a53 := Tryd.isAgg58
  z53 := Tryd.sizeOf58
  v53 := Tryd.zeroValue58
  t171 := Tryd.underlying69
  a171 := Tryd.isAgg69
  z171 := Tryd.sizeOf69
  v171 := Tryd.zeroValue69
  t173 := Tryd.underlying72
  a173 := Tryd.isAgg72
  z173 := Tryd.sizeOf72
  v173 := Tryd.zeroValue72
  t212 := Tryd.underlying86
  a212 := Tryd.isAgg86
  z212 := Tryd.sizeOf86
  v212 := Tryd.zeroValue86
  t213 := Tryd.underlying88
  a213 := Tryd.isAgg88
  z213 := Tryd.sizeOf88
  t232 := Tryd.underlying106
  a232 := Tryd.isAgg106
  z232 := Tryd.sizeOf106
  v232 := Tryd.zeroValue106
  t233 := Tryd.underlying107
  a233 := Tryd.isAgg107
  z233 := Tryd.sizeOf107
  v233 := Tryd.zeroValue107
  g17 := by kernel_rfl
  g18 := by kernel_rfl
  g19 := by kernel_rfl
  i0 := by kernel_rfl
  i2 := by kernel_rfl
  i3 := by kernel_rfl
  i4 := by kernel_rfl
  i5 := by kernel_rfl
  i9 := by kernel_rfl
  i20 := by kernel_rfl
  i37 := by kernel_rfl
  i46 := by kernel_rfl
  i51 := by kernel_rfl
  i53 := by kernel_rfl
  i171 := by kernel_rfl
  i173 := by kernel_rfl
  i212 := by kernel_rfl
  i232 := by kernel_rfl
  i233 := by kernel_rfl
  m17 := by kernel_rfl
  m18 := by kernel_rfl
  m19 := by kernel_rfl
theorem extraJoin : Builder.Extra Tryd.prog laysJoin_ren where
  sizeBuilder := by kernel_rfl
  liesBuilder := by kernel_rfl
  t5 := Tryd.underlying5
  a5 := Tryd.isAgg5
  z5 := Tryd.sizeOf5
  v5 := Tryd.zeroValue5
  infoByte := by kernel_rfl
  cellsByte := by kernel_rfl
  sizeByte := by kernel_rfl
  neB5 := by decide
theorem join_ok : JoinOK Tryd.prog 30 :=
  ⟨⟨_, Tryd.func30, by kernel_rfl, by kernel_rfl⟩, fun bk o c xs sep w h1 h2 h3 h4 h5 => Any.strings_Join laysJoin extraJoin bk o c xs sep w h1 h2 h3 h4 (by simpa [joinB, ByteArray.size] using h5)⟩
/-- The table of the powers of ten lies as the library's text has it. -/
def PowTab (w : World) : Prop := Lib.TabIs Tryd.prog w "internal/strconv.uint64pow10" .u64 Lib.pow10Tab
theorem below_grow (w : World) (k : Nat) (os : Array Obj) : Below w.heap.size w (Go.Sort.grow (w.drewN k) os) :=
  ⟨rfl, rfl, rfl, by rw [Go.Sort.size_grow]; exact Nat.le_add_right _ _, fun j hj => Go.Sort.heap_grow_old (w.drewN k) os hj⟩
def itoaPS : PS := fun args => match args with | [.int .i64 n] => some (.string ⟨(Lib.itoa n).toArray⟩, -9223372036854775808 ≤ n ∧ n ≤ 9223372036854775807) | _ => none
theorem itoa_ok : PureOK Tryd.prog PowTab (22, itoaPS) := by
  refine ⟨⟨_, Tryd.func22, by kernel_rfl, by kernel_rfl⟩, fun args v p h hp w hX => ?_⟩
  dsimp only [itoaPS] at h
  split at h
  · rename_i n
    cases h
    refine (Any.strconv_Itoa laysItoa n hp.1 hp.2 w hX).mono fun e w' ⟨he, k, os, hw⟩ => ⟨?_, he⟩
    subst hw
    exact below_grow w k os
  · cases h
end words
end Go.Proofs.YtagegnclcengjaaDoor
namespace Go.Proofs.YtagegnclcengjaaDoor
open Go Go.Rx Go.RowKit
set_option linter.unusedVariables false
set_option linter.unusedSimpArgs false
set_option maxRecDepth 100000
namespace words
def numB (n : Nat) : ByteArray := ⟨(Lib.decDigits n).toArray⟩
def numPS (m : Int) : PS := fun args => match args with | [.int .u64 k] => some (.string (numB k.toNat), 0 ≤ k ∧ k < m) | _ => none
noncomputable def EN (m : Int) : Env := EP [(32, numPS m)] []
def signedPS : PS := fun args => match args with | [.int .i64 n] => some (.string ⟨(Lib.itoa n).toArray⟩, -9223372036854775808 ≤ n ∧ n ≤ 9223372036854775807) | _ => none
theorem n0 (m k : Int) (v : Value) : endsV (EN m) 32 100 (entE (EN m) 32 [.v (.int .u64 k)]) [(0, .b true)] v = [
  Value.string
   ({
   data :=
   {
   toList :=
   [(48 : UInt8), (49 : UInt8), (50 : UInt8), (51 : UInt8), (52 : UInt8), (53 : UInt8), (54 : UInt8),
   (55 : UInt8), (56 : UInt8), (57 : UInt8)] :
   Array UInt8 } :
   ByteArray }.extract
   k.toNat (IntKind.u64.wrap (k + (1 : Int))).toNat) =
   v,
  decide ((0 : Int) ≤ k ∧ k ≤ (↑(IntKind.u64.wrap (k + (1 : Int))).toNat : Int)) = true,
  decide ((0 : Int) ≤ IntKind.u64.wrap (k + (1 : Int)) ∧ IntKind.u64.wrap (k + (1 : Int)) ≤ (↑(10 : Nat) : Int)) = true,
  decide (k < (10 : Int)) = true] := by kernel_rfl
theorem n1 (m k : Int) (v : Value) : endsV (EN m) 32 100 (entE (EN m) 32 [.v (.int .u64 k)]) [(0, .b false)] v = [
  Value.string (numB (IntKind.u64.wrap (k.tdiv (10 : Int))).toNat ++ numB (k.tmod (10 : Int)).toNat) = v,
  ((numB (IntKind.u64.wrap (k.tdiv (10 : Int))).toNat).size + (numB (k.tmod (10 : Int)).toNat).size).le
   (9223372036854775807 : Nat),
  (0 : Int) ≤ k.tmod (10 : Int) ∧ k.tmod (10 : Int) < m,
  (0 : Int) ≤ IntKind.u64.wrap (k.tdiv (10 : Int)) ∧ IntKind.u64.wrap (k.tdiv (10 : Int)) < m,
  decide (k < (10 : Int)) = false] := by kernel_rfl
theorem s0 (k : Int) (v : Value) : endsV (EN 18446744073709551616) 24 100 (entE (EN 18446744073709551616) 24 [.v (.int .i64 k)]) [(0, .b true)] v = [
  Value.string
   ({ data := { toList := [(45 : UInt8)] : Array UInt8 } : ByteArray } ++
   numB
   (IntKind.u64.wrap
   (IntKind.u64.wrap (IntKind.i64.wrap ((0 : Int) - IntKind.i64.wrap (k + (1 : Int)))) + (1 : Int))).toNat) =
   v,
  ((1 : Nat) +
   (numB
   (IntKind.u64.wrap
   (IntKind.u64.wrap (IntKind.i64.wrap ((0 : Int) - IntKind.i64.wrap (k + (1 : Int)))) +
   (1 : Int))).toNat).size).le
   (9223372036854775807 : Nat),
  (0 : Int) ≤
   IntKind.u64.wrap (IntKind.u64.wrap (IntKind.i64.wrap ((0 : Int) - IntKind.i64.wrap (k + (1 : Int)))) + (1 : Int)) ∧
   IntKind.u64.wrap (IntKind.u64.wrap (IntKind.i64.wrap ((0 : Int) - IntKind.i64.wrap (k + (1 : Int)))) + (1 : Int)) <
   (18446744073709551616 : Int),
  decide (k < (0 : Int)) = true] := by kernel_rfl
theorem s1 (k : Int) (v : Value) : endsV (EN 18446744073709551616) 24 100 (entE (EN 18446744073709551616) 24 [.v (.int .i64 k)]) [(0, .b false)] v = [
  Value.string (numB (IntKind.u64.wrap k).toNat) = v,
  (0 : Int) ≤ IntKind.u64.wrap k ∧ IntKind.u64.wrap k < (18446744073709551616 : Int),
  decide (k < (0 : Int)) = false] := by kernel_rfl
theorem num_tab : (List.range 10).all (fun n => decide ((({ data := { toList := [(48 : UInt8), (49 : UInt8), (50 : UInt8), (51 : UInt8), (52 : UInt8), (53 : UInt8), (54 : UInt8), (55 : UInt8), (56 : UInt8), (57 : UInt8)] : Array UInt8 } : ByteArray }).extract n (n + 1)).data.toList = [UInt8.ofNat (48 + n)])) = true := by kernel_rfl
theorem num_one {n : Nat} (h : n < 10) : (({ data := { toList := [(48 : UInt8), (49 : UInt8), (50 : UInt8), (51 : UInt8), (52 : UInt8), (53 : UInt8), (54 : UInt8), (55 : UInt8), (56 : UInt8), (57 : UInt8)] : Array UInt8 } : ByteArray }).extract n (n + 1)) = numB n := by
  have := of_decide_eq_true (List.all_eq_true.1 num_tab n (List.mem_range.2 h))
  apply ByteArray.ext
  apply Array.toList_inj.1
  rw [this, numB, Lib.decDigits_one h]
theorem dec_split {n : Nat} (h : ¬ n < 10) : Lib.decDigits n = Lib.decDigits (n / 10) ++ Lib.decDigits (n % 10) := by
  rw [Lib.decDigits_one (Nat.mod_lt n (by omega)), Lib.decDigits, dif_neg h]
theorem numB_split {n : Nat} (h : ¬ n < 10) : numB (n / 10) ++ numB (n % 10) = numB n := by
  unfold numB
  rw [dec_split h]
  apply ByteArray.ext
  simp
theorem numB_len {n : Nat} (h : n < 18446744073709551616) : (numB n).size ≤ 20 := by
  have : Lib.nDigits n ≤ 20 := by
    by_cases h1 : 1 ≤ n
    · have := Lib.numDigits_eq n h1 h; split at this <;> omega
    · rw [Lib.nDigits_small (by omega)]; omega
  show (Lib.decDigits n).toArray.size ≤ 20
  rw [List.size_toArray, Lib.decDigits_length]; exact this
theorem u64_in {k : Int} (h0 : 0 ≤ k) (h1 : k < 18446744073709551616) : IntKind.u64.wrap k = k := by rw [IntKind.wrap_u64]; omega
theorem num_ok : ∀ m : Nat, m ≤ 18446744073709551616 → PureOK Tryd.prog (fun _ => True) (32, numPS m)
  | 0, _ => by
    refine ⟨⟨_, Tryd.func32, by kernel_rfl, by kernel_rfl⟩, fun args v p h hp w hX => ?_⟩
    dsimp only [numPS] at h
    split at h
    · cases h; omega
    · cases h
  | m + 1, hm => by
    have ih := num_ok m (by omega)
    have K : ∀ {M : Own} {w0 : World}, Facts (EN m) M w0 := fun {M w0} => factsP0 fun r h => by
      simp only [List.mem_cons, List.not_mem_nil, or_false] at h
      rcases h with rfl
      exact ih
    refine ⟨⟨_, Tryd.func32, by kernel_rfl, by kernel_rfl⟩, fun args v p h hp w hX => ?_⟩
    dsimp only [numPS] at h
    split at h
    · rename_i k
      cases h
      obtain ⟨n, rfl⟩ : ∃ n : Nat, k = n := ⟨k.toNat, by omega⟩
      refine (calls_bare (E := EN m) rfl rfl (Q := fun v => v = .string (numB n)) (args := [.v (.int .u64 n)]) (a := [.int .u64 n]) w (S0 := entE (EN m) 32 [.v (.int .u64 n)]) (by kernel_rfl) (VRL.cons (VR.v_iff.2 rfl) VRL.nil) fun cs0 => ?_).mono fun e w' ⟨h1, u, h2, h3⟩ => ⟨h1, by rw [h2, h3]; rfl⟩
      by_cases h10 : n < 10
      · refine Goes.endsV K (n := 100) (o := [(0, .b true)]) (v := .string (numB n)) ?_ fun ν' M1 w1 s' w' _ hB hr => ⟨below_of not_laid hB hr, _, rfl, rfl⟩
        rw [n0]
        have hw : IntKind.u64.wrap ((n : Int) + 1) = ((n + 1 : Nat) : Int) := by rw [u64_in (by omega) (by omega)]; omega
        simp only [Owed, hw, Int.toNat_natCast, num_one h10, true_and, and_true]
        repeat' apply And.intro
        all_goals first | rfl | exact decide_eq_true (by omega)
      · refine Goes.endsV K (n := 100) (o := [(0, .b false)]) (v := .string (numB n)) ?_ fun ν' M1 w1 s' w' _ hB hr => ⟨below_of not_laid hB hr, _, rfl, rfl⟩
        rw [n1]
        have e1 : (n : Int).tdiv 10 = ((n / 10 : Nat) : Int) := rfl
        have e2 : (n : Int).tmod 10 = ((n % 10 : Nat) : Int) := rfl
        have hw : IntKind.u64.wrap ((n / 10 : Nat) : Int) = ((n / 10 : Nat) : Int) := u64_in (by omega) (by omega)
        have l1 := numB_len (n := n / 10) (by omega)
        have l2 := numB_len (n := n % 10) (by omega)
        simp only [Owed, e1, e2, hw, Int.toNat_natCast, numB_split h10, true_and, and_true]
        repeat' apply And.intro
        all_goals first | rfl | omega | exact decide_eq_false (by omega) | (show (_ : Nat) ≤ _; omega)
    · cases h
theorem KN {M : Own} {w0 : World} : Facts (EN 18446744073709551616) M w0 := factsP0 fun r h => by
  simp only [List.mem_cons, List.not_mem_nil, or_false] at h
  rcases h with rfl
  exact num_ok 18446744073709551616 (Nat.le_refl _)
theorem itoa_neg' {n : Int} (h : n < 0) : (⟨#[45]⟩ : ByteArray) ++ numB n.natAbs = ⟨(Lib.itoa n).toArray⟩ := by
  unfold Lib.itoa numB
  rw [if_pos h]
  apply ByteArray.ext
  simp
theorem itoa_pos' {n : Int} (h : ¬ n < 0) : numB n.toNat = ⟨(Lib.itoa n).toArray⟩ := by
  unfold Lib.itoa numB
  rw [if_neg h]
theorem signed_ok : PureOK Tryd.prog (fun _ => True) (24, signedPS) := by
  refine ⟨⟨_, Tryd.func24, by kernel_rfl, by kernel_rfl⟩, fun args v p h hp w hX => ?_⟩
  dsimp only [signedPS] at h
  split at h
  · rename_i k
    cases h
    refine (calls_bare (E := EN 18446744073709551616) rfl rfl (Q := fun v => v = .string ⟨(Lib.itoa k).toArray⟩) (args := [.v (.int .i64 k)]) (a := [.int .i64 k]) w (S0 := entE (EN 18446744073709551616) 24 [.v (.int .i64 k)]) (by kernel_rfl) (VRL.cons (VR.v_iff.2 rfl) VRL.nil) fun cs0 => ?_).mono fun e w' ⟨h1, u, h2, h3⟩ => ⟨h1, by rw [h2, h3]⟩
    by_cases h0 : k < 0
    · refine Goes.endsV KN (n := 100) (o := [(0, .b true)]) (v := .string ⟨(Lib.itoa k).toArray⟩) ?_ fun ν' M1 w1 s' w' _ hB hr => ⟨below_of not_laid hB hr, _, rfl, rfl⟩
      rw [s0]
      obtain ⟨j, rfl⟩ : ∃ j : Nat, k = -((j : Int) + 1) := ⟨(-k - 1).toNat, by omega⟩
      have e1 : IntKind.i64.wrap (-((j : Int) + 1) + 1) = -(j : Int) := by rw [IntWalk.i64_in _ (by omega)]; omega
      have e2 : IntKind.i64.wrap (0 - -(j : Int)) = (j : Int) := by rw [IntWalk.i64_in _ (by omega)]; omega
      have e3 : IntKind.u64.wrap (j : Int) = (j : Int) := u64_in (by omega) (by omega)
      have e4 : IntKind.u64.wrap ((j : Int) + 1) = ((j + 1 : Nat) : Int) := by rw [u64_in (by omega) (by omega)]; omega
      have e5 := itoa_neg' (n := -((j : Int) + 1)) h0
      have e6 : (-((j : Int) + 1)).natAbs = j + 1 := by omega
      rw [e6] at e5
      have l1 := numB_len (n := j + 1) (by omega)
      simp only [Owed, e1, e2, e3, e4, Int.toNat_natCast, e5, true_and, and_true]
      repeat' apply And.intro
      all_goals first | rfl | omega | exact decide_eq_true (by omega) | (show (_ : Nat) ≤ _; omega)
    · refine Goes.endsV KN (n := 100) (o := [(0, .b false)]) (v := .string ⟨(Lib.itoa k).toArray⟩) ?_ fun ν' M1 w1 s' w' _ hB hr => ⟨below_of not_laid hB hr, _, rfl, rfl⟩
      rw [s1]
      have e1 : IntKind.u64.wrap k = k := u64_in (by omega) (by omega)
      simp only [Owed, e1, itoa_pos' h0, true_and, and_true]
      repeat' apply And.intro
      all_goals first | rfl | omega | exact decide_eq_false (by omega)
  · cases h
end words
end Go.Proofs.YtagegnclcengjaaDoor
