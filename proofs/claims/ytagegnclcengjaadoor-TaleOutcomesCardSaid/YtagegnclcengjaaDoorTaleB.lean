/- The reference's words (tenderref44.Path): its contract. By an AI agent. -/
import Derived.Test.YtagegnclcengjaaDoorTaleH
namespace Go.Proofs.YtagegnclcengjaaDoor
open Go Go.Rx Go.RowKit
set_option linter.unusedVariables false
set_option linter.unusedSimpArgs false
set_option maxRecDepth 100000
namespace words
def hexD (n : Nat) : UInt8 := hexes.data.getD n 0
/-- How a byte is told. -/
def escL (c : UInt8) : List UInt8 := if plainN c.toNat = true then [c] else [92, hexD (c.toNat / 16), hexD (c.toNat % 16)]
/-- How bytes are told. -/
def pathL (l : List UInt8) : List UInt8 := l.flatMap escL
def mkS (l : List UInt8) : ByteArray := ⟨l.toArray⟩
theorem mkS_app (a b : List UInt8) : mkS a ++ mkS b = mkS (a ++ b) := by
  apply ByteArray.ext
  simp [mkS]
theorem mkS_size (l : List UInt8) : (mkS l).size = l.length := rfl
theorem mkS_of (b : ByteArray) : mkS b.data.toList = b := by cases b; simp [mkS]
theorem mkS_at (l : List UInt8) (k : Nat) : (mkS l).data.getD k 0 = l.getD k 0 := by
  simp [mkS]
theorem mkS_extract (l : List UInt8) (k : Nat) (h : k < l.length) : (mkS l).extract k (k + 1) = mkS [l[k]] := by
  apply ByteArray.ext
  have e : (l.drop k).take 1 = [l[k]] := by rw [List.drop_eq_getElem_cons h]; rfl
  simp only [mkS, ByteArray.data_extract, List.extract_toArray, List.extract_eq_take_drop]
  rw [show k + 1 - k = 1 by omega, e]
theorem pathL_snoc (l : List UInt8) (c : UInt8) : pathL (l ++ [c]) = pathL l ++ escL c := by simp [pathL]
noncomputable def E1 : Env := EP [(17, plainPS), (18, hexPS)] []
theorem K1 {M : Own} {w0 : World} : Facts E1 M w0 := factsP0 fun r h => by
  simp only [List.mem_cons, List.not_mem_nil, or_false] at h
  rcases h with rfl | rfl
  · exact plain_ok
  · exact hex_ok
noncomputable def todoB : List SI := todoL E1 2 60 (entE E1 9 [.v (.string ⟨#[]⟩)]) []
noncomputable def hdB (p s : ByteArray) (i : Int) : SF := { fn := 9, tm := tmOf 39 6 ([.v (.string p), .junk, .junk, .v (.string s), .v (.int .i64 i)] ++ List.replicate 34 .junk), todo := todoB, defers := [], ret := false, kind := .normal, ro := none }
theorem b0 (p : ByteArray) : reach E1 2 60 (entE E1 9 [.v (.string p)]) [(1000, .b true)] [] [] (hdB p ⟨#[]⟩ 0) 6 [] = [
  Value.string p = Value.string p,
  Value.string { data := { toList := [] : Array UInt8 } : ByteArray } =
   Value.string { data := { toList := [] : Array UInt8 } : ByteArray },
  Value.int IntKind.i64 (0 : Int) = Value.int IntKind.i64 (0 : Int)] := by kernel_rfl
theorem b1 (p s s' : ByteArray) (i i' : Int) : reach E1 2 60 (SM.at (hdB p s i) 6 []) [(0, .b true), (3, .b true)] [] [] (hdB p s' i') 6 [] = [
  Value.string p = Value.string p,
  Value.string (s ++ p.extract i.toNat (IntKind.i64.wrap (i + (1 : Int))).toNat) = Value.string s',
  Value.int IntKind.i64 (IntKind.i64.wrap (i + (1 : Int))) = Value.int IntKind.i64 i',
  (s.size + (p.extract i.toNat (IntKind.i64.wrap (i + (1 : Int))).toNat).size).le (9223372036854775807 : Nat),
  decide ((0 : Int) ≤ i ∧ i ≤ (↑(IntKind.i64.wrap (i + (1 : Int))).toNat : Int)) = true,
  decide ((0 : Int) ≤ IntKind.i64.wrap (i + (1 : Int)) ∧ IntKind.i64.wrap (i + (1 : Int)) ≤ (↑p.size : Int)) = true,
  plainN (↑(p.data.getD i.toNat (0 : UInt8)).toNat : Int).toNat = true,
  (0 : Int) ≤ (↑(p.data.getD i.toNat (0 : UInt8)).toNat : Int) ∧
   (↑(p.data.getD i.toNat (0 : UInt8)).toNat : Int) < (256 : Int),
  inRange i p.size = true,
  decide (i < (↑p.size : Int)) = true] := by kernel_rfl
theorem b2 (p s s' : ByteArray) (i i' : Int) : reach E1 2 60 (SM.at (hdB p s i) 6 []) [(0, .b true), (3, .b false)] [] [] (hdB p s' i') 6 [] = [
  Value.string p = Value.string p,
  Value.string
   (s ++ { data := { toList := [(92 : UInt8)] : Array UInt8 } : ByteArray } ++
   hexes.extract
   (IntKind.i64.wrap ((IntKind.i64.wrap (↑(p.data.getD i.toNat (0 : UInt8)).toNat : Int)).tdiv (16 : Int))).toNat
   ((IntKind.i64.wrap
   ((IntKind.i64.wrap (↑(p.data.getD i.toNat (0 : UInt8)).toNat : Int)).tdiv (16 : Int))).toNat +
   (1 : Nat)) ++
   hexes.extract ((IntKind.i64.wrap (↑(p.data.getD i.toNat (0 : UInt8)).toNat : Int)).tmod (16 : Int)).toNat
   (((IntKind.i64.wrap (↑(p.data.getD i.toNat (0 : UInt8)).toNat : Int)).tmod (16 : Int)).toNat + (1 : Nat))) =
   Value.string s',
  Value.int IntKind.i64 (IntKind.i64.wrap (i + (1 : Int))) = Value.int IntKind.i64 i',
  ((s ++ { data := { toList := [(92 : UInt8)] : Array UInt8 } : ByteArray } ++
   hexes.extract
   (IntKind.i64.wrap
   ((IntKind.i64.wrap (↑(p.data.getD i.toNat (0 : UInt8)).toNat : Int)).tdiv (16 : Int))).toNat
   ((IntKind.i64.wrap
   ((IntKind.i64.wrap (↑(p.data.getD i.toNat (0 : UInt8)).toNat : Int)).tdiv (16 : Int))).toNat +
   (1 : Nat))).size +
   (hexes.extract ((IntKind.i64.wrap (↑(p.data.getD i.toNat (0 : UInt8)).toNat : Int)).tmod (16 : Int)).toNat
   (((IntKind.i64.wrap (↑(p.data.getD i.toNat (0 : UInt8)).toNat : Int)).tmod (16 : Int)).toNat +
   (1 : Nat))).size).le
   (9223372036854775807 : Nat),
  (0 : Int) ≤ (IntKind.i64.wrap (↑(p.data.getD i.toNat (0 : UInt8)).toNat : Int)).tmod (16 : Int) ∧
   (IntKind.i64.wrap (↑(p.data.getD i.toNat (0 : UInt8)).toNat : Int)).tmod (16 : Int) < (16 : Int),
  ((s ++ { data := { toList := [(92 : UInt8)] : Array UInt8 } : ByteArray }).size +
   (hexes.extract
   (IntKind.i64.wrap ((IntKind.i64.wrap (↑(p.data.getD i.toNat (0 : UInt8)).toNat : Int)).tdiv (16 : Int))).toNat
   ((IntKind.i64.wrap
   ((IntKind.i64.wrap (↑(p.data.getD i.toNat (0 : UInt8)).toNat : Int)).tdiv (16 : Int))).toNat +
   (1 : Nat))).size).le
   (9223372036854775807 : Nat),
  (IntKind.i64.wrap (↑(p.data.getD i.toNat (0 : UInt8)).toNat : Int) ==
   IntKind.i64.wrap (↑(p.data.getD i.toNat (0 : UInt8)).toNat : Int)) =
   true,
  (0 : Int) ≤ IntKind.i64.wrap ((IntKind.i64.wrap (↑(p.data.getD i.toNat (0 : UInt8)).toNat : Int)).tdiv (16 : Int)) ∧
   IntKind.i64.wrap ((IntKind.i64.wrap (↑(p.data.getD i.toNat (0 : UInt8)).toNat : Int)).tdiv (16 : Int)) < (16 : Int),
  inRange i p.size = true,
  inRange i p.size = true,
  (s.size + (1 : Nat)).le (9223372036854775807 : Nat),
  plainN (↑(p.data.getD i.toNat (0 : UInt8)).toNat : Int).toNat = false,
  (0 : Int) ≤ (↑(p.data.getD i.toNat (0 : UInt8)).toNat : Int) ∧
   (↑(p.data.getD i.toNat (0 : UInt8)).toNat : Int) < (256 : Int),
  inRange i p.size = true,
  decide (i < (↑p.size : Int)) = true] := by kernel_rfl
theorem b3 (p s s' : ByteArray) (i : Int) : endsV E1 9 60 (SM.at (hdB p s i) 6 []) [(0, .b false)] (.string s') = [
  Value.string s = Value.string s',
  decide (i < (↑p.size : Int)) = false] := by kernel_rfl
theorem hexes_at : ∀ n, n < 16 → hexes.extract n (n + 1) = mkS [hexD n] := by decide
theorem escL_len (c : UInt8) : 1 ≤ (escL c).length ∧ (escL c).length ≤ 3 := by
  unfold escL; split <;> simp
theorem pathL_len (l : List UInt8) : (pathL l).length ≤ 3 * l.length := by
  induction l with
  | nil => simp [pathL]
  | cons c l ih =>
    have := (escL_len c).2
    simp only [pathL, List.flatMap_cons, List.length_append, List.length_cons] at *
    omega
theorem wrap_nat {n : Nat} (h : n < 9223372036854775807) : IntKind.i64.wrap (n : Int) = (n : Int) := IntWalk.i64_in _ (by omega)
theorem wrap_succ {k : Nat} (h : k < 9223372036854775806) : IntKind.i64.wrap ((k : Int) + 1) = ((k + 1 : Nat) : Int) := by rw [IntWalk.i64_in _ (by omega)]; omega
theorem tdiv16 (n : Nat) : ((n : Int)).tdiv 16 = ((n / 16 : Nat) : Int) := rfl
theorem tmod16 (n : Nat) : ((n : Int)).tmod 16 = ((n % 16 : Nat) : Int) := rfl
theorem in_range {k n : Nat} (h : k < n) : inRange (k : Int) n = true := by unfold inRange; exact decide_eq_true (by omega)
section
variable {M : Own} {w0 : World} {cs0 : List Frame} {R : Ending → World → Prop} {ν : Val} {l : List UInt8}
theorem loopB (hν : ∀ i b, ν i = some b → False) (hl : l.length ≤ 1000000000) (hR : ∀ w', Below w0.heap.size w0 w' → R (.returned (.string (mkS (pathL l)))) w') (hM : ∀ b, ¬ M b) :
    ∀ (j k : Nat), k + j = l.length → Goes E1 M w0 cs0 9 R ν (SM.at (hdB (mkS l) (mkS (pathL (l.take k))) k) 6 [])
  | 0, k, hk => by
    have hk : k = l.length := by omega
    subst hk
    rw [List.take_length]
    refine Goes.endsV K1 (n := 60) (o := [(0, .b false)]) (v := .string (mkS (pathL l))) ?_ ?_
    · rw [b3]; simp [Owed, mkS_size]
    · intro ν' M1 w1 s' w' _ hB hr
      exact hR _ (below_of hM hB hr)
  | j + 1, k, hk => by
    have hlt : k < l.length := by omega
    have ht : pathL (l.take (k + 1)) = pathL (l.take k) ++ escL l[k] := by rw [List.take_succ_eq_append_getElem hlt, pathL_snoc]
    have hlen : (pathL (l.take k)).length ≤ 3000000000 := by
      have := pathL_len (l.take k)
      have h2 : (l.take k).length ≤ k := List.length_take_le _ _
      omega
    have hx : (mkS l).data.getD k 0 = l[k] := by rw [mkS_at]; simp [hlt]
    have h256 : l[k].toNat < 256 := UInt8.toNat_lt _
    have hws := wrap_succ (k := k) (by omega)
    have hwc : IntKind.i64.wrap (l[k].toNat : Int) = (l[k].toNat : Int) := wrap_nat (by omega)
    by_cases hp : plainN l[k].toNat = true
    · refine Goes.reach K1 (k := 2) (n := 60) (o := [(0, .b true), (3, .b true)]) (ren := []) (eqs := []) ?_ (by kernel_rfl) (fun i b h => (hν i b h).elim) (loopB hν hl hR hM j (k + 1) (by omega))
      rw [b1]
      have he : escL l[k] = [l[k]] := by unfold escL; rw [if_pos hp]
      simp only [Owed, decide_eq_true_eq, Nat.le_eq]
      simp only [Int.toNat_natCast, hws, hx, mkS_extract l k hlt, mkS_app, ht, he, hp, mkS_size, true_and, and_true, List.length_cons, List.length_nil]
      refine ⟨⟨⟨⟨⟨?_, ?_⟩, ?_⟩, ?_⟩, ?_⟩, ?_⟩ <;> first | omega | exact in_range hlt
    · refine Goes.reach K1 (k := 2) (n := 60) (o := [(0, .b true), (3, .b false)]) (ren := []) (eqs := []) ?_ (by kernel_rfl) (fun i b h => (hν i b h).elim) (loopB hν hl hR hM j (k + 1) (by omega))
      rw [b2]
      have hpf : plainN l[k].toNat = false := by simpa using hp
      have he : escL l[k] = [92, hexD (l[k].toNat / 16), hexD (l[k].toNat % 16)] := by unfold escL; rw [if_neg hp]
      have hd : l[k].toNat / 16 < 16 := by omega
      have hm : l[k].toNat % 16 < 16 := by omega
      have hwd : IntKind.i64.wrap ((l[k].toNat / 16 : Nat) : Int) = ((l[k].toNat / 16 : Nat) : Int) := wrap_nat (by omega)
      have h92 : ({ data := { toList := [(92 : UInt8)] : Array UInt8 } : ByteArray }) = mkS [92] := rfl
      simp only [Owed, decide_eq_true_eq, Nat.le_eq]
      simp only [Int.toNat_natCast, hws, hx, hwc, tdiv16, tmod16, hwd, hexes_at _ hd, hexes_at _ hm, h92, mkS_app, ht, he, hpf, mkS_size, true_and, and_true, List.length_cons, List.length_nil, List.length_append, List.append_assoc, List.cons_append, List.nil_append]
      repeat' apply And.intro
      all_goals first | omega | exact in_range hlt | simp
end
def pathPS : PS := fun args => match args with | [.string p] => some (.string (mkS (pathL p.data.toList)), p.size ≤ 1000000000) | _ => none
theorem path_ok : PureOK Tryd.prog (fun _ => True) (9, pathPS) := by
  refine ⟨⟨_, Tryd.func9, by kernel_rfl, by kernel_rfl⟩, fun args v p h hp w hX => ?_⟩
  dsimp only [pathPS] at h
  split at h
  · rename_i p
    cases h
    refine (calls_bare (E := E1) rfl rfl (Q := fun v => v = .string (mkS (pathL p.data.toList))) (args := [.v (.string p)]) (a := [.string p]) w (S0 := entE E1 9 [.v (.string p)]) (by kernel_rfl) (VRL.cons (VR.v_iff.2 rfl) VRL.nil) fun cs0 => ?_).mono fun e w' ⟨h1, u, h2, h3⟩ => ⟨h1, by rw [h2, h3]⟩
    refine Goes.reach K1 (k := 2) (n := 60) (o := [(1000, .b true)]) (ren := []) (eqs := []) (F := hdB p ⟨#[]⟩ 0) (d := 6) (l := []) ?_ (by kernel_rfl) (fun i b h => no_name h) ?_
    · rw [b0]; simp [Owed]
    · have t := loopB (l := p.data.toList) (M := layOwn [] []) (w0 := w) (cs0 := cs0) (ν := layVal []) (R := fun e w' => Below w.heap.size w w' ∧ ∃ v, e = .returned v ∧ v = .string (mkS (pathL p.data.toList))) (fun i b h => no_name h) (by simpa using hp) (fun w' hB => ⟨hB, _, rfl, rfl⟩) not_laid p.data.toList.length 0 (by omega)
      rw [mkS_of] at t
      exact t
  · cases h
end words
end Go.Proofs.YtagegnclcengjaaDoor
