/- The line of any outcome is the document's; it is parsed as it was: the tied card of the law TaleOutcomes. Conditions: none beyond the given statement's own (its listed package variables start as the program's text lays them). The law's calls are followed by a symbolic executor that is proved sound (YtagegnclcengjaaDoorRxA .. YtagegnclcengjaaDoorRyO) and run by the kernel. By an AI agent. -/
import Derived.Test.YtagegnclcengjaaDoorCards
import Derived.Test.YtagegnclcengjaaDoorTie
import Derived.Test.YtagegnclcengjaaDoorTaleK
import Derived.Test.YtagegnclcengjaaDoorTaleParsesLv1
import Derived.Lay
import Derived.SevenTiedAt
import Derived.Stop.Joined
namespace Go.Proofs.YtagegnclcengjaaDoor.taleOutcomes
open Go Go.Rx Go.ChangeShapes Go.WideShapes Go.ChangeAt Go.RowKit words taleParses
set_option linter.unusedVariables false
set_option linter.unusedSimpArgs false
set_option maxRecDepth 100000
/-- What Parse is told to come to: the outcome that is told, or none. -/
def psO (P : ByteArray) (W C : Int) (ok : Bool) : PS := fun args => match args with
  | [.string t] => some (bif ok then .tuple #[.agg #[.string P, .int .i64 W, .int .i64 C], .int .i64 0] else .tuple #[.agg #[.string ⟨#[]⟩, .int .i64 0, .int .i64 0], .int .i64 10], t.size ≤ 1000000000 ∧ okT t = ok ∧ (ok = true → qP t = P ∧ qW t = W ∧ qC t = C))
  | _ => none
theorem psO_ok (P : ByteArray) (W C : Int) (ok : Bool) : PureOK Tryd.prog WX (12, psO P W C ok) := by
  refine ⟨parse_ok.1, fun args v p h hp w hX => ?_⟩
  dsimp only [psO] at h
  split at h
  · rename_i t
    cases h
    refine parse_ok.2 [.string t] _ (t.size ≤ 1000000000) ?_ hp.1 w hX
    dsimp only [parsePS]
    obtain ⟨_, h2, h3⟩ := hp
    cases ok
    · simp only [qP, qW, qC, qE, h2, cond_false]; rfl
    · obtain ⟨rfl, rfl, rfl⟩ := h3 rfl
      simp only [qE, h2, cond_true, if_true]
  · cases h
/-- What Outcome is told to come to. -/
def psT (t : ByteArray) : PS := fun args => match args with
  | [.agg a] => match a.toList with
    | [.string p, .int .i64 w, .int .i64 c] => some (.string t, outB p.data.toList w c = t ∧ p.size ≤ 1000000000 ∧ -9223372036854775808 ≤ c ∧ c ≤ 9223372036854775807)
    | _ => none
  | _ => none
theorem psT_ok {X : World → Prop} {f : FuncId} (t : ByteArray) (h : PureOK Tryd.prog X (f, outPS)) : PureOK Tryd.prog X (f, psT t) := by
  refine ⟨h.1, fun args v p e hp w hX => ?_⟩
  dsimp only [psT] at e
  split at e
  · rename_i a
    split at e
    · rename_i p x c hh
      cases e
      obtain ⟨h1, h2⟩ := hp
      refine h.2 [.agg a] _ (p.size ≤ 1000000000 ∧ -9223372036854775808 ≤ c ∧ c ≤ 9223372036854775807) ?_ h2 w hX
      dsimp only [outPS]
      rw [hh, ← h1]
    · cases e
  · cases e
/-- What is used of the calls. -/
def sl (T P : ByteArray) (W C : Int) (ok : Bool) : List (FuncId × PS) := [(12, psO P W C ok), (11, psT T), (10, psT T), (6, fun args => match args with | [] => some (.bool true, True) | _ => none)]
noncomputable def E1 (T P : ByteArray) (W C : Int) (ok : Bool) : Env := EP (sl T P W C ok) []
/-- A world in which what came in lies as it lay. -/
def X (W w : World) : Prop := WX w ∧ ∀ k, k < W.heap.size → w.heap[k]? = W.heap[k]?
def noSM : SM := { top := { fn := 0, tm := tmOf 0 0 [], todo := [], defers := [], ret := false, kind := .normal, ro := none }, callers := [], mem := memOf 0 0 0 [] }
noncomputable def ent (ok : Bool) (T P : ByteArray) (W C : Int) : SM := (enterS (E1 T P W C ok) 4 [.v (.agg #[.string P, .int .i64 W, .int .i64 C])] (laidMem 12 [])).getD noSM
theorem q0 (T P : ByteArray) (W C : Int) : endsV (E1 T P W C true) 4 900 (ent true T P W C) [(0, .b true)] (.bool true) = [
  Value.bool true = Value.bool true,
  True,
  decide ((↑P.size : Int) > (500 : Int)) = true] := by kernel_rfl
theorem q1 (P : ByteArray) (W C : Int) : endsV (E1 ⟨#[]⟩ P W C false) 4 900 (ent false ⟨#[]⟩ P W C) (ff [0] false) (.bool true) = [
  Value.bool true = Value.bool true,
  True,
  (0 : Nat) ≤ (1000000000 : Nat) ∧
   false = false ∧
   (false = true →
   qP { data := #[] : ByteArray } = P ∧ qW { data := #[] : ByteArray } = W ∧ qC { data := #[] : ByteArray } = C),
  outB P.data.toList W C = { data := { toList := [] : Array UInt8 } : ByteArray } ∧
   P.size ≤ (1000000000 : Nat) ∧ (-9223372036854775808 : Int) ≤ C ∧ C ≤ (9223372036854775807 : Int),
  outB P.data.toList W C = { data := { toList := [] : Array UInt8 } : ByteArray } ∧
   P.size ≤ (1000000000 : Nat) ∧ (-9223372036854775808 : Int) ≤ C ∧ C ≤ (9223372036854775807 : Int),
  decide ((↑P.size : Int) > (500 : Int)) = false] := by kernel_rfl
theorem q2a (T P : ByteArray) (W C : Int) : endsV (E1 T P W C false) 4 900 (ent false T P W C) (ff [0, 3, 5, 6, 7, 8] false ++ ff [9, 10, 11, 12, 13] true ++ [(14, .eqs true)] ++ ff [15, 16, 17, 18, 19, 20] true) (.bool true) = [
  Value.bool true = Value.bool true,
  true = true,
  True,
  true = true,
  true = true,
  true = true,
  true = true,
  { data := { toList := [] : Array UInt8 } : ByteArray } = { data := { toList := [] : Array UInt8 } : ByteArray } ∧
   (0 : Int) = (0 : Int) ∧ (0 : Int) = (0 : Int) ∧ True,
  true = true,
  decide (C < (0 : Int)) = true,
  decide (C < (0 : Int)) = true,
  decide (C < (0 : Int)) = true,
  decide (C < (0 : Int)) = true,
  (T.toList == { data := { toList := [] : Array UInt8 } : ByteArray }.toList) = false,
  (T.toList == { data := { toList := [] : Array UInt8 } : ByteArray }.toList) = false,
  (T.toList == { data := { toList := [] : Array UInt8 } : ByteArray }.toList) = false,
  (T.toList == { data := { toList := [] : Array UInt8 } : ByteArray }.toList) = false,
  T.size ≤ (1000000000 : Nat) ∧ okT T = false ∧ (false = true → qP T = P ∧ qW T = W ∧ qC T = C),
  (!T.toList == T.toList) = false,
  outB P.data.toList W C = T ∧
   P.size ≤ (1000000000 : Nat) ∧ (-9223372036854775808 : Int) ≤ C ∧ C ≤ (9223372036854775807 : Int),
  outB P.data.toList W C = T ∧
   P.size ≤ (1000000000 : Nat) ∧ (-9223372036854775808 : Int) ≤ C ∧ C ≤ (9223372036854775807 : Int),
  decide ((↑P.size : Int) > (500 : Int)) = false] := by kernel_rfl
theorem q2b (T P : ByteArray) (W C : Int) : endsV (E1 T P W C false) 4 900 (ent false T P W C) (ff [0, 3, 5, 6, 7, 8, 9, 10, 11, 12] false ++ ff [13] true ++ [(14, .eqs true)] ++ ff [15, 16, 17, 18, 19, 20] true) (.bool true) = [
  Value.bool true = Value.bool true,
  true = true,
  True,
  true = true,
  true = true,
  true = true,
  true = true,
  { data := { toList := [] : Array UInt8 } : ByteArray } = { data := { toList := [] : Array UInt8 } : ByteArray } ∧
   (0 : Int) = (0 : Int) ∧ (0 : Int) = (0 : Int) ∧ True,
  decide (C > (999999999 : Int)) = true,
  decide (C < (0 : Int)) = false,
  decide (C < (0 : Int)) = false,
  decide (C < (0 : Int)) = false,
  decide (C < (0 : Int)) = false,
  (T.toList == { data := { toList := [] : Array UInt8 } : ByteArray }.toList) = false,
  (T.toList == { data := { toList := [] : Array UInt8 } : ByteArray }.toList) = false,
  (T.toList == { data := { toList := [] : Array UInt8 } : ByteArray }.toList) = false,
  (T.toList == { data := { toList := [] : Array UInt8 } : ByteArray }.toList) = false,
  T.size ≤ (1000000000 : Nat) ∧ okT T = false ∧ (false = true → qP T = P ∧ qW T = W ∧ qC T = C),
  (!T.toList == T.toList) = false,
  outB P.data.toList W C = T ∧
   P.size ≤ (1000000000 : Nat) ∧ (-9223372036854775808 : Int) ≤ C ∧ C ≤ (9223372036854775807 : Int),
  outB P.data.toList W C = T ∧
   P.size ≤ (1000000000 : Nat) ∧ (-9223372036854775808 : Int) ≤ C ∧ C ≤ (9223372036854775807 : Int),
  decide ((↑P.size : Int) > (500 : Int)) = false] := by kernel_rfl
theorem q3 (T P : ByteArray) (W C : Int) : endsV (E1 T P W C true) 4 900 (ent true T P W C) (ff [0, 3, 5, 6, 7, 8, 9, 10, 11, 12, 13] false ++ [(14, .eqs true)] ++ ff [15, 16, 17, 18, 19, 20] true) (.bool true) = [
  Value.bool true = Value.bool true,
  true = true,
  True,
  true = true,
  true = true,
  true = true,
  true = true,
  P = P ∧ W = W ∧ C = C ∧ True,
  decide (C > (999999999 : Int)) = false,
  decide (C < (0 : Int)) = false,
  decide (C < (0 : Int)) = false,
  decide (C < (0 : Int)) = false,
  decide (C < (0 : Int)) = false,
  (T.toList == { data := { toList := [] : Array UInt8 } : ByteArray }.toList) = false,
  (T.toList == { data := { toList := [] : Array UInt8 } : ByteArray }.toList) = false,
  (T.toList == { data := { toList := [] : Array UInt8 } : ByteArray }.toList) = false,
  (T.toList == { data := { toList := [] : Array UInt8 } : ByteArray }.toList) = false,
  T.size ≤ (1000000000 : Nat) ∧ okT T = true ∧ (true = true → qP T = P ∧ qW T = W ∧ qC T = C),
  (!T.toList == T.toList) = false,
  outB P.data.toList W C = T ∧
   P.size ≤ (1000000000 : Nat) ∧ (-9223372036854775808 : Int) ≤ C ∧ C ≤ (9223372036854775807 : Int),
  outB P.data.toList W C = T ∧
   P.size ≤ (1000000000 : Nat) ∧ (-9223372036854775808 : Int) ≤ C ∧ C ≤ (9223372036854775807 : Int),
  decide ((↑P.size : Int) > (500 : Int)) = false] := by kernel_rfl
theorem sl_ok {W0 : World} (T P : ByteArray) (W C : Int) (ok : Bool) : ∀ r ∈ sl T P W C ok, PureOK Tryd.prog (X W0) r := by
  intro r hr
  simp only [sl, List.mem_cons, List.not_mem_nil, or_false] at hr
  rcases hr with rfl | rfl | rfl | rfl
  · exact ⟨(psO_ok P W C ok).1, fun args v p h hp w hX => (psO_ok P W C ok).2 args v p h hp w hX.1⟩
  · exact ⟨(psT_ok T rout_ok).1, fun args v p h hp w _ => (psT_ok T rout_ok).2 args v p h hp w trivial⟩
  · exact ⟨(psT_ok T tout_ok).1, fun args v p h hp w hX => (psT_ok T tout_ok).2 args v p h hp w hX.1.pow⟩
  · refine ⟨⟨_, Tryd.func6, by kernel_rfl, by kernel_rfl⟩, fun args v p h hp w hX => ?_⟩
    dsimp only at h
    split at h
    · cases h
      exact (lives_true w (fun r hr => by cases hr)).mono fun e w' ⟨h1, h2⟩ => ⟨h2, h1⟩
    · cases h
theorem facts1 {W0 : World} (T P : ByteArray) (W C : Int) (ok : Bool) (hw : WX W0) : Facts (E1 T P W C ok) (laidOwn []) W0 :=
  factsP (X := X W0) (sl_ok T P W C ok) fun ν s w hr hg => ⟨hw.keep fun k hk => hr.frame k hk (fun h => h), fun k hk => hr.frame k hk (fun h => h)⟩
theorem outB_size {p : List UInt8} {w c : Int} (h0 : -9223372036854775808 ≤ c) (h1 : c ≤ 9223372036854775807) (hp : p.length ≤ 500) : (outB p w c).size ≤ 1000000000 := by
  have e1 : (wname w).length ≤ 9 := by
    unfold wname
    repeat' split
    all_goals decide
  have e2 := itoa_len h0 h1
  have e3 : (pathL p).length ≤ 3 * p.length := pathL_len p
  unfold outB
  repeat' split
  all_goals (rw [mkS_size]; simp only [List.length_append, List.length_cons, List.length_nil]; omega)
theorem walk (p : ByteArray) (w c : Int) (W : World) (hw : WX W) (hc : -9223372036854775808 ≤ c ∧ c ≤ 9223372036854775807) : Calls Tryd.prog 4 #[.agg #[.string p, .int .i64 w, .int .i64 c]] W fun e w' => e = .returned (.bool true) ∧ Below W.heap.size W w' := by
  have hcall : ∀ T ok, (∀ cs0, Goes (E1 T p w c ok) (laidOwn []) W cs0 4 (fun e w' => e = .returned (.bool true) ∧ Below W.heap.size W w') (laidVal []) (ent ok T p w c)) → Calls Tryd.prog 4 #[.agg #[.string p, .int .i64 w, .int .i64 c]] W fun e w' => e = .returned (.bool true) ∧ Below W.heap.size W w' := fun T ok h =>
    calls_pieces (E := E1 T p w c ok) rfl (d := 12) (l := []) (args := [.v (.agg #[.string p, .int .i64 w, .int .i64 c])]) (a := [.agg #[.string p, .int .i64 w, .int .i64 c]]) rfl (by decide) (by decide) (fun r hr => by cases hr) (S0 := ent ok T p w c) (by kernel_rfl) (by repeat (first | exact VRL.nil | refine VRL.cons (VR.v_iff.2 rfl) ?_)) h
  have hend : ∀ ν' M1 w1 s' w', (laidVal []).Le ν' → Base (laidOwn []) W M1 w1 → HR ν' M1 w1 s' w' → (Ending.returned (.bool true) = .returned (.bool true) ∧ Below W.heap.size W w') := fun ν' M1 w1 s' w' _ hB hr => ⟨rfl, below_of (fun _ h => h) hB hr⟩
  by_cases h : (p.size : Int) > 500
  · refine hcall (mkS []) true fun cs0 => Goes.endsV (facts1 _ p w c true hw) (n := 900) (o := [(0, .b true)]) (v := .bool true) ?_ hend
    rw [q0]; simp [Owed, h]
  · have hd : decide ((p.size : Int) > 500) = false := decide_eq_false h
    have hl : p.data.toList.length ≤ 500 := by
      have e : p.data.toList.length = p.size := by simp
      omega
    have hs := outB_size (w := w) hc.1 hc.2 hl
    have hc' : p.size ≤ 1000000000 ∧ -9223372036854775808 ≤ c ∧ c ≤ 9223372036854775807 := ⟨by omega, hc⟩
    by_cases hn : outB p.data.toList w c = mkS []
    · refine hcall ⟨#[]⟩ false fun cs0 => Goes.endsV (facts1 _ p w c false hw) (n := 900) (o := ff [0] false) (v := .bool true) ?_ hend
      rw [q1]
      have c2 : (0 : Nat) ≤ (1000000000 : Nat) ∧ okT ⟨#[]⟩ = false ∧ (false = true → qP ⟨#[]⟩ = p ∧ qW ⟨#[]⟩ = w ∧ qC ⟨#[]⟩ = c) := ⟨by decide, refused_nil, fun h => by cases h⟩
      simp only [Owed, hd, true_and, and_true]
      repeat' apply And.intro
      all_goals first | rfl | exact hn | exact hc'.1 | exact hc'.2.1 | exact hc'.2.2 | exact c2.1 | exact refused_nil | exact c2.2.2 | skip
    · have hr : ¬ (w < 1 ∨ w > 6 ∨ p.data.toList = []) := fun h => hn (outB_none h)
      have hp : p.data.toList ≠ [] := fun e => hr (.inr (.inr e))
      have hw6 : 1 ≤ w ∧ w ≤ 6 := by omega
      have hcz : w < 5 → c = 0 := fun h5 => by
        by_cases hz : c = 0
        · exact hz
        · exact absurd (by unfold outB; rw [if_neg hr, if_neg (by omega), if_neg hz]) hn
      have hne : ((outB p.data.toList w c).data.toList == ([] : List UInt8)) = false := ne_beq fun e => hn (by rw [← mkS_of (outB p.data.toList w c), e])
      by_cases hlo : c < 0
      · refine hcall (outB p.data.toList w c) false fun cs0 => Goes.endsV (facts1 _ p w c false hw) (n := 900) (o := (ff [0, 3, 5, 6, 7, 8] false ++ ff [9, 10, 11, 12, 13] true ++ [(14, .eqs true)] ++ ff [15, 16, 17, 18, 19, 20] true)) (v := .bool true) ?_ hend
        rw [q2a]
        have c2 : okT (outB p.data.toList w c) = false := refused (by omega) hp (.inl hlo)
        have c4 : decide (c < 0) = true := decide_eq_true hlo
        simp only [Owed, hd, lit_mkS, mkS_list, tlB, mkS_data, hne, c4, beq_self_eq_true, Bool.not_true, true_and, and_true]
        repeat' apply And.intro
        all_goals first | rfl | exact hs | exact c2 | exact hc'.1 | exact hc'.2.1 | exact hc'.2.2 | (intro hh; cases hh) | skip
      · have c3 : decide (c < 0) = false := decide_eq_false hlo
        by_cases hhi : c > 999999999
        · refine hcall (outB p.data.toList w c) false fun cs0 => Goes.endsV (facts1 _ p w c false hw) (n := 900) (o := (ff [0, 3, 5, 6, 7, 8, 9, 10, 11, 12] false ++ ff [13] true ++ [(14, .eqs true)] ++ ff [15, 16, 17, 18, 19, 20] true)) (v := .bool true) ?_ hend
          rw [q2b]
          have c2 : okT (outB p.data.toList w c) = false := refused (by omega) hp (.inr hhi)
          have c4 : decide (c > 999999999) = true := decide_eq_true hhi
          simp only [Owed, hd, lit_mkS, mkS_list, tlB, mkS_data, hne, c3, c4, beq_self_eq_true, Bool.not_true, true_and, and_true]
          repeat' apply And.intro
          all_goals first | rfl | exact hs | exact c2 | exact hc'.1 | exact hc'.2.1 | exact hc'.2.2 | (intro hh; cases hh) | skip
        · refine hcall (outB p.data.toList w c) true fun cs0 => Goes.endsV (facts1 _ p w c true hw) (n := 900) (o := (ff [0, 3, 5, 6, 7, 8, 9, 10, 11, 12, 13] false ++ [(14, .eqs true)] ++ ff [15, 16, 17, 18, 19, 20] true)) (v := .bool true) ?_ hend
          rw [q3]
          have hb := back hw6 hp hcz (by omega) (by omega)
          have c2 : okT (outB p.data.toList w c) = true := hb.1
          have c4 : decide (c > 999999999) = false := decide_eq_false hhi
          have e1 : qP (outB p.data.toList w c) = p := by unfold qP; rw [if_pos c2, hb.2.1]; exact mkS_of p
          have e2 : qW (outB p.data.toList w c) = w := by unfold qW; rw [if_pos c2]; exact hb.2.2.1
          have e3 : qC (outB p.data.toList w c) = c := by unfold qC; rw [if_pos c2]; exact hb.2.2.2
          simp only [Owed, hd, lit_mkS, mkS_list, tlB, mkS_data, hne, c3, c4, beq_self_eq_true, Bool.not_true, true_and, and_true]
          repeat' apply And.intro
          all_goals first | rfl | exact hs | exact c2 | exact hc'.1 | exact hc'.2.1 | exact hc'.2.2 | (intro hh; exact ⟨e1, e2, e3⟩) | skip
/-- A world that meets the condition. -/
noncomputable def start (os : Os) : World :=
  World.laidAll Tryd.prog os Rows.taleOutcomesRow.laid
theorem start_met (os : Os) (args : Array Value) : laidMetH Tryd.prog Rows.taleOutcomesRow.laid ((start os).forCall (fun _ _ => 0) ⟨#[], args, []⟩).memory :=
  laidMetH_of_parts3 (fuel := 8) (laidMet_of_run' 8 (by kernel_rfl) (by kernel_rfl)) (by kernel_rfl) (by kernel_rfl)
theorem start_shaped (os : Os) (args : Array Value) : ((start os).forCall (fun _ _ => 0) ⟨#[], args, []⟩).Shaped Tryd.prog := World.shaped_of_RefB (by kernel_rfl) (by kernel_rfl)
theorem start_ok (os : Os) : Input.okWideB Tryd.prog ((start os).forCall (fun _ _ => 0) ⟨#[], #[.agg #[.string ⟨#[]⟩, .int .i64 0, .int .i64 0]], []⟩) 4 ⟨#[], #[.agg #[.string ⟨#[]⟩, .int .i64 0, .int .i64 0]], []⟩ = true := by kernel_rfl
set_option maxRecDepth 100000 in
theorem lifted (os : Os) (started : os.Started) (H : Type) (enc : TypeId × Value → H) :
    ReturnsInHanded {} Tryd.checked os 4 .any (fun w args => (Rows.taleOutcomesSpec.pre enc Tryd.prog Tryd.f4 [] false w args ∧ laidMetH Tryd.prog Rows.taleOutcomesRow.laid w) ∧ sizedMet enc Tryd.prog Tryd.f4 (OpenSpec.ofChange Rows.taleOutcomesSpec) false w args)
      (Rows.taleOutcomesSpec.post enc Tryd.prog Tryd.f4 false true false false) := by
  refine words.returns_shaped (C := Tryd.checked) (X := fun w _ => laidMetH Tryd.prog Rows.taleOutcomesRow.laid w) (fun _ _ _ hh h => h.of_heap hh) own started (by kernel_rfl) Tryd.func4
    (ChangeSpec.witness_shaped (enc := enc) (C := Tryd.checked) (os := os) (X := fun w _ => laidMetH Tryd.prog Rows.taleOutcomesRow.laid w) false (start os) #[.agg #[.string ⟨#[]⟩, .int .i64 0, .int .i64 0]] 8 (by kernel_rfl) (start_shaped os _) (start_ok os) (by kernel_rfl) (by kernel_rfl) (start_met os _)) ?_
  intro W base args ds gs before hval0 hW _ hZ hL hSh
  have hval : ∀ (j : Nat) t v, Tryd.f4.params[j]? = some t → args[j]? = some v → Value.okWide Tryd.prog W .any base t v := hval0
  have hW' := hW
  obtain ⟨p, q, hA0, hV, rfl, hfz, hnd⟩ := hW
  have hA : DataW.TrodAll enc Tryd.prog W 0 (fun _ => true) true Tryd.f4.params.toList args.toList ds p := hA0
  rw [Tryd.params4] at hA hval
  have hAll := hA
  obtain ⟨v0, vs0, d0, ds0, p0, q0, hargs, rfl, rfl, h0, r0⟩ := trodAll_cons hA
  obtain ⟨rfl, rfl, rfl⟩ := trodAll_nil r0
  obtain rfl : args = #[v0] := by cases args; simp_all
  obtain ⟨rfl, rfl⟩ := trodVars_none hV
  have lt0 : ∀ x ∈ p0, x.block < W.heap.size := by obtain ⟨m, hm⟩ := h0; exact DataW.trod_lt m _ _ _ hm
  obtain ⟨cs0, rfl, hc0⟩ := okWide_cells Tryd.underlying29 (show Tryd.prog.cellTypes Tryd.prog.depth 29 = some [9, 3, 27] by kernel_rfl) (show Tryd.prog.cellsOf 29 = 3 by kernel_rfl) (hval 0 29 v0 rfl rfl)
  obtain ⟨y0_0, r0_0, rfl, ho0_0, hc0⟩ := hc0
  obtain ⟨y0_1, r0_1, rfl, ho0_1, hc0⟩ := hc0
  obtain ⟨y0_2, r0_2, rfl, ho0_2, hc0⟩ := hc0
  obtain rfl := hc0
  obtain ⟨x0_0, rfl⟩ := cell_string Tryd.underlying9 ho0_0
  obtain ⟨x0_1, rfl, hb0_1⟩ := cell_int Tryd.underlying3 ho0_1
  obtain ⟨x0_2, rfl, hb0_2⟩ := cell_int Tryd.underlying27 ho0_2
  clear hA0 hval0
  refine (walk x0_0 x0_1 x0_2 W  (words.wx_of hL (List.mem_filter.2 ⟨(show ("internal/strconv.uint64pow10", Rows.laid_internal_strconv_uint64pow10) ∈ Rows.taleOutcomesRow.laid by simp [Rows.taleOutcomesRow]), rfl⟩) (List.mem_filter.2 ⟨(show ("strconv.ErrSyntax", Rows.laid_strconv_ErrSyntax) ∈ Rows.taleOutcomesRow.laid by simp [Rows.taleOutcomesRow]), rfl⟩) hSh) (by have h := hb0_2; exact h)).mono fun e W' ⟨he, bel⟩ => ?_
  subst he
  refine ⟨_, rfl, _, _, _, [], _, [], hW', trodAll_mk1 (shut_bool Tryd.underlying4 _), trodAll_below laidOut bel hAll (by kernel_rfl) ?_, rfl, bel.frame _, fun h => by cases h⟩
  intro x hx
  simp only [List.mem_append, List.not_mem_nil, or_false] at hx
  exact lt0 x hx
set_option maxHeartbeats 4000000 in
theorem closed : joinedFacts Tryd.prog 4 Tryd.f4 Rows.taleOutcomesSpec Rows.taleOutcomesRow = true := by
  unfold joinedFacts
  repeat' (with_reducible refine and_intro ?_ ?_)
  all_goals as_aux_lemma => kernel_rfl
theorem holds : Rows.TaleOutcomesSaid :=
  OpenClaim.holds_of_wide 4 Tryd.f4 rfl rfl rfl rfl rfl rfl rfl ⟨rfl, rfl, rfl, rfl, rfl⟩ rfl rfl rfl rfl rfl (by kernel_rfl) Tryd.func4 closed
    (of_decide_eq_true (by kernel_rfl)) (by unfold Func.isWrapper; first | (rw [if_pos (by decide +kernel)]; kernel_rfl) | (rw [if_neg (by decide +kernel)]; exact ⟨rfl, rfl⟩))
    (fun os started H enc _ => lifted os started H enc)
theorem wfText : Rows.taleOutcomesRow.wfByText (OpenSpec.ofChange Rows.taleOutcomesSpec) = true := by kernel_rfl
theorem mainIs : Tryd.prog.mainIs = some (true, "17f38ba7ee82e99a3d6a474125661e19c57f5905f5043ab5864db9fb5b835a25".toList) := by kernel_rfl
theorem looksIs : true = Tryd.prog.looks [] := by kernel_rfl
theorem goesNot : false = Rows.taleOutcomesRow.goesBy Tryd.prog := by kernel_rfl
/-- The statement: the tied card. -/
theorem card_holds : Rows.TaleOutcomesCardSaid :=
  Claim7.holds_tied_plain_at .later [] [.data, .data, .data, .data, .sentinel, .sentinel, .pinned] true (true, "17f38ba7ee82e99a3d6a474125661e19c57f5905f5043ab5864db9fb5b835a25") true holds (fun _ h => by cases h) wfText (fun _ h => by cases h) taleOutcomes_row_tie rfl ⟨rfl, rfl⟩ mainIs rfl
    (fun f fn hf hfn => by
      obtain rfl : f = 4 := Option.some.inj ((show Tryd.prog.funcNamed "tender/tenderlaw44.TaleOutcomes" = some 4 by kernel_rfl).symm.trans hf) |>.symm
      obtain rfl : fn = Tryd.f4 := (Option.some.inj (Tryd.func4.symm.trans hfn)).symm
      exact ⟨looksIs, fun j t ht => by
        rw [Tryd.params4] at ht
        have hm : t ∈ [29] := by simpa using Array.mem_of_getElem? ht
        have hall : ([29].all fun u => !Tryd.prog.wantsStandIn u) = true := by kernel_rfl
        exact (show Tryd.prog.wantsStandIn t = false by simpa using List.all_eq_true.1 hall t hm)⟩)
    goesNot
#print axioms card_holds
end Go.Proofs.YtagegnclcengjaaDoor.taleOutcomes
