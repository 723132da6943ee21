/- Of any line that is parsed, just it is the outcome's line; all others are refused: the tied card of the law TaleParses. Conditions: none beyond the given statement's own (its listed package variables start as the program's text lays them). The law's calls are followed by a symbolic executor that is proved sound (YtagegnclcengjaaDoorRxA .. YtagegnclcengjaaDoorRyO) and run by the kernel. By an AI agent. -/
import Derived.Test.YtagegnclcengjaaDoorCards
import Derived.Test.YtagegnclcengjaaDoorTie
import Derived.Test.YtagegnclcengjaaDoorTaleK
import Derived.Test.YtagegnclcengjaaDoorTaleParsesLv1
import Derived.Lay
import Derived.SevenTiedAt
import Derived.Stop.Joined
namespace Go.Proofs.YtagegnclcengjaaDoor.taleParses
open Go Go.Rx Go.ChangeShapes Go.WideShapes Go.ChangeAt Go.RowKit words
set_option linter.unusedVariables false
set_option linter.unusedSimpArgs false
set_option maxRecDepth 100000
/-- What Parse is told to come to: an outcome, or none. -/
def psB (ok : Bool) : PS := fun args => match args with
  | [.string t] => some (bif ok then .tuple #[.agg #[.string (qP t), .int .i64 (qW t), .int .i64 (qC t)], .int .i64 0] else .tuple #[.agg #[.string ⟨#[]⟩, .int .i64 0, .int .i64 0], .int .i64 10], t.size ≤ 1000000000 ∧ okT t = ok)
  | _ => none
theorem psB_ok (ok : Bool) : PureOK Tryd.prog WX (12, psB ok) := by
  refine ⟨parse_ok.1, fun args v p h hp w hX => ?_⟩
  dsimp only [psB] at h
  split at h
  · rename_i t
    cases h
    refine parse_ok.2 [.string t] _ (t.size ≤ 1000000000) ?_ hp.1 w hX
    dsimp only [parsePS]
    obtain ⟨_, h2⟩ := hp
    cases ok
    · simp only [qP, qW, qC, qE, h2, cond_false]; rfl
    · simp only [qP, qW, qC, qE, h2, cond_true, if_true]
  · cases h
/-- What is used of the calls. -/
def sl (ok : Bool) : List (FuncId × PS) := [(12, psB ok), (11, outPS), (6, fun args => match args with | [] => some (.bool true, True) | _ => none)]
noncomputable def E1 (ok : Bool) : Env := EP (sl ok) []
/-- A world in which what came in lies as it lay. -/
def X (W w : World) : Prop := WX w ∧ ∀ k, k < W.heap.size → w.heap[k]? = W.heap[k]?
def noSM : SM := { top := { fn := 0, tm := tmOf 0 0 [], todo := [], defers := [], ret := false, kind := .normal, ro := none }, callers := [], mem := memOf 0 0 0 [] }
noncomputable def ent (ok : Bool) (args : List SV) : SM := (enterS (E1 ok) 5 args (laidMem 12 [])).getD noSM
theorem q0 (x0 : ByteArray) : endsV (E1 true) 5 900 (ent true [.v (.string x0)]) [(0, .b true)] (.bool true) = [
  Value.bool true = Value.bool true,
  True,
  decide ((↑x0.size : Int) > (500 : Int)) = true] := by kernel_rfl
theorem q1 (x0 : ByteArray) : endsV (E1 false) 5 900 (ent false [.v (.string x0)]) (ff [0] false) (.bool true) = [
  Value.bool true = Value.bool true,
  True,
  x0.size ≤ (1000000000 : Nat) ∧ okT x0 = false,
  decide ((↑x0.size : Int) > (500 : Int)) = false] := by kernel_rfl
theorem q2 (x0 : ByteArray) : endsV (E1 true) 5 900 (ent true [.v (.string x0)]) (ff [0] false ++ ff [3, 4, 6, 7, 8, 9, 10, 11, 12, 13, 14, 15, 16, 17, 19] true) (.bool true) = [
  Value.bool true = Value.bool true,
  decide (qC x0 ≤ (999999999 : Int)) = true,
  True,
  decide (qC x0 ≤ (999999999 : Int)) = true,
  decide (qC x0 ≥ (0 : Int)) = true,
  decide (qC x0 ≥ (0 : Int)) = true,
  decide (qC x0 ≥ (0 : Int)) = true,
  decide (qC x0 ≥ (0 : Int)) = true,
  ((outB (qP x0).data.toList (qW x0) (qC x0)).toList == x0.toList) = true,
  ((outB (qP x0).data.toList (qW x0) (qC x0)).toList == x0.toList) = true,
  ((outB (qP x0).data.toList (qW x0) (qC x0)).toList == x0.toList) = true,
  ((outB (qP x0).data.toList (qW x0) (qC x0)).toList == x0.toList) = true,
  (!x0.toList == { data := { toList := [] : Array UInt8 } : ByteArray }.toList) = true,
  (!x0.toList == { data := { toList := [] : Array UInt8 } : ByteArray }.toList) = true,
  (!x0.toList == { data := { toList := [] : Array UInt8 } : ByteArray }.toList) = true,
  (qP x0).size ≤ (1000000000 : Nat) ∧ (-9223372036854775808 : Int) ≤ qC x0 ∧ qC x0 ≤ (9223372036854775807 : Int),
  (!x0.toList == { data := { toList := [] : Array UInt8 } : ByteArray }.toList) = true,
  (!x0.toList == { data := { toList := [] : Array UInt8 } : ByteArray }.toList) = true,
  x0.size ≤ (1000000000 : Nat) ∧ okT x0 = true,
  decide ((↑x0.size : Int) > (500 : Int)) = false] := by kernel_rfl
theorem sl_ok {W : World} (ok : Bool) : ∀ r ∈ sl ok, PureOK Tryd.prog (X W) r := by
  intro r hr
  simp only [sl, List.mem_cons, List.not_mem_nil, or_false] at hr
  rcases hr with rfl | rfl | rfl
  · exact ⟨(psB_ok ok).1, fun args v p h hp w hX => (psB_ok ok).2 args v p h hp w hX.1⟩
  · exact ⟨rout_ok.1, fun args v p h hp w _ => rout_ok.2 args v p h hp w trivial⟩
  · refine ⟨⟨_, Tryd.func6, by kernel_rfl, by kernel_rfl⟩, fun args v p h hp w hX => ?_⟩
    dsimp only at h
    split at h
    · cases h
      exact (lives_true w (fun r hr => by cases hr)).mono fun e w' ⟨h1, h2⟩ => ⟨h2, h1⟩
    · cases h
theorem facts1 {W : World} (ok : Bool) (hw : WX W) : Facts (E1 ok) (laidOwn []) W :=
  factsP (X := X W) (sl_ok ok) fun ν s w hr hg => ⟨hw.keep fun k hk => hr.frame k hk (fun h => h), fun k hk => hr.frame k hk (fun h => h)⟩
theorem walk (x0 : ByteArray) (W : World) (hw : WX W) : Calls Tryd.prog 5 #[.string x0] W fun e w' => e = .returned (.bool true) ∧ Below W.heap.size W w' := by
  have hcall : ∀ ok, (∀ cs0, Goes (E1 ok) (laidOwn []) W cs0 5 (fun e w' => e = .returned (.bool true) ∧ Below W.heap.size W w') (laidVal []) (ent ok [.v (.string x0)])) → Calls Tryd.prog 5 #[.string x0] W fun e w' => e = .returned (.bool true) ∧ Below W.heap.size W w' := fun ok h =>
    calls_pieces (E := E1 ok) rfl (d := 12) (l := []) (args := [.v (.string x0)]) (a := [.string x0]) rfl (by decide) (by decide) (fun r hr => by cases hr) (S0 := ent ok [.v (.string x0)]) (by kernel_rfl) (by repeat (first | exact VRL.nil | refine VRL.cons (VR.v_iff.2 rfl) ?_)) h
  have hend : ∀ ν' M1 w1 s' w', (laidVal []).Le ν' → Base (laidOwn []) W M1 w1 → HR ν' M1 w1 s' w' → (Ending.returned (.bool true) = .returned (.bool true) ∧ Below W.heap.size W w') := fun ν' M1 w1 s' w' _ hB hr => ⟨rfl, below_of (fun _ h => h) hB hr⟩
  by_cases h : (x0.size : Int) > 500
  · refine hcall true fun cs0 => Goes.endsV (facts1 true hw) (n := 900) (o := [(0, .b true)]) (v := .bool true) ?_ hend
    rw [q0]; simp [Owed, h]
  · have hd : decide ((x0.size : Int) > 500) = false := decide_eq_false h
    have c1 : x0.size.le 1000000000 := show x0.size ≤ 1000000000 by omega
    cases hok : okT x0
    · refine hcall false fun cs0 => Goes.endsV (facts1 false hw) (n := 900) (o := ff [0] false) (v := .bool true) ?_ hend
      rw [q1]
      have c2 : x0.size ≤ 1000000000 ∧ okT x0 = false := ⟨by omega, hok⟩
      simp only [Owed, hd, true_and, and_true]
      repeat' apply And.intro
      all_goals first | rfl | exact c2 | exact c2.1 | exact c2.2
    · refine hcall true fun cs0 => Goes.endsV (facts1 true hw) (n := 900) (o := (ff [0] false ++ ff [3, 4, 6, 7, 8, 9, 10, 11, 12, 13, 14, 15, 16, 17, 19] true)) (v := .bool true) ?_ hend
      rw [q2]
      have c2 : x0.size ≤ 1000000000 ∧ okT x0 = true := ⟨by omega, hok⟩
      have hh := of_decide_eq_true (show decide (x0.data.toList ≠ [] ∧ (outB (pP (wsOf x0)).data.toList (pW (wsOf x0)) (pC (wsOf x0))).data.toList = x0.data.toList) = true from hok)
      have e1 : qP x0 = pP (wsOf x0) := by simp [qP, hok]
      have e2 : qW x0 = pW (wsOf x0) := by simp [qW, hok]
      have e3 : qC x0 = pC (wsOf x0) := by simp [qC, hok]
      have h1 := pP_size x0
      have h2 := pC_in (wsOf x0)
      have c3 : (pP (wsOf x0)).size ≤ 1000000000 ∧ -9223372036854775808 ≤ pC (wsOf x0) ∧ pC (wsOf x0) ≤ 9223372036854775807 := by omega
      have c4 : decide (pC (wsOf x0) ≤ 999999999) = true := decide_eq_true h2.2
      have c5 : decide (pC (wsOf x0) ≥ 0) = true := decide_eq_true h2.1
      have c6 : (x0.data.toList == ([] : List UInt8)) = false := ne_beq hh.1
      simp only [Owed, hd, e1, e2, e3, lit_mkS, mkS_list, tlB, mkS_data, hh.2, c4, c5, c6, beq_self_eq_true, Bool.not_false, true_and, and_true]
      repeat' apply And.intro
      all_goals first | rfl | exact c1 | exact c2 | exact c2.1 | exact c2.2 | exact c3 | exact c3.1 | exact c3.2.1 | exact c3.2.2
/-- A world that meets the condition. -/
noncomputable def start (os : Os) : World :=
  World.laidAll Tryd.prog os Rows.taleParsesRow.laid
theorem start_met (os : Os) (args : Array Value) : laidMetH Tryd.prog Rows.taleParsesRow.laid ((start os).forCall (fun _ _ => 0) ⟨#[], args, []⟩).memory :=
  laidMetH_of_parts3 (fuel := 8) (laidMet_of_run' 8 (by kernel_rfl) (by kernel_rfl)) (by kernel_rfl) (by kernel_rfl)
theorem start_shaped (os : Os) (args : Array Value) : ((start os).forCall (fun _ _ => 0) ⟨#[], args, []⟩).Shaped Tryd.prog := World.shaped_of_RefB (by kernel_rfl) (by kernel_rfl)
theorem start_ok (os : Os) : Input.okWideB Tryd.prog ((start os).forCall (fun _ _ => 0) ⟨#[], #[.string ⟨#[]⟩], []⟩) 5 ⟨#[], #[.string ⟨#[]⟩], []⟩ = true := by kernel_rfl
set_option maxRecDepth 100000 in
theorem lifted (os : Os) (started : os.Started) (H : Type) (enc : TypeId × Value → H) :
    ReturnsInHanded {} Tryd.checked os 5 .any (fun w args => (Rows.taleParsesSpec.pre enc Tryd.prog Tryd.f5 [] false w args ∧ laidMetH Tryd.prog Rows.taleParsesRow.laid w) ∧ sizedMet enc Tryd.prog Tryd.f5 (OpenSpec.ofChange Rows.taleParsesSpec) false w args)
      (Rows.taleParsesSpec.post enc Tryd.prog Tryd.f5 false true false false) := by
  refine words.returns_shaped (C := Tryd.checked) (X := fun w _ => laidMetH Tryd.prog Rows.taleParsesRow.laid w) (fun _ _ _ hh h => h.of_heap hh) own started (by kernel_rfl) Tryd.func5
    (ChangeSpec.witness_shaped (enc := enc) (C := Tryd.checked) (os := os) (X := fun w _ => laidMetH Tryd.prog Rows.taleParsesRow.laid w) false (start os) #[.string ⟨#[]⟩] 8 (by kernel_rfl) (start_shaped os _) (start_ok os) (by kernel_rfl) (by kernel_rfl) (start_met os _)) ?_
  intro W base args ds gs before hval0 hW _ hZ hL hSh
  have hval : ∀ (j : Nat) t v, Tryd.f5.params[j]? = some t → args[j]? = some v → Value.okWide Tryd.prog W .any base t v := hval0
  have hW' := hW
  obtain ⟨p, q, hA0, hV, rfl, hfz, hnd⟩ := hW
  have hA : DataW.TrodAll enc Tryd.prog W 0 (fun _ => true) true Tryd.f5.params.toList args.toList ds p := hA0
  rw [Tryd.params5] at hA hval
  have hAll := hA
  obtain ⟨v0, vs0, d0, ds0, p0, q0, hargs, rfl, rfl, h0, r0⟩ := trodAll_cons hA
  obtain ⟨rfl, rfl, rfl⟩ := trodAll_nil r0
  obtain rfl : args = #[v0] := by cases args; simp_all
  obtain ⟨rfl, rfl⟩ := trodVars_none hV
  have lt0 : ∀ x ∈ p0, x.block < W.heap.size := by obtain ⟨m, hm⟩ := h0; exact DataW.trod_lt m _ _ _ hm
  obtain ⟨x0, rfl⟩ := okWide_string Tryd.underlying9 (hval 0 9 v0 rfl rfl)
  clear hA0 hval0
  refine (walk x0 W  (words.wx_of hL (List.mem_filter.2 ⟨(show ("internal/strconv.uint64pow10", Rows.laid_internal_strconv_uint64pow10) ∈ Rows.taleParsesRow.laid by simp [Rows.taleParsesRow]), rfl⟩) (List.mem_filter.2 ⟨(show ("strconv.ErrSyntax", Rows.laid_strconv_ErrSyntax) ∈ Rows.taleParsesRow.laid by simp [Rows.taleParsesRow]), rfl⟩) hSh)).mono fun e W' ⟨he, bel⟩ => ?_
  subst he
  refine ⟨_, rfl, _, _, _, [], _, [], hW', trodAll_mk1 (shut_bool Tryd.underlying4 _), trodAll_below laidOut bel hAll (by kernel_rfl) ?_, rfl, bel.frame _, fun h => by cases h⟩
  intro x hx
  simp only [List.mem_append, List.not_mem_nil, or_false] at hx
  exact lt0 x hx
set_option maxHeartbeats 4000000 in
theorem closed : joinedFacts Tryd.prog 5 Tryd.f5 Rows.taleParsesSpec Rows.taleParsesRow = true := by
  unfold joinedFacts
  repeat' (with_reducible refine and_intro ?_ ?_)
  all_goals as_aux_lemma => kernel_rfl
theorem holds : Rows.TaleParsesSaid :=
  OpenClaim.holds_of_wide 5 Tryd.f5 rfl rfl rfl rfl rfl rfl rfl ⟨rfl, rfl, rfl, rfl, rfl⟩ rfl rfl rfl rfl rfl (by kernel_rfl) Tryd.func5 closed
    (of_decide_eq_true (by kernel_rfl)) (by unfold Func.isWrapper; first | (rw [if_pos (by decide +kernel)]; kernel_rfl) | (rw [if_neg (by decide +kernel)]; exact ⟨rfl, rfl⟩))
    (fun os started H enc _ => lifted os started H enc)
theorem wfText : Rows.taleParsesRow.wfByText (OpenSpec.ofChange Rows.taleParsesSpec) = true := by kernel_rfl
theorem mainIs : Tryd.prog.mainIs = some (true, "17f38ba7ee82e99a3d6a474125661e19c57f5905f5043ab5864db9fb5b835a25".toList) := by kernel_rfl
theorem looksIs : true = Tryd.prog.looks [] := by kernel_rfl
theorem goesNot : false = Rows.taleParsesRow.goesBy Tryd.prog := by kernel_rfl
/-- The statement: the tied card. -/
theorem card_holds : Rows.TaleParsesCardSaid :=
  Claim7.holds_tied_plain_at .later [] [.data, .data, .data, .data, .sentinel, .sentinel, .pinned] true (true, "17f38ba7ee82e99a3d6a474125661e19c57f5905f5043ab5864db9fb5b835a25") true holds (fun _ h => by cases h) wfText (fun _ h => by cases h) taleParses_row_tie rfl ⟨rfl, rfl⟩ mainIs rfl
    (fun f fn hf hfn => by
      obtain rfl : f = 5 := Option.some.inj ((show Tryd.prog.funcNamed "tender/tenderlaw44.TaleParses" = some 5 by kernel_rfl).symm.trans hf) |>.symm
      obtain rfl : fn = Tryd.f5 := (Option.some.inj (Tryd.func5.symm.trans hfn)).symm
      exact ⟨looksIs, fun j t ht => by
        rw [Tryd.params5] at ht
        have hm : t ∈ [9] := by simpa using Array.mem_of_getElem? ht
        have hall : ([9].all fun u => !Tryd.prog.wantsStandIn u) = true := by kernel_rfl
        exact (show Tryd.prog.wantsStandIn t = false by simpa using List.all_eq_true.1 hall t hm)⟩)
    goesNot
#print axioms card_holds
end Go.Proofs.YtagegnclcengjaaDoor.taleParses
