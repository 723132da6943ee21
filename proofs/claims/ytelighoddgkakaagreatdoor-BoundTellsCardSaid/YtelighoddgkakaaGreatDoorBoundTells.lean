/- The bounds of any numbers are the document's: the tied card of the law BoundTells. Conditions: none beyond the given statement's own (its listed package variables start as the program's text lays them). The law's calls are followed by a symbolic executor that is proved sound (YtelighoddgkakaaGreatDoorRxA .. YtelighoddgkakaaGreatDoorRyQ) and run by the kernel. By an AI agent. -/
import Derived.Test.YtelighoddgkakaaGreatDoorCards
import Derived.Test.YtelighoddgkakaaGreatDoorTie
import Derived.Test.YtelighoddgkakaaGreatDoorBound
import Derived.Test.YtelighoddgkakaaGreatDoorBoundTellsLv2
import Derived.Lay
import Derived.SevenTiedAt
import Derived.Stop.Joined
namespace Go.Proofs.YtelighoddgkakaaGreatDoor.boundTells
open Go Go.Rx Go.ChangeShapes Go.WideShapes Go.ChangeAt Go.RowKit bnd
set_option linter.unusedVariables false
set_option linter.unusedSimpArgs false
set_option maxRecDepth 100000
theorem told_of_laid {W : World} (h : laidMetH Tryz.prog Rows.boundTellsRow.laid W) : ∀ r ∈ ([] : List (Nat × List SV)), Rx.Told W r := fun r hr => by cases hr

/-- What is used of the calls. -/
def sl : List (FuncId × PS) := [(15, nearPS), (17, nearPS), (16, partsPS), (18, partsPS), (6, chPS), (7, chPS), (14, fun args => match args with | [] => some (.bool true, True) | _ => none)]
noncomputable def E9 : Env := EP sl []
noncomputable def ent (args : List SV) : SM := (enterS E9 3 args (laidMem 12 [])).getD noSM
theorem q0 (x0 : Int) (x1 : Int) (x2 : Int) : endsV E9 3 900 (ent [.v (.int .i64 x0), .v (.int .i64 x1), .v (.int .i64 x2)]) (ff (List.range 80) true) (.bool true) = [
  Value.bool true = Value.bool true,
  (IntKind.i64.wrap
   (IntKind.i64.wrap
   ((2 : Int) *
   IntKind.i64.wrap
   (IntKind.i64.wrap
   ((2 : Int) *
   IntKind.i64.wrap
   (IntKind.i64.wrap ((8 : Int) + IntKind.i64.wrap ((12 : Int) * nearN x0)) +
   partsN x1 (64 : Int))) +
   (8 : Int))) +
   (100 : Int)) ==
   IntKind.i64.wrap
   (IntKind.i64.wrap
   ((2 : Int) *
   IntKind.i64.wrap
   (IntKind.i64.wrap
   ((2 : Int) *
   IntKind.i64.wrap
   (IntKind.i64.wrap ((8 : Int) + IntKind.i64.wrap ((12 : Int) * nearN x0)) +
   partsN x1 (64 : Int))) +
   (8 : Int))) +
   (100 : Int))) =
   true,
  True,
  (IntKind.i64.wrap
   (IntKind.i64.wrap
   ((2 : Int) *
   IntKind.i64.wrap
   (IntKind.i64.wrap
   ((2 : Int) *
   IntKind.i64.wrap
   (IntKind.i64.wrap ((8 : Int) + IntKind.i64.wrap ((12 : Int) * nearN x0)) +
   partsN x1 (64 : Int))) +
   (8 : Int))) +
   (100 : Int)) ==
   IntKind.i64.wrap
   (IntKind.i64.wrap
   ((2 : Int) *
   IntKind.i64.wrap
   (IntKind.i64.wrap
   ((2 : Int) *
   IntKind.i64.wrap
   (IntKind.i64.wrap ((8 : Int) + IntKind.i64.wrap ((12 : Int) * nearN x0)) +
   partsN x1 (64 : Int))) +
   (8 : Int))) +
   (100 : Int))) =
   true,
  (IntKind.i64.wrap
   (IntKind.i64.wrap
   ((2 : Int) *
   IntKind.i64.wrap
   (IntKind.i64.wrap ((8 : Int) + IntKind.i64.wrap ((12 : Int) * nearN x0)) + partsN x1 (64 : Int))) +
   (8 : Int)) ==
   IntKind.i64.wrap
   (IntKind.i64.wrap
   ((2 : Int) *
   IntKind.i64.wrap
   (IntKind.i64.wrap ((8 : Int) + IntKind.i64.wrap ((12 : Int) * nearN x0)) + partsN x1 (64 : Int))) +
   (8 : Int))) =
   true,
  (IntKind.i64.wrap
   (IntKind.i64.wrap
   ((2 : Int) *
   IntKind.i64.wrap
   (IntKind.i64.wrap ((8 : Int) + IntKind.i64.wrap ((12 : Int) * nearN x0)) + partsN x1 (64 : Int))) +
   (8 : Int)) ==
   IntKind.i64.wrap
   (IntKind.i64.wrap
   ((2 : Int) *
   IntKind.i64.wrap
   (IntKind.i64.wrap ((8 : Int) + IntKind.i64.wrap ((12 : Int) * nearN x0)) + partsN x1 (64 : Int))) +
   (8 : Int))) =
   true,
  (64 : Int) = (64 : Int) ∨ (64 : Int) = (128 : Int) ∨ (64 : Int) = (200 : Int),
  True,
  (IntKind.i64.wrap
   (IntKind.i64.wrap
   ((2 : Int) *
   IntKind.i64.wrap
   (IntKind.i64.wrap ((8 : Int) + IntKind.i64.wrap ((12 : Int) * nearN x0)) + partsN x1 (64 : Int))) +
   (8 : Int)) ==
   IntKind.i64.wrap
   (IntKind.i64.wrap
   ((2 : Int) *
   IntKind.i64.wrap
   (IntKind.i64.wrap ((8 : Int) + IntKind.i64.wrap ((12 : Int) * nearN x0)) + partsN x1 (64 : Int))) +
   (8 : Int))) =
   true,
  (IntKind.i64.wrap
   (IntKind.i64.wrap
   ((2 : Int) *
   IntKind.i64.wrap
   (IntKind.i64.wrap ((8 : Int) + IntKind.i64.wrap ((12 : Int) * nearN x0)) + partsN x1 (64 : Int))) +
   (8 : Int)) ==
   IntKind.i64.wrap
   (IntKind.i64.wrap
   ((2 : Int) *
   IntKind.i64.wrap
   (IntKind.i64.wrap ((8 : Int) + IntKind.i64.wrap ((12 : Int) * nearN x0)) + partsN x1 (64 : Int))) +
   (8 : Int))) =
   true,
  (IntKind.i64.wrap
   (IntKind.i64.wrap
   ((2 : Int) *
   IntKind.i64.wrap
   (IntKind.i64.wrap ((8 : Int) + IntKind.i64.wrap ((12 : Int) * nearN x0)) + partsN x1 (64 : Int))) +
   (8 : Int)) ==
   IntKind.i64.wrap
   (IntKind.i64.wrap
   ((2 : Int) *
   IntKind.i64.wrap
   (IntKind.i64.wrap ((8 : Int) + IntKind.i64.wrap ((12 : Int) * nearN x0)) + partsN x1 (64 : Int))) +
   (8 : Int))) =
   true,
  (64 : Int) = (64 : Int) ∨ (64 : Int) = (128 : Int) ∨ (64 : Int) = (200 : Int),
  (x1 == x1) = true,
  True,
  (IntKind.i64.wrap
   (IntKind.i64.wrap
   ((2 : Int) *
   IntKind.i64.wrap
   (IntKind.i64.wrap ((8 : Int) + IntKind.i64.wrap ((12 : Int) * nearN x0)) + partsN x1 (64 : Int))) +
   (8 : Int)) ==
   IntKind.i64.wrap
   (IntKind.i64.wrap
   ((2 : Int) *
   IntKind.i64.wrap
   (IntKind.i64.wrap ((8 : Int) + IntKind.i64.wrap ((12 : Int) * nearN x0)) + partsN x1 (64 : Int))) +
   (8 : Int))) =
   true,
  (IntKind.i64.wrap
   (IntKind.i64.wrap
   ((2 : Int) *
   IntKind.i64.wrap
   (IntKind.i64.wrap ((8 : Int) + IntKind.i64.wrap ((12 : Int) * nearN x0)) + partsN x1 (64 : Int))) +
   (8 : Int)) ==
   IntKind.i64.wrap
   (IntKind.i64.wrap
   ((2 : Int) *
   IntKind.i64.wrap
   (IntKind.i64.wrap ((8 : Int) + IntKind.i64.wrap ((12 : Int) * nearN x0)) + partsN x1 (64 : Int))) +
   (8 : Int))) =
   true,
  (IntKind.i64.wrap (IntKind.i64.wrap ((8 : Int) + IntKind.i64.wrap ((12 : Int) * nearN x0)) + partsN x1 (64 : Int)) ==
   IntKind.i64.wrap (IntKind.i64.wrap ((8 : Int) + IntKind.i64.wrap ((12 : Int) * nearN x0)) + partsN x1 (64 : Int))) =
   true,
  (IntKind.i64.wrap (IntKind.i64.wrap ((8 : Int) + IntKind.i64.wrap ((12 : Int) * nearN x0)) + partsN x1 (64 : Int)) ==
   IntKind.i64.wrap (IntKind.i64.wrap ((8 : Int) + IntKind.i64.wrap ((12 : Int) * nearN x0)) + partsN x1 (64 : Int))) =
   true,
  (64 : Int) = (64 : Int) ∨ (64 : Int) = (128 : Int) ∨ (64 : Int) = (200 : Int),
  True,
  (IntKind.i64.wrap (IntKind.i64.wrap ((8 : Int) + IntKind.i64.wrap ((12 : Int) * nearN x0)) + partsN x1 (64 : Int)) ==
   IntKind.i64.wrap (IntKind.i64.wrap ((8 : Int) + IntKind.i64.wrap ((12 : Int) * nearN x0)) + partsN x1 (64 : Int))) =
   true,
  (IntKind.i64.wrap (IntKind.i64.wrap ((8 : Int) + IntKind.i64.wrap ((12 : Int) * nearN x0)) + partsN x1 (64 : Int)) ==
   IntKind.i64.wrap (IntKind.i64.wrap ((8 : Int) + IntKind.i64.wrap ((12 : Int) * nearN x0)) + partsN x1 (64 : Int))) =
   true,
  (IntKind.i64.wrap (IntKind.i64.wrap ((8 : Int) + IntKind.i64.wrap ((12 : Int) * nearN x0)) + partsN x1 (64 : Int)) ==
   IntKind.i64.wrap (IntKind.i64.wrap ((8 : Int) + IntKind.i64.wrap ((12 : Int) * nearN x0)) + partsN x1 (64 : Int))) =
   true,
  (64 : Int) = (64 : Int) ∨ (64 : Int) = (128 : Int) ∨ (64 : Int) = (200 : Int),
  (x1 == x1) = true,
  True,
  (IntKind.i64.wrap (IntKind.i64.wrap ((8 : Int) + IntKind.i64.wrap ((12 : Int) * nearN x0)) + partsN x1 (64 : Int)) ==
   IntKind.i64.wrap (IntKind.i64.wrap ((8 : Int) + IntKind.i64.wrap ((12 : Int) * nearN x0)) + partsN x1 (64 : Int))) =
   true,
  (IntKind.i64.wrap (IntKind.i64.wrap ((8 : Int) + IntKind.i64.wrap ((12 : Int) * nearN x0)) + partsN x1 (64 : Int)) ==
   IntKind.i64.wrap (IntKind.i64.wrap ((8 : Int) + IntKind.i64.wrap ((12 : Int) * nearN x0)) + partsN x1 (64 : Int))) =
   true,
  (chN x2 == chN x2) = true,
  (chN x2 == chN x2) = true,
  (64 : Int) = (64 : Int) ∨ (64 : Int) = (128 : Int) ∨ (64 : Int) = (200 : Int),
  True,
  (chN x2 == chN x2) = true,
  (chN x2 == chN x2) = true,
  (chN x2 == chN x2) = true,
  (64 : Int) = (64 : Int) ∨ (64 : Int) = (128 : Int) ∨ (64 : Int) = (200 : Int),
  (x1 == x1) = true,
  True,
  (chN x2 == chN x2) = true,
  (chN x2 == chN x2) = true,
  (IntKind.i64.wrap (nearN x2 + IntKind.i64.wrap ((4 : Int) * partsN x2 (128 : Int))) ==
   IntKind.i64.wrap (nearN x2 + IntKind.i64.wrap ((4 : Int) * partsN x2 (128 : Int)))) =
   true,
  (IntKind.i64.wrap (nearN x2 + IntKind.i64.wrap ((4 : Int) * partsN x2 (128 : Int))) ==
   IntKind.i64.wrap (nearN x2 + IntKind.i64.wrap ((4 : Int) * partsN x2 (128 : Int)))) =
   true,
  True,
  (IntKind.i64.wrap (nearN x2 + IntKind.i64.wrap ((4 : Int) * partsN x2 (128 : Int))) ==
   IntKind.i64.wrap (nearN x2 + IntKind.i64.wrap ((4 : Int) * partsN x2 (128 : Int)))) =
   true,
  (IntKind.i64.wrap (nearN x2 + IntKind.i64.wrap ((4 : Int) * partsN x2 (128 : Int))) ==
   IntKind.i64.wrap (nearN x2 + IntKind.i64.wrap ((4 : Int) * partsN x2 (128 : Int)))) =
   true,
  True,
  (IntKind.i64.wrap (nearN x2 + IntKind.i64.wrap ((4 : Int) * partsN x2 (128 : Int))) ==
   IntKind.i64.wrap (nearN x2 + IntKind.i64.wrap ((4 : Int) * partsN x2 (128 : Int)))) =
   true,
  (IntKind.i64.wrap (nearN x2 + IntKind.i64.wrap ((4 : Int) * partsN x2 (128 : Int))) ==
   IntKind.i64.wrap (nearN x2 + IntKind.i64.wrap ((4 : Int) * partsN x2 (128 : Int)))) =
   true,
  (128 : Int) = (64 : Int) ∨ (128 : Int) = (128 : Int) ∨ (128 : Int) = (200 : Int),
  True,
  (128 : Int) = (64 : Int) ∨ (128 : Int) = (128 : Int) ∨ (128 : Int) = (200 : Int),
  True] := by kernel_rfl
theorem sl_ok {W : World} : ∀ r ∈ sl, PureOK Tryz.prog (fun _ => True) r := by
  intro r hr
  simp only [sl, List.mem_cons, List.not_mem_nil, or_false] at hr
  rcases hr with rfl | rfl | rfl | rfl | rfl | rfl | rfl
  · exact near_ok
  · exact rnear_ok
  · exact parts_ok
  · exact begun_ok
  · exact ch_ok
  · exact rch_ok
  · refine ⟨⟨_, Tryz.func14, by kernel_rfl, by kernel_rfl⟩, fun args v p h hp w hX => ?_⟩
    dsimp only at h
    split at h
    · cases h
      exact (lives_true w (fun r hr => by cases hr)).mono fun e w' ⟨h1, h2⟩ => ⟨h2, h1⟩
    · cases h
theorem facts1 {W : World} : Facts E9 (laidOwn []) W := factsP0 (sl_ok (W := W))
theorem walk (x0 : Int) (x1 : Int) (x2 : Int) (W : World) (told : ∀ r ∈ ([] : List (Nat × List SV)), Rx.Told W r) : Calls Tryz.prog 3 #[.int .i64 x0, .int .i64 x1, .int .i64 x2] W fun e w' => e = .returned (.bool true) ∧ Below W.heap.size W w' := by
  refine calls_pieces (E := E9) rfl (d := 12) (l := []) (args := [.v (.int .i64 x0), .v (.int .i64 x1), .v (.int .i64 x2)]) (a := [.int .i64 x0, .int .i64 x1, .int .i64 x2]) rfl (by decide) (by decide) (fun r hr => by cases hr) (S0 := ent [.v (.int .i64 x0), .v (.int .i64 x1), .v (.int .i64 x2)]) (by kernel_rfl) (by repeat (first | exact VRL.nil | refine VRL.cons (VR.v_iff.2 rfl) ?_)) fun cs0 => ?_
  refine Goes.endsV facts1 (n := 900) (o := ff (List.range 80) true) (v := .bool true) ?_ fun ν' M1 w1 s' w' _ hB hr => ⟨rfl, below_of (fun _ h => h) hB hr⟩
  rw [q0]; simp [Owed]
/-- A world that meets the condition. -/
noncomputable def start (os : Os) : World :=
  let w0 := World.laidAll Tryz.prog os (Rows.boundTellsRow.laid.filter fun x => x.2.handleName?.isNone)
  { w0 with heap := w0.heap.modify 1 fun
      | .cells _ t frozen => .cells #[.iface 220 (.agg #[.pointer (some ⟨3, 63, none⟩)])] t frozen
      | o => o }
theorem start_met (os : Os) (args : Array Value) : laidMetH Tryz.prog Rows.boundTellsRow.laid ((start os).forCall (fun _ _ => 0) ⟨#[], args, []⟩).memory :=
  laidMetH_of_parts3 (fuel := 8) (laidMet_of_run' 8 (by kernel_rfl) (by kernel_rfl)) (by kernel_rfl) (by kernel_rfl)
theorem start_shaped (os : Os) (args : Array Value) : ((start os).forCall (fun _ _ => 0) ⟨#[], args, []⟩).Shaped Tryz.prog := World.shaped_of_RefB (by kernel_rfl) (by kernel_rfl)
theorem start_ok (os : Os) : Input.okWideB Tryz.prog ((start os).forCall (fun _ _ => 0) ⟨#[], #[.int .i64 0, .int .i64 0, .int .i64 0], []⟩) 3 ⟨#[], #[.int .i64 0, .int .i64 0, .int .i64 0], []⟩ = true := by kernel_rfl
set_option maxRecDepth 100000 in
theorem lifted (os : Os) (started : os.Started) (H : Type) (enc : TypeId × Value → H) :
    ReturnsInHanded {} Tryz.checked os 3 .any (fun w args => (Rows.boundTellsSpec.pre enc Tryz.prog Tryz.f3 [] false w args ∧ laidMetH Tryz.prog Rows.boundTellsRow.laid w) ∧ sizedMet enc Tryz.prog Tryz.f3 (OpenSpec.ofChange Rows.boundTellsSpec) false w args)
      (Rows.boundTellsSpec.post enc Tryz.prog Tryz.f3 false true false false) := by
  refine returnsInHanded_of_change_and (C := Tryz.checked) (X := fun w _ => laidMetH Tryz.prog Rows.boundTellsRow.laid w) (fun _ _ _ hh h => h.of_heap hh) own started (by kernel_rfl) Tryz.func3
    (ChangeSpec.witness_shaped (enc := enc) (C := Tryz.checked) (os := os) (X := fun w _ => laidMetH Tryz.prog Rows.boundTellsRow.laid w) false (start os) #[.int .i64 0, .int .i64 0, .int .i64 0] 8 (by kernel_rfl) (start_shaped os _) (start_ok os) (by kernel_rfl) (by kernel_rfl) (start_met os _)) ?_
  intro W base args ds gs before hval0 hW _ hZ hL _
  have hval : ∀ (j : Nat) t v, Tryz.f3.params[j]? = some t → args[j]? = some v → Value.okWide Tryz.prog W .any base t v := hval0
  have hW' := hW
  obtain ⟨p, q, hA0, hV, rfl, hfz, hnd⟩ := hW
  have hA : DataW.TrodAll enc Tryz.prog W 0 (fun _ => true) true Tryz.f3.params.toList args.toList ds p := hA0
  rw [Tryz.params3] at hA hval
  have hAll := hA
  obtain ⟨v0, vs0, d0, ds0, p0, q0, hargs, rfl, rfl, h0, r0⟩ := trodAll_cons hA
  obtain ⟨v1, vs1, d1, ds1, p1, q1, rfl, rfl, rfl, h1, r1⟩ := trodAll_cons r0
  obtain ⟨v2, vs2, d2, ds2, p2, q2, rfl, rfl, rfl, h2, r2⟩ := trodAll_cons r1
  obtain ⟨rfl, rfl, rfl⟩ := trodAll_nil r2
  obtain rfl : args = #[v0, v1, v2] := by cases args; simp_all
  obtain ⟨rfl, rfl⟩ := trodVars_none hV
  have lt0 : ∀ x ∈ p0, x.block < W.heap.size := by obtain ⟨m, hm⟩ := h0; exact DataW.trod_lt m _ _ _ hm
  have lt1 : ∀ x ∈ p1, x.block < W.heap.size := by obtain ⟨m, hm⟩ := h1; exact DataW.trod_lt m _ _ _ hm
  have lt2 : ∀ x ∈ p2, x.block < W.heap.size := by obtain ⟨m, hm⟩ := h2; exact DataW.trod_lt m _ _ _ hm
  obtain ⟨x0, rfl⟩ := okWide_int Tryz.underlying3 (hval 0 3 v0 rfl rfl)
  obtain ⟨x1, rfl⟩ := okWide_int Tryz.underlying3 (hval 1 3 v1 rfl rfl)
  obtain ⟨x2, rfl⟩ := okWide_int Tryz.underlying3 (hval 2 3 v2 rfl rfl)
  clear hA0 hval0
  refine (walk x0 x1 x2 W (told_of_laid hL)).mono fun e W' ⟨he, bel⟩ => ?_
  subst he
  refine ⟨_, rfl, _, _, _, [], _, [], hW', trodAll_mk1 (shut_bool Tryz.underlying4 _), trodAll_below laidOut bel hAll (by kernel_rfl) ?_, rfl, bel.frame _, fun h => by cases h⟩
  intro x hx
  simp only [List.mem_append, List.not_mem_nil, or_false] at hx
  rcases hx with hx | hx | hx
  · exact lt0 x hx
  · exact lt1 x hx
  · exact lt2 x hx
set_option maxHeartbeats 4000000 in
theorem closed : joinedFacts Tryz.prog 3 Tryz.f3 Rows.boundTellsSpec Rows.boundTellsRow = true := by
  unfold joinedFacts
  repeat' (with_reducible refine and_intro ?_ ?_)
  all_goals as_aux_lemma => kernel_rfl
theorem holds : Rows.BoundTellsSaid :=
  OpenClaim.holds_of_wide 3 Tryz.f3 rfl rfl rfl rfl rfl rfl rfl ⟨rfl, rfl, rfl, rfl, rfl⟩ rfl rfl rfl rfl rfl (by kernel_rfl) Tryz.func3 closed
    (of_decide_eq_true (by kernel_rfl)) (by unfold Func.isWrapper; first | (rw [if_pos (by decide +kernel)]; kernel_rfl) | (rw [if_neg (by decide +kernel)]; exact ⟨rfl, rfl⟩))
    (fun os started H enc _ => lifted os started H enc)
theorem wfText : Rows.boundTellsRow.wfByText (OpenSpec.ofChange Rows.boundTellsSpec) = true := by kernel_rfl
theorem mainIs : Tryz.prog.mainIs = some (true, "1c36a6075e5776b5deb556d101c3058579b770917cf428862db4860aedd6cff0".toList) := by kernel_rfl
theorem looksIs : true = Tryz.prog.looks [] := by kernel_rfl
theorem goesNot : false = Rows.boundTellsRow.goesBy Tryz.prog := by kernel_rfl
/-- The statement: the tied card. -/
theorem card_holds : Rows.BoundTellsCardSaid :=
  Claim7.holds_tied_plain_at .later [] [.handle, .data] true (true, "1c36a6075e5776b5deb556d101c3058579b770917cf428862db4860aedd6cff0") true holds (fun _ h => by cases h) wfText (fun _ h => by cases h) boundTells_row_tie rfl ⟨rfl, rfl⟩ mainIs rfl
    (fun f fn hf hfn => by
      obtain rfl : f = 3 := Option.some.inj ((show Tryz.prog.funcNamed "tender/tenderlaw40.BoundTells" = some 3 by kernel_rfl).symm.trans hf) |>.symm
      obtain rfl : fn = Tryz.f3 := (Option.some.inj (Tryz.func3.symm.trans hfn)).symm
      exact ⟨looksIs, fun j t ht => by
        rw [Tryz.params3] at ht
        have hm : t ∈ [3, 3, 3] := by simpa using Array.mem_of_getElem? ht
        have hall : ([3, 3, 3].all fun u => !Tryz.prog.wantsStandIn u) = true := by kernel_rfl
        exact (show Tryz.prog.wantsStandIn t = false by simpa using List.all_eq_true.1 hall t hm)⟩)
    goesNot
#print axioms card_holds
end Go.Proofs.YtelighoddgkakaaGreatDoor.boundTells
