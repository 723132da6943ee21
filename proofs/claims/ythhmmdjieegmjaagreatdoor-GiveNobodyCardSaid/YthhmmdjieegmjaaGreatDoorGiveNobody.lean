/- Of nothing nothing is given: the tied card of the law GiveNobody. Conditions: none beyond the given statement's own (its listed package variables start as the program's text lays them). The law's calls are followed by a symbolic executor that is proved sound (YthhmmdjieegmjaaGreatDoorRxA .. YthhmmdjieegmjaaGreatDoorRyG) and run by the kernel. By an AI agent. -/
import Derived.Test.YthhmmdjieegmjaaGreatDoorCards
import Derived.Test.YthhmmdjieegmjaaGreatDoorTie
import Derived.Test.YthhmmdjieegmjaaGreatDoorGiveNobodyRun0
import Derived.Test.YthhmmdjieegmjaaGreatDoorGiveNobodyRun1
import Derived.Lay
import Derived.SevenTiedAt
import Derived.Stop.Joined
namespace Go.Proofs.YthhmmdjieegmjaaGreatDoor.giveNobody
open Go Go.Rx Go.ChangeShapes Go.WideShapes Go.ChangeAt Go.RowKit
set_option linter.unusedVariables false
set_option maxRecDepth 100000
theorem told_of_laid {W : World} (h : laidMetH Tryz.prog Rows.giveNobodyRow.laid W) : ∀ r ∈ ([] : List (Nat × List SV)), Rx.Told W r := fun r hr => by cases hr
theorem walk (x0 : ByteArray) (x1 : Int) (W : World) (told : ∀ r ∈ ([] : List (Nat × List SV)), Rx.Told W r) : Calls Tryz.prog 4 #[.string x0, .int .i64 x1] W fun e w' => e = .returned (.bool true) ∧ Below W.heap.size W w' := by
  cases h0 : (decide ((200 : Int) < (x0.size : Int)))
  · skip
    exact calls_laid (a := [.string x0, .int .i64 x1]) (d := 9) (n := 8000) (l := []) (facts [false] []) rfl (by decide) (by decide) told (by rw [run0]; exact ⟨⟨trivial, h0⟩, trivial⟩)
  · skip
    exact calls_laid (a := [.string x0, .int .i64 x1]) (d := 9) (n := 8000) (l := []) (facts [true] []) rfl (by decide) (by decide) told (by rw [run1]; exact ⟨⟨trivial, h0⟩, trivial⟩)
/-- A world that meets the condition. -/
noncomputable def start (os : Os) : World :=
  World.laidAll Tryz.prog os Rows.giveNobodyRow.laid
theorem start_met (os : Os) (args : Array Value) : laidMetH Tryz.prog Rows.giveNobodyRow.laid ((start os).forCall (fun _ _ => 0) ⟨#[], args, []⟩).memory :=
  laidMetH_of_parts3 (fuel := 8) (laidMet_of_run' 8 (by kernel_rfl) (by kernel_rfl)) (by kernel_rfl) (by kernel_rfl)
theorem start_shaped (os : Os) (args : Array Value) : ((start os).forCall (fun _ _ => 0) ⟨#[], args, []⟩).Shaped Tryz.prog := World.shaped_of_RefB (by kernel_rfl) (by kernel_rfl)
theorem start_ok (os : Os) : Input.okWideB Tryz.prog ((start os).forCall (fun _ _ => 0) ⟨#[], #[.string ⟨#[]⟩, .int .i64 0], []⟩) 4 ⟨#[], #[.string ⟨#[]⟩, .int .i64 0], []⟩ = true := by kernel_rfl
set_option maxRecDepth 100000 in
theorem lifted (os : Os) (started : os.Started) (H : Type) (enc : TypeId × Value → H) :
    ReturnsInHanded {} Tryz.checked os 4 .any (fun w args => (Rows.giveNobodySpec.pre enc Tryz.prog Tryz.f4 [] false w args ∧ laidMetH Tryz.prog Rows.giveNobodyRow.laid w) ∧ sizedMet enc Tryz.prog Tryz.f4 (OpenSpec.ofChange Rows.giveNobodySpec) false w args)
      (Rows.giveNobodySpec.post enc Tryz.prog Tryz.f4 false true false false) := by
  refine returnsInHanded_of_change_and (C := Tryz.checked) (X := fun w _ => laidMetH Tryz.prog Rows.giveNobodyRow.laid w) (fun _ _ _ hh h => h.of_heap hh) own started (by kernel_rfl) Tryz.func4
    (ChangeSpec.witness_shaped (enc := enc) (C := Tryz.checked) (os := os) (X := fun w _ => laidMetH Tryz.prog Rows.giveNobodyRow.laid w) false (start os) #[.string ⟨#[]⟩, .int .i64 0] 8 (by kernel_rfl) (start_shaped os _) (start_ok os) (by kernel_rfl) (by kernel_rfl) (start_met os _)) ?_
  intro W base args ds gs before hval0 hW _ _ hL _
  have hval : ∀ (j : Nat) t v, Tryz.f4.params[j]? = some t → args[j]? = some v → Value.okWide Tryz.prog W .any base t v := hval0
  have hW' := hW
  obtain ⟨p, q, hA0, hV, rfl, hfz, hnd⟩ := hW
  have hA : DataW.TrodAll enc Tryz.prog W 0 (fun _ => true) true Tryz.f4.params.toList args.toList ds p := hA0
  rw [Tryz.params4] at hA hval
  have hAll := hA
  obtain ⟨v0, vs0, d0, ds0, p0, q0, hargs, rfl, rfl, h0, r0⟩ := trodAll_cons hA
  obtain ⟨v1, vs1, d1, ds1, p1, q1, rfl, rfl, rfl, h1, r1⟩ := trodAll_cons r0
  obtain ⟨rfl, rfl, rfl⟩ := trodAll_nil r1
  obtain rfl : args = #[v0, v1] := by cases args; simp_all
  obtain ⟨rfl, rfl⟩ := trodVars_none hV
  have lt0 : ∀ x ∈ p0, x.block < W.heap.size := by obtain ⟨m, hm⟩ := h0; exact DataW.trod_lt m _ _ _ hm
  have lt1 : ∀ x ∈ p1, x.block < W.heap.size := by obtain ⟨m, hm⟩ := h1; exact DataW.trod_lt m _ _ _ hm
  obtain ⟨x0, rfl⟩ := okWide_string Tryz.underlying9 (hval 0 9 v0 rfl rfl)
  obtain ⟨x1, rfl⟩ := okWide_int Tryz.underlying3 (hval 1 3 v1 rfl rfl)
  clear hA0 hval0
  refine (walk x0 x1 W (told_of_laid hL)).mono fun e W' ⟨he, bel⟩ => ?_
  subst he
  refine ⟨_, rfl, _, _, _, [], _, [], hW', trodAll_mk1 (shut_bool Tryz.underlying4 _), trodAll_below laidOut bel hAll (by kernel_rfl) ?_, rfl, bel.frame _, fun h => by cases h⟩
  intro x hx
  simp only [List.mem_append, List.not_mem_nil, or_false] at hx
  rcases hx with hx | hx
  · exact lt0 x hx
  · exact lt1 x hx
set_option maxHeartbeats 4000000 in
theorem closed : joinedFacts Tryz.prog 4 Tryz.f4 Rows.giveNobodySpec Rows.giveNobodyRow = true := by
  unfold joinedFacts
  repeat' (with_reducible refine and_intro ?_ ?_)
  all_goals as_aux_lemma => kernel_rfl
theorem holds : Rows.GiveNobodySaid :=
  OpenClaim.holds_of_wide 4 Tryz.f4 rfl rfl rfl rfl rfl rfl rfl ⟨rfl, rfl, rfl, rfl, rfl⟩ rfl rfl rfl rfl rfl (by kernel_rfl) Tryz.func4 closed
    (of_decide_eq_true (by kernel_rfl)) (by unfold Func.isWrapper; first | (rw [if_pos (by decide +kernel)]; kernel_rfl) | (rw [if_neg (by decide +kernel)]; exact ⟨rfl, rfl⟩))
    (fun os started H enc _ => lifted os started H enc)
theorem wfText : Rows.giveNobodyRow.wfByText (OpenSpec.ofChange Rows.giveNobodySpec) = true := by kernel_rfl
theorem mainIs : Tryz.prog.mainIs = some (true, "f6476c4c7d77eba80c9eaaeb1feba3f77287c39862545496170ad347bc2d1540".toList) := by kernel_rfl
theorem looksIs : true = Tryz.prog.looks [] := by kernel_rfl
theorem goesNot : false = Rows.giveNobodyRow.goesBy Tryz.prog := by kernel_rfl
/-- The statement: the tied card. -/
theorem card_holds : Rows.GiveNobodyCardSaid :=
  Claim7.holds_tied_plain_at .later [] [.data, .data] true (true, "f6476c4c7d77eba80c9eaaeb1feba3f77287c39862545496170ad347bc2d1540") true holds (fun _ h => by cases h) wfText (fun _ h => by cases h) giveNobody_row_tie rfl ⟨rfl, rfl⟩ mainIs rfl
    (fun f fn hf hfn => by
      obtain rfl : f = 4 := Option.some.inj ((show Tryz.prog.funcNamed "tender/tenderlaw30.GiveNobody" = some 4 by kernel_rfl).symm.trans hf) |>.symm
      obtain rfl : fn = Tryz.f4 := (Option.some.inj (Tryz.func4.symm.trans hfn)).symm
      exact ⟨looksIs, fun j t ht => by
        rw [Tryz.params4] at ht
        have hm : t ∈ [9, 3] := by simpa using Array.mem_of_getElem? ht
        have hall : ([9, 3].all fun u => !Tryz.prog.wantsStandIn u) = true := by kernel_rfl
        exact (show Tryz.prog.wantsStandIn t = false by simpa using List.all_eq_true.1 hall t hm)⟩)
    goesNot
#print axioms card_holds
end Go.Proofs.YthhmmdjieegmjaaGreatDoor.giveNobody
