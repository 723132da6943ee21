/- To nobody nothing comes: the tied card of the law TakeNobody. Conditions: none beyond the given statement's own (its listed package variables start as the program's text lays them). The law's calls are followed by a symbolic executor that is proved sound (YthhmmdjieegmjaaGreatDoorRxA .. YthhmmdjieegmjaaGreatDoorRyG) and run by the kernel. By an AI agent. -/
import Derived.Test.YthhmmdjieegmjaaGreatDoorCards
import Derived.Test.YthhmmdjieegmjaaGreatDoorTie
import Derived.Test.YthhmmdjieegmjaaGreatDoorTakeNobodyRun0
import Derived.Test.YthhmmdjieegmjaaGreatDoorTakeNobodyRun1
import Derived.Lay
import Derived.SevenTiedAt
import Derived.Stop.Joined
namespace Go.Proofs.YthhmmdjieegmjaaGreatDoor.takeNobody
open Go Go.Rx Go.ChangeShapes Go.WideShapes Go.ChangeAt Go.RowKit
set_option linter.unusedVariables false
set_option maxRecDepth 100000
theorem told_of_laid {W : World} (h : laidMetH Tryz.prog Rows.takeNobodyRow.laid W) : ∀ r ∈ ([(0, [.iface 260 (.v (.agg #[.pointer (some ⟨7, 32, none⟩)]))])] : List (Nat × List SV)), Rx.Told W r := by
  intro r hr
  simp only [List.mem_cons, List.not_mem_nil, or_false] at hr
  rcases hr with rfl
  · exact told_handle (laidMetH_handles h) (v := "errors.errorType") (d := Rows.laid_errors_errorType) (name := [101, 114, 114, 111, 114]) (ty := 32) (List.mem_filter.2 ⟨by simp [Rows.takeNobodyRow], rfl⟩) rfl rfl (by kernel_rfl) (by kernel_rfl) (by kernel_rfl) (by kernel_rfl)
theorem walk (x0_0 : ByteArray) (x0_1 : Int) (x0_2 : Int) (x0_3 : Int) (x0_4 : Int) (x0_5 : Int) (x0_6 : Int) (a0_7 : Option Addr) (l0_7 : Nat) (c0_7 : Nat) (x0_8 : Bool) (x0_9 : Int) (x0_10 : Bool) (x1_0 : Int) (x1_1 : Int) (a1_2 : Option Addr) (l1_2 : Nat) (c1_2 : Nat) (x1_3 : Int) (x1_4 : ByteArray) (x1_5 : ByteArray) (a1_6 : Option Addr) (l1_6 : Nat) (c1_6 : Nat) (W : World) (told : ∀ r ∈ ([(0, [.iface 260 (.v (.agg #[.pointer (some ⟨7, 32, none⟩)]))])] : List (Nat × List SV)), Rx.Told W r) : Calls Tryz.prog 5 #[.agg #[.string x0_0, .int .u64 x0_1, .int .i64 x0_2, .int .u64 x0_3, .int .i64 x0_4, .int .i64 x0_5, .int .i64 x0_6, .slice a0_7 l0_7 c0_7, .bool x0_8, .int .u64 x0_9, .bool x0_10], .agg #[.int .i64 x1_0, .int .i64 x1_1, .slice a1_2 l1_2 c1_2, .int .i64 x1_3, .string x1_4, .string x1_5, .slice a1_6 l1_6 c1_6]] W fun e w' => e = .returned (.bool true) ∧ Below W.heap.size W w' := by
  cases h0 : (decide (IntKind.i64.wrap (IntKind.i64.wrap ((x0_0.size : Int) + (l0_7 : Int)) + IntKind.i64.wrap (IntKind.i64.wrap (IntKind.i64.wrap ((l1_2 : Int) + (x1_4.size : Int)) + (x1_5.size : Int)) + (l1_6 : Int))) ≤ 20000))
  · skip
    exact calls_laid (a := [.agg #[.string x0_0, .int .u64 x0_1, .int .i64 x0_2, .int .u64 x0_3, .int .i64 x0_4, .int .i64 x0_5, .int .i64 x0_6, .slice a0_7 l0_7 c0_7, .bool x0_8, .int .u64 x0_9, .bool x0_10], .agg #[.int .i64 x1_0, .int .i64 x1_1, .slice a1_2 l1_2 c1_2, .int .i64 x1_3, .string x1_4, .string x1_5, .slice a1_6 l1_6 c1_6]]) (d := 10) (n := 20000) (l := [(0, [.iface 260 (.v (.agg #[.pointer (some ⟨7, 32, none⟩)]))])]) (facts [(4, false), (5, false), (6, false), (7, false)] [(0, 0)]) rfl (by decide) (by decide) told (by rw [run0]; exact ⟨⟨⟨⟨⟨trivial, h0⟩, h0⟩, h0⟩, h0⟩, trivial⟩)
  · skip
    exact calls_laid (a := [.agg #[.string x0_0, .int .u64 x0_1, .int .i64 x0_2, .int .u64 x0_3, .int .i64 x0_4, .int .i64 x0_5, .int .i64 x0_6, .slice a0_7 l0_7 c0_7, .bool x0_8, .int .u64 x0_9, .bool x0_10], .agg #[.int .i64 x1_0, .int .i64 x1_1, .slice a1_2 l1_2 c1_2, .int .i64 x1_3, .string x1_4, .string x1_5, .slice a1_6 l1_6 c1_6]]) (d := 10) (n := 20000) (l := [(0, [.iface 260 (.v (.agg #[.pointer (some ⟨7, 32, none⟩)]))])]) (facts [(4, true), (5, true), (6, true), (7, true)] [(0, 0)]) rfl (by decide) (by decide) told (by rw [run1]; exact ⟨⟨⟨⟨⟨trivial, h0⟩, h0⟩, h0⟩, h0⟩, trivial⟩)
/-- A world that meets the condition. -/
noncomputable def start (os : Os) : World :=
  let w0 := World.laidAll Tryz.prog os (Rows.takeNobodyRow.laid.filter fun x => x.2.handleName?.isNone)
  { w0 with heap := w0.heap.modify 0 fun
      | .cells _ t frozen => .cells #[.iface 260 (.agg #[.pointer (some ⟨7, 32, none⟩)])] t frozen
      | o => o }
theorem start_met (os : Os) (args : Array Value) : laidMetH Tryz.prog Rows.takeNobodyRow.laid ((start os).forCall (fun _ _ => 0) ⟨#[], args, []⟩).memory :=
  laidMetH_of_parts3 (fuel := 8) (laidMet_of_run' 8 (by kernel_rfl) (by kernel_rfl)) (by kernel_rfl) (by kernel_rfl)
theorem start_shaped (os : Os) (args : Array Value) : ((start os).forCall (fun _ _ => 0) ⟨#[], args, []⟩).Shaped Tryz.prog := World.shaped_of_RefB (by kernel_rfl) (by kernel_rfl)
theorem start_ok (os : Os) : Input.okWideB Tryz.prog ((start os).forCall (fun _ _ => 0) ⟨#[], #[.agg #[.string ⟨#[]⟩, .int .u64 0, .int .i64 0, .int .u64 0, .int .i64 0, .int .i64 0, .int .i64 0, .slice none 0 0, .bool false, .int .u64 0, .bool false], .agg #[.int .i64 0, .int .i64 0, .slice none 0 0, .int .i64 0, .string ⟨#[]⟩, .string ⟨#[]⟩, .slice none 0 0]], []⟩) 5 ⟨#[], #[.agg #[.string ⟨#[]⟩, .int .u64 0, .int .i64 0, .int .u64 0, .int .i64 0, .int .i64 0, .int .i64 0, .slice none 0 0, .bool false, .int .u64 0, .bool false], .agg #[.int .i64 0, .int .i64 0, .slice none 0 0, .int .i64 0, .string ⟨#[]⟩, .string ⟨#[]⟩, .slice none 0 0]], []⟩ = true := by kernel_rfl
set_option maxRecDepth 100000 in
theorem lifted (os : Os) (started : os.Started) (H : Type) (enc : TypeId × Value → H) :
    ReturnsInHanded {} Tryz.checked os 5 .any (fun w args => (Rows.takeNobodySpec.pre enc Tryz.prog Tryz.f5 [] false w args ∧ laidMetH Tryz.prog Rows.takeNobodyRow.laid w) ∧ sizedMet enc Tryz.prog Tryz.f5 (OpenSpec.ofChange Rows.takeNobodySpec) false w args)
      (Rows.takeNobodySpec.post enc Tryz.prog Tryz.f5 false true false false) := by
  refine returnsInHanded_of_change_and (C := Tryz.checked) (X := fun w _ => laidMetH Tryz.prog Rows.takeNobodyRow.laid w) (fun _ _ _ hh h => h.of_heap hh) own started (by kernel_rfl) Tryz.func5
    (ChangeSpec.witness_shaped (enc := enc) (C := Tryz.checked) (os := os) (X := fun w _ => laidMetH Tryz.prog Rows.takeNobodyRow.laid w) false (start os) #[.agg #[.string ⟨#[]⟩, .int .u64 0, .int .i64 0, .int .u64 0, .int .i64 0, .int .i64 0, .int .i64 0, .slice none 0 0, .bool false, .int .u64 0, .bool false], .agg #[.int .i64 0, .int .i64 0, .slice none 0 0, .int .i64 0, .string ⟨#[]⟩, .string ⟨#[]⟩, .slice none 0 0]] 8 (by kernel_rfl) (start_shaped os _) (start_ok os) (by kernel_rfl) (by kernel_rfl) (start_met os _)) ?_
  intro W base args ds gs before hval0 hW _ _ hL _
  have hval : ∀ (j : Nat) t v, Tryz.f5.params[j]? = some t → args[j]? = some v → Value.okWide Tryz.prog W .any base t v := hval0
  have hW' := hW
  obtain ⟨p, q, hA0, hV, rfl, hfz, hnd⟩ := hW
  have hA : DataW.TrodAll enc Tryz.prog W 0 (fun _ => true) true Tryz.f5.params.toList args.toList ds p := hA0
  rw [Tryz.params5] at hA hval
  have hAll := hA
  obtain ⟨v0, vs0, d0, ds0, p0, q0, hargs, rfl, rfl, h0, r0⟩ := trodAll_cons hA
  obtain ⟨v1, vs1, d1, ds1, p1, q1, rfl, rfl, rfl, h1, r1⟩ := trodAll_cons r0
  obtain ⟨rfl, rfl, rfl⟩ := trodAll_nil r1
  obtain rfl : args = #[v0, v1] := by cases args; simp_all
  obtain ⟨rfl, rfl⟩ := trodVars_none hV
  have lt0 : ∀ x ∈ p0, x.block < W.heap.size := by obtain ⟨m, hm⟩ := h0; exact DataW.trod_lt m _ _ _ hm
  have lt1 : ∀ x ∈ p1, x.block < W.heap.size := by obtain ⟨m, hm⟩ := h1; exact DataW.trod_lt m _ _ _ hm
  obtain ⟨cs0, rfl, hc0⟩ := okWide_cells Tryz.underlying54 (show Tryz.prog.cellTypes Tryz.prog.depth 54 = some [9, 22, 3, 22, 3, 3, 3, 23, 4, 22, 4] by kernel_rfl) (show Tryz.prog.cellsOf 54 = 11 by kernel_rfl) (hval 0 54 v0 rfl rfl)
  obtain ⟨y0_0, r0_0, rfl, ho0_0, hc0⟩ := hc0
  obtain ⟨y0_1, r0_1, rfl, ho0_1, hc0⟩ := hc0
  obtain ⟨y0_2, r0_2, rfl, ho0_2, hc0⟩ := hc0
  obtain ⟨y0_3, r0_3, rfl, ho0_3, hc0⟩ := hc0
  obtain ⟨y0_4, r0_4, rfl, ho0_4, hc0⟩ := hc0
  obtain ⟨y0_5, r0_5, rfl, ho0_5, hc0⟩ := hc0
  obtain ⟨y0_6, r0_6, rfl, ho0_6, hc0⟩ := hc0
  obtain ⟨y0_7, r0_7, rfl, ho0_7, hc0⟩ := hc0
  obtain ⟨y0_8, r0_8, rfl, ho0_8, hc0⟩ := hc0
  obtain ⟨y0_9, r0_9, rfl, ho0_9, hc0⟩ := hc0
  obtain ⟨y0_10, r0_10, rfl, ho0_10, hc0⟩ := hc0
  obtain rfl := hc0
  obtain ⟨x0_0, rfl⟩ := cell_string Tryz.underlying9 ho0_0
  obtain ⟨x0_1, rfl, _⟩ := cell_int Tryz.underlying22 ho0_1
  obtain ⟨x0_2, rfl, _⟩ := cell_int Tryz.underlying3 ho0_2
  obtain ⟨x0_3, rfl, _⟩ := cell_int Tryz.underlying22 ho0_3
  obtain ⟨x0_4, rfl, _⟩ := cell_int Tryz.underlying3 ho0_4
  obtain ⟨x0_5, rfl, _⟩ := cell_int Tryz.underlying3 ho0_5
  obtain ⟨x0_6, rfl, _⟩ := cell_int Tryz.underlying3 ho0_6
  obtain ⟨a0_7, l0_7, c0_7, rfl, _, _⟩ := cell_slice Tryz.underlying23 ho0_7
  obtain ⟨x0_8, rfl⟩ := cell_bool Tryz.underlying4 ho0_8
  obtain ⟨x0_9, rfl, _⟩ := cell_int Tryz.underlying22 ho0_9
  obtain ⟨x0_10, rfl⟩ := cell_bool Tryz.underlying4 ho0_10
  obtain ⟨cs1, rfl, hc1⟩ := okWide_cells Tryz.underlying58 (show Tryz.prog.cellTypes Tryz.prog.depth 58 = some [3, 3, 23, 3, 9, 9, 23] by kernel_rfl) (show Tryz.prog.cellsOf 58 = 7 by kernel_rfl) (hval 1 58 v1 rfl rfl)
  obtain ⟨y1_0, r1_0, rfl, ho1_0, hc1⟩ := hc1
  obtain ⟨y1_1, r1_1, rfl, ho1_1, hc1⟩ := hc1
  obtain ⟨y1_2, r1_2, rfl, ho1_2, hc1⟩ := hc1
  obtain ⟨y1_3, r1_3, rfl, ho1_3, hc1⟩ := hc1
  obtain ⟨y1_4, r1_4, rfl, ho1_4, hc1⟩ := hc1
  obtain ⟨y1_5, r1_5, rfl, ho1_5, hc1⟩ := hc1
  obtain ⟨y1_6, r1_6, rfl, ho1_6, hc1⟩ := hc1
  obtain rfl := hc1
  obtain ⟨x1_0, rfl, _⟩ := cell_int Tryz.underlying3 ho1_0
  obtain ⟨x1_1, rfl, _⟩ := cell_int Tryz.underlying3 ho1_1
  obtain ⟨a1_2, l1_2, c1_2, rfl, _, _⟩ := cell_slice Tryz.underlying23 ho1_2
  obtain ⟨x1_3, rfl, _⟩ := cell_int Tryz.underlying3 ho1_3
  obtain ⟨x1_4, rfl⟩ := cell_string Tryz.underlying9 ho1_4
  obtain ⟨x1_5, rfl⟩ := cell_string Tryz.underlying9 ho1_5
  obtain ⟨a1_6, l1_6, c1_6, rfl, _, _⟩ := cell_slice Tryz.underlying23 ho1_6
  clear hA0 hval0
  refine (walk x0_0 x0_1 x0_2 x0_3 x0_4 x0_5 x0_6 a0_7 l0_7 c0_7 x0_8 x0_9 x0_10 x1_0 x1_1 a1_2 l1_2 c1_2 x1_3 x1_4 x1_5 a1_6 l1_6 c1_6 W (told_of_laid hL)).mono fun e W' ⟨he, bel⟩ => ?_
  subst he
  refine ⟨_, rfl, _, _, _, [], _, [], hW', trodAll_mk1 (shut_bool Tryz.underlying4 _), trodAll_below laidOut bel hAll (by kernel_rfl) ?_, rfl, bel.frame _, fun h => by cases h⟩
  intro x hx
  simp only [List.mem_append, List.not_mem_nil, or_false] at hx
  rcases hx with hx | hx
  · exact lt0 x hx
  · exact lt1 x hx
set_option maxHeartbeats 4000000 in
theorem closed : joinedFacts Tryz.prog 5 Tryz.f5 Rows.takeNobodySpec Rows.takeNobodyRow = true := by
  unfold joinedFacts
  repeat' (with_reducible refine and_intro ?_ ?_)
  all_goals as_aux_lemma => kernel_rfl
theorem holds : Rows.TakeNobodySaid :=
  OpenClaim.holds_of_wide 5 Tryz.f5 rfl rfl rfl rfl rfl rfl rfl ⟨rfl, rfl, rfl, rfl, rfl⟩ rfl rfl rfl rfl rfl (by kernel_rfl) Tryz.func5 closed
    (of_decide_eq_true (by kernel_rfl)) (by unfold Func.isWrapper; first | (rw [if_pos (by decide +kernel)]; kernel_rfl) | (rw [if_neg (by decide +kernel)]; exact ⟨rfl, rfl⟩))
    (fun os started H enc _ => lifted os started H enc)
theorem wfText : Rows.takeNobodyRow.wfByText (OpenSpec.ofChange Rows.takeNobodySpec) = true := by kernel_rfl
theorem mainIs : Tryz.prog.mainIs = some (true, "f6476c4c7d77eba80c9eaaeb1feba3f77287c39862545496170ad347bc2d1540".toList) := by kernel_rfl
theorem looksIs : true = Tryz.prog.looks [] := by kernel_rfl
theorem goesNot : false = Rows.takeNobodyRow.goesBy Tryz.prog := by kernel_rfl
/-- The statement: the tied card. -/
theorem card_holds : Rows.TakeNobodyCardSaid :=
  Claim7.holds_tied_plain_at .later [] [.data, .data, .data, .handle] true (true, "f6476c4c7d77eba80c9eaaeb1feba3f77287c39862545496170ad347bc2d1540") true holds (fun _ h => by cases h) wfText (fun _ h => by cases h) takeNobody_row_tie rfl ⟨rfl, rfl⟩ mainIs rfl
    (fun f fn hf hfn => by
      obtain rfl : f = 5 := Option.some.inj ((show Tryz.prog.funcNamed "tender/tenderlaw31.TakeNobody" = some 5 by kernel_rfl).symm.trans hf) |>.symm
      obtain rfl : fn = Tryz.f5 := (Option.some.inj (Tryz.func5.symm.trans hfn)).symm
      exact ⟨looksIs, fun j t ht => by
        rw [Tryz.params5] at ht
        have hm : t ∈ [54, 58] := by simpa using Array.mem_of_getElem? ht
        have hall : ([54, 58].all fun u => !Tryz.prog.wantsStandIn u) = true := by kernel_rfl
        exact (show Tryz.prog.wantsStandIn t = false by simpa using List.all_eq_true.1 hall t hm)⟩)
    goesNot
#print axioms card_holds
end Go.Proofs.YthhmmdjieegmjaaGreatDoor.takeNobody
