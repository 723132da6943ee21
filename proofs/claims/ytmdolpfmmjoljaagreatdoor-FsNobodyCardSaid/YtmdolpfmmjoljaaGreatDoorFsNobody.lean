/- A file system that is none does nothing, and says so: the tied card of the law FsNobody. Conditions: none beyond the given statement's own (its listed package variables start as the program's text lays them). The law's calls are followed by a symbolic executor that is proved sound (YtmdolpfmmjoljaaGreatDoorRxA .. YtmdolpfmmjoljaaGreatDoorRyG) and run by the kernel. By an AI agent. -/
import Derived.Test.YtmdolpfmmjoljaaGreatDoorCards
import Derived.Test.YtmdolpfmmjoljaaGreatDoorTie
import Derived.Test.YtmdolpfmmjoljaaGreatDoorFsNobodyRun0
import Derived.Test.YtmdolpfmmjoljaaGreatDoorFsNobodyRun1
import Derived.Test.YtmdolpfmmjoljaaGreatDoorFsNobodyRun2
import Derived.Test.YtmdolpfmmjoljaaGreatDoorFsNobodyLv7
import Derived.Lay
import Derived.SevenTiedAt
import Derived.Stop.Joined
namespace Go.Proofs.YtmdolpfmmjoljaaGreatDoor.fsNobody
open Go Go.Rx Go.ChangeShapes Go.WideShapes Go.ChangeAt Go.RowKit
set_option linter.unusedVariables false
set_option maxRecDepth 100000
theorem told_of_laid {W : World} (h : laidMetH Tryz.prog Rows.fsNobodyRow.laid W) : ∀ r ∈ ([(0, [.iface 279 (.v (.agg #[.pointer (some ⟨3, 41, none⟩)]))])] : List (Nat × List SV)), Rx.Told W r := by
  intro r hr
  simp only [List.mem_cons, List.not_mem_nil, or_false] at hr
  rcases hr with rfl
  · exact told_handle (laidMetH_handles h) (v := "errors.errorType") (d := Rows.laid_errors_errorType) (name := [101, 114, 114, 111, 114]) (ty := 41) (List.mem_filter.2 ⟨by simp [Rows.fsNobodyRow], rfl⟩) rfl rfl (by kernel_rfl) (by kernel_rfl) (by kernel_rfl) (by kernel_rfl)
theorem walk (x0_0 : Int) (x0_1 : ByteArray) (x0_2 : ByteArray) (x0_3 : Int) (a0_4 : Option Addr) (l0_4 : Nat) (c0_4 : Nat) (a0_5 : Option Addr) (l0_5 : Nat) (c0_5 : Nat) (x0_6 : Int) (x0_7 : ByteArray) (x0_8 : ByteArray) (a0_9 : Option Addr) (l0_9 : Nat) (c0_9 : Nat) (W : World) (told : ∀ r ∈ ([(0, [.iface 279 (.v (.agg #[.pointer (some ⟨3, 41, none⟩)]))])] : List (Nat × List SV)), Rx.Told W r) : Calls Tryz.prog 3 #[.agg #[.int .i64 x0_0, .string x0_1, .string x0_2, .int .i64 x0_3, .slice a0_4 l0_4 c0_4, .slice a0_5 l0_5 c0_5, .int .i64 x0_6, .string x0_7, .string x0_8, .slice a0_9 l0_9 c0_9]] W fun e w' => e = .returned (.bool true) ∧ Below W.heap.size W w' := by
  cases h0 : (!(decide (IntKind.i64.wrap (0 + IntKind.i64.wrap (IntKind.i64.wrap ((x0_7.size : Int) + (x0_8.size : Int)) + (l0_9 : Int))) ≤ 20000)))
  · skip
    cases h1 : (!(decide (IntKind.i64.wrap (0 + IntKind.i64.wrap (IntKind.i64.wrap (IntKind.i64.wrap ((l0_4 : Int) + (l0_5 : Int)) + (x0_1.size : Int)) + (x0_2.size : Int))) ≤ 20000)))
    · skip
      exact calls_laid (a := [.agg #[.int .i64 x0_0, .string x0_1, .string x0_2, .int .i64 x0_3, .slice a0_4 l0_4 c0_4, .slice a0_5 l0_5 c0_5, .int .i64 x0_6, .string x0_7, .string x0_8, .slice a0_9 l0_9 c0_9]]) (d := 10) (n := 20000) (l := [(0, [.iface 279 (.v (.agg #[.pointer (some ⟨3, 41, none⟩)]))])]) (factsQ 7 [(8, false), (13, false), (33, true), (34, true), (35, true), (36, true), (37, true), (38, true), (39, true), (72, true), (73, true), (74, true), (75, true), (76, true), (94, true), (95, true), (96, true), (97, true), (115, true), (116, true), (117, true), (135, true), (847, true), (848, true), (849, true), (850, true), (851, true), (852, true), (853, true), (886, true), (887, true), (888, true), (889, true), (890, true), (908, true), (909, true), (910, true), (911, true), (929, true), (930, true), (931, true), (949, true)] [(0, 0)] (QOK.one rfl Tryz.func7 (by kernel_rfl) (by kernel_rfl) lives_true told)) rfl (by decide) (by decide) told (by rw [run2]; exact ⟨⟨⟨⟨⟨⟨⟨⟨⟨⟨⟨⟨⟨⟨⟨⟨⟨⟨⟨⟨⟨⟨⟨⟨⟨⟨⟨⟨⟨⟨⟨⟨⟨⟨⟨⟨⟨⟨⟨⟨⟨⟨⟨trivial, h0⟩, h1⟩, (by first | exact (Rx.ba_beq _ _).2 rfl | simp)⟩, (by first | exact (Rx.ba_beq _ _).2 rfl | simp)⟩, (by first | exact (Rx.ba_beq _ _).2 rfl | simp)⟩, (by first | exact (Rx.ba_beq _ _).2 rfl | simp)⟩, (by first | exact (Rx.ba_beq _ _).2 rfl | simp)⟩, (by simp)⟩, (by first | exact (Rx.ba_beq _ _).2 rfl | simp)⟩, (by first | exact (Rx.ba_beq _ _).2 rfl | simp)⟩, (by first | exact (Rx.ba_beq _ _).2 rfl | simp)⟩, (by first | exact (Rx.ba_beq _ _).2 rfl | simp)⟩, (by first | exact (Rx.ba_beq _ _).2 rfl | simp)⟩, (by first | exact (Rx.ba_beq _ _).2 rfl | simp)⟩, (by first | exact (Rx.ba_beq _ _).2 rfl | simp)⟩, (by first | exact (Rx.ba_beq _ _).2 rfl | simp)⟩, (by first | exact (Rx.ba_beq _ _).2 rfl | simp)⟩, (by first | exact (Rx.ba_beq _ _).2 rfl | simp)⟩, (by first | exact (Rx.ba_beq _ _).2 rfl | simp)⟩, (by first | exact (Rx.ba_beq _ _).2 rfl | simp)⟩, (by first | exact (Rx.ba_beq _ _).2 rfl | simp)⟩, (by first | exact (Rx.ba_beq _ _).2 rfl | simp)⟩, (by first | exact (Rx.ba_beq _ _).2 rfl | simp)⟩, (by first | exact (Rx.ba_beq _ _).2 rfl | simp)⟩, (by first | exact (Rx.ba_beq _ _).2 rfl | simp)⟩, (by first | exact (Rx.ba_beq _ _).2 rfl | simp)⟩, (by first | exact (Rx.ba_beq _ _).2 rfl | simp)⟩, (by simp)⟩, (by first | exact (Rx.ba_beq _ _).2 rfl | simp)⟩, (by first | exact (Rx.ba_beq _ _).2 rfl | simp)⟩, (by first | exact (Rx.ba_beq _ _).2 rfl | simp)⟩, (by first | exact (Rx.ba_beq _ _).2 rfl | simp)⟩, (by first | exact (Rx.ba_beq _ _).2 rfl | simp)⟩, (by first | exact (Rx.ba_beq _ _).2 rfl | simp)⟩, (by first | exact (Rx.ba_beq _ _).2 rfl | simp)⟩, (by first | exact (Rx.ba_beq _ _).2 rfl | simp)⟩, (by first | exact (Rx.ba_beq _ _).2 rfl | simp)⟩, (by first | exact (Rx.ba_beq _ _).2 rfl | simp)⟩, (by first | exact (Rx.ba_beq _ _).2 rfl | simp)⟩, (by first | exact (Rx.ba_beq _ _).2 rfl | simp)⟩, (by first | exact (Rx.ba_beq _ _).2 rfl | simp)⟩, (by first | exact (Rx.ba_beq _ _).2 rfl | simp)⟩, trivial⟩)
    · skip
      exact calls_laid (a := [.agg #[.int .i64 x0_0, .string x0_1, .string x0_2, .int .i64 x0_3, .slice a0_4 l0_4 c0_4, .slice a0_5 l0_5 c0_5, .int .i64 x0_6, .string x0_7, .string x0_8, .slice a0_9 l0_9 c0_9]]) (d := 10) (n := 20000) (l := [(0, [.iface 279 (.v (.agg #[.pointer (some ⟨3, 41, none⟩)]))])]) (factsQ 7 [(8, false), (13, true)] [(0, 0)] (QOK.one rfl Tryz.func7 (by kernel_rfl) (by kernel_rfl) lives_true told)) rfl (by decide) (by decide) told (by rw [run1]; exact ⟨⟨⟨trivial, h0⟩, h1⟩, trivial⟩)
  · skip
    exact calls_laid (a := [.agg #[.int .i64 x0_0, .string x0_1, .string x0_2, .int .i64 x0_3, .slice a0_4 l0_4 c0_4, .slice a0_5 l0_5 c0_5, .int .i64 x0_6, .string x0_7, .string x0_8, .slice a0_9 l0_9 c0_9]]) (d := 10) (n := 20000) (l := [(0, [.iface 279 (.v (.agg #[.pointer (some ⟨3, 41, none⟩)]))])]) (factsQ 7 [(8, true)] [(0, 0)] (QOK.one rfl Tryz.func7 (by kernel_rfl) (by kernel_rfl) lives_true told)) rfl (by decide) (by decide) told (by rw [run0]; exact ⟨⟨trivial, h0⟩, trivial⟩)
/-- A world that meets the condition. -/
noncomputable def start (os : Os) : World :=
  let w0 := World.laidAll Tryz.prog os (Rows.fsNobodyRow.laid.filter fun x => x.2.handleName?.isNone)
  { w0 with heap := w0.heap.modify 0 fun
      | .cells _ t frozen => .cells #[.iface 279 (.agg #[.pointer (some ⟨3, 41, none⟩)])] t frozen
      | o => o }
theorem start_met (os : Os) (args : Array Value) : laidMetH Tryz.prog Rows.fsNobodyRow.laid ((start os).forCall (fun _ _ => 0) ⟨#[], args, []⟩).memory :=
  laidMetH_of_parts3 (fuel := 8) (laidMet_of_run' 8 (by kernel_rfl) (by kernel_rfl)) (by kernel_rfl) (by kernel_rfl)
theorem start_shaped (os : Os) (args : Array Value) : ((start os).forCall (fun _ _ => 0) ⟨#[], args, []⟩).Shaped Tryz.prog := World.shaped_of_RefB (by kernel_rfl) (by kernel_rfl)
theorem start_ok (os : Os) : Input.okWideB Tryz.prog ((start os).forCall (fun _ _ => 0) ⟨#[], #[.agg #[.int .i64 0, .string ⟨#[]⟩, .string ⟨#[]⟩, .int .i64 0, .slice none 0 0, .slice none 0 0, .int .i64 0, .string ⟨#[]⟩, .string ⟨#[]⟩, .slice none 0 0]], []⟩) 3 ⟨#[], #[.agg #[.int .i64 0, .string ⟨#[]⟩, .string ⟨#[]⟩, .int .i64 0, .slice none 0 0, .slice none 0 0, .int .i64 0, .string ⟨#[]⟩, .string ⟨#[]⟩, .slice none 0 0]], []⟩ = true := by kernel_rfl
set_option maxRecDepth 100000 in
theorem lifted (os : Os) (started : os.Started) (H : Type) (enc : TypeId × Value → H) :
    ReturnsInHanded {} Tryz.checked os 3 .any (fun w args => (Rows.fsNobodySpec.pre enc Tryz.prog Tryz.f3 [] false w args ∧ laidMetH Tryz.prog Rows.fsNobodyRow.laid w) ∧ sizedMet enc Tryz.prog Tryz.f3 (OpenSpec.ofChange Rows.fsNobodySpec) false w args)
      (Rows.fsNobodySpec.post enc Tryz.prog Tryz.f3 false true false false) := by
  refine returnsInHanded_of_change_and (C := Tryz.checked) (X := fun w _ => laidMetH Tryz.prog Rows.fsNobodyRow.laid w) (fun _ _ _ hh h => h.of_heap hh) own started (by kernel_rfl) Tryz.func3
    (ChangeSpec.witness_shaped (enc := enc) (C := Tryz.checked) (os := os) (X := fun w _ => laidMetH Tryz.prog Rows.fsNobodyRow.laid w) false (start os) #[.agg #[.int .i64 0, .string ⟨#[]⟩, .string ⟨#[]⟩, .int .i64 0, .slice none 0 0, .slice none 0 0, .int .i64 0, .string ⟨#[]⟩, .string ⟨#[]⟩, .slice none 0 0]] 8 (by kernel_rfl) (start_shaped os _) (start_ok os) (by kernel_rfl) (by kernel_rfl) (start_met os _)) ?_
  intro W base args ds gs before hval0 hW _ _ hL _
  have hval : ∀ (j : Nat) t v, Tryz.f3.params[j]? = some t → args[j]? = some v → Value.okWide Tryz.prog W .any base t v := hval0
  have hW' := hW
  obtain ⟨p, q, hA0, hV, rfl, hfz, hnd⟩ := hW
  have hA : DataW.TrodAll enc Tryz.prog W 0 (fun _ => true) true Tryz.f3.params.toList args.toList ds p := hA0
  rw [Tryz.params3] at hA hval
  have hAll := hA
  obtain ⟨v0, vs0, d0, ds0, p0, q0, hargs, rfl, rfl, h0, r0⟩ := trodAll_cons hA
  obtain ⟨rfl, rfl, rfl⟩ := trodAll_nil r0
  obtain rfl : args = #[v0] := by cases args; simp_all
  obtain ⟨rfl, rfl⟩ := trodVars_none hV
  have lt0 : ∀ x ∈ p0, x.block < W.heap.size := by obtain ⟨m, hm⟩ := h0; exact DataW.trod_lt m _ _ _ hm
  obtain ⟨cs0, rfl, hc0⟩ := okWide_cells Tryz.underlying27 (show Tryz.prog.cellTypes Tryz.prog.depth 27 = some [3, 9, 9, 3, 22, 23, 3, 9, 9, 22] by kernel_rfl) (show Tryz.prog.cellsOf 27 = 10 by kernel_rfl) (hval 0 27 v0 rfl rfl)
  obtain ⟨y0_0, r0_0, rfl, ho0_0, hc0⟩ := hc0
  obtain ⟨y0_1, r0_1, rfl, ho0_1, hc0⟩ := hc0
  obtain ⟨y0_2, r0_2, rfl, ho0_2, hc0⟩ := hc0
  obtain ⟨y0_3, r0_3, rfl, ho0_3, hc0⟩ := hc0
  obtain ⟨y0_4, r0_4, rfl, ho0_4, hc0⟩ := hc0
  obtain ⟨y0_5, r0_5, rfl, ho0_5, hc0⟩ := hc0
  obtain ⟨y0_6, r0_6, rfl, ho0_6, hc0⟩ := hc0
  obtain ⟨y0_7, r0_7, rfl, ho0_7, hc0⟩ := hc0
  obtain ⟨y0_8, r0_8, rfl, ho0_8, hc0⟩ := hc0
  obtain ⟨y0_9, r0_9, rfl, ho0_9, hc0⟩ := hc0
  obtain rfl := hc0
  obtain ⟨x0_0, rfl, _⟩ := cell_int Tryz.underlying3 ho0_0
  obtain ⟨x0_1, rfl⟩ := cell_string Tryz.underlying9 ho0_1
  obtain ⟨x0_2, rfl⟩ := cell_string Tryz.underlying9 ho0_2
  obtain ⟨x0_3, rfl, _⟩ := cell_int Tryz.underlying3 ho0_3
  obtain ⟨a0_4, l0_4, c0_4, rfl, _, _⟩ := cell_slice Tryz.underlying22 ho0_4
  obtain ⟨a0_5, l0_5, c0_5, rfl, _, _⟩ := cell_slice Tryz.underlying23 ho0_5
  obtain ⟨x0_6, rfl, _⟩ := cell_int Tryz.underlying3 ho0_6
  obtain ⟨x0_7, rfl⟩ := cell_string Tryz.underlying9 ho0_7
  obtain ⟨x0_8, rfl⟩ := cell_string Tryz.underlying9 ho0_8
  obtain ⟨a0_9, l0_9, c0_9, rfl, _, _⟩ := cell_slice Tryz.underlying22 ho0_9
  clear hA0 hval0
  refine (walk x0_0 x0_1 x0_2 x0_3 a0_4 l0_4 c0_4 a0_5 l0_5 c0_5 x0_6 x0_7 x0_8 a0_9 l0_9 c0_9 W (told_of_laid hL)).mono fun e W' ⟨he, bel⟩ => ?_
  subst he
  refine ⟨_, rfl, _, _, _, [], _, [], hW', trodAll_mk1 (shut_bool Tryz.underlying4 _), trodAll_below laidOut bel hAll (by kernel_rfl) ?_, rfl, bel.frame _, fun h => by cases h⟩
  intro x hx
  simp only [List.mem_append, List.not_mem_nil, or_false] at hx
  exact lt0 x hx
set_option maxHeartbeats 4000000 in
theorem closed : joinedFacts Tryz.prog 3 Tryz.f3 Rows.fsNobodySpec Rows.fsNobodyRow = true := by
  unfold joinedFacts
  repeat' (with_reducible refine and_intro ?_ ?_)
  all_goals as_aux_lemma => kernel_rfl
theorem holds : Rows.FsNobodySaid :=
  OpenClaim.holds_of_wide 3 Tryz.f3 rfl rfl rfl rfl rfl rfl rfl ⟨rfl, rfl, rfl, rfl, rfl⟩ rfl rfl rfl rfl rfl (by kernel_rfl) Tryz.func3 closed
    (of_decide_eq_true (by kernel_rfl)) (by unfold Func.isWrapper; first | (rw [if_pos (by decide +kernel)]; kernel_rfl) | (rw [if_neg (by decide +kernel)]; exact ⟨rfl, rfl⟩))
    (fun os started H enc _ => lifted os started H enc)
theorem wfText : Rows.fsNobodyRow.wfByText (OpenSpec.ofChange Rows.fsNobodySpec) = true := by kernel_rfl
theorem mainIs : Tryz.prog.mainIs = some (true, "6fb47ce8638482abafe0719026cf267ac9a6bc3446464a4775b7fbb1dc0b21db".toList) := by kernel_rfl
theorem looksIs : true = Tryz.prog.looks [] := by kernel_rfl
theorem goesNot : false = Rows.fsNobodyRow.goesBy Tryz.prog := by kernel_rfl
/-- The statement: the tied card. -/
theorem card_holds : Rows.FsNobodyCardSaid :=
  Claim7.holds_tied_plain_at .later [] [.handle] true (true, "6fb47ce8638482abafe0719026cf267ac9a6bc3446464a4775b7fbb1dc0b21db") true holds (fun _ h => by cases h) wfText (fun _ h => by cases h) fsNobody_row_tie rfl ⟨rfl, rfl⟩ mainIs rfl
    (fun f fn hf hfn => by
      obtain rfl : f = 3 := Option.some.inj ((show Tryz.prog.funcNamed "tender/tenderlaw12.FsNobody" = some 3 by kernel_rfl).symm.trans hf) |>.symm
      obtain rfl : fn = Tryz.f3 := (Option.some.inj (Tryz.func3.symm.trans hfn)).symm
      exact ⟨looksIs, fun j t ht => by
        rw [Tryz.params3] at ht
        have hm : t ∈ [27] := by simpa using Array.mem_of_getElem? ht
        have hall : ([27].all fun u => !Tryz.prog.wantsStandIn u) = true := by kernel_rfl
        exact (show Tryz.prog.wantsStandIn t = false by simpa using List.all_eq_true.1 hall t hm)⟩)
    goesNot
#print axioms card_holds
end Go.Proofs.YtmdolpfmmjoljaaGreatDoor.fsNobody
