/- A port that is none is closed, and dead: the tied card of the law PortNobody. Conditions: none beyond the given statement's own (its listed package variables start as the program's text lays them). The law's calls are followed by a symbolic executor that is proved sound (YtlmpfjdmaidijaaGreatDoorRxA .. YtlmpfjdmaidijaaGreatDoorRyL) and run by the kernel. By an AI agent. -/
import Derived.Test.YtlmpfjdmaidijaaGreatDoorCards
import Derived.Test.YtlmpfjdmaidijaaGreatDoorTie
import Derived.Test.YtlmpfjdmaidijaaGreatDoorPortNobodyCl
import Derived.Test.YtlmpfjdmaidijaaGreatDoorPortNobodyGo
import Derived.Test.YtlmpfjdmaidijaaGreatDoorPortNobodyLv9
import Derived.Lay
import Derived.SevenTiedAt
import Derived.Stop.Joined
namespace Go.Proofs.YtlmpfjdmaidijaaGreatDoor.portNobody
open Go Go.Rx Go.ChangeShapes Go.WideShapes Go.ChangeAt Go.RowKit
set_option linter.unusedVariables false
set_option linter.unusedSimpArgs false
set_option maxRecDepth 100000
theorem told_of_laid {W : World} (h : laidMetH Tryz.prog Rows.portNobodyRow.laid W) : ∀ r ∈ ([(0, [.iface 185 (.v (.agg #[.pointer (some ⟨8, 32, none⟩)]))]), (1, tab_tender_check_nibble.map fun n => .v (.int .u32 n))] : List (Nat × List SV)), Rx.Told W r := by
  intro r hr
  simp only [List.mem_cons, List.not_mem_nil, or_false] at hr
  rcases hr with rfl | rfl
  · exact told_handle (laidMetH_handles h) (v := "errors.errorType") (d := Rows.laid_errors_errorType) (name := [101, 114, 114, 111, 114]) (ty := 32) (List.mem_filter.2 ⟨by simp [Rows.portNobodyRow], rfl⟩) rfl rfl (by kernel_rfl) (by kernel_rfl) (by kernel_rfl) (by kernel_rfl)
  · exact told_ints h (v := "tender/check.nibble") (k := .u32) (zs := tab_tender_check_nibble) (List.mem_filter.2 ⟨(show ("tender/check.nibble", Rows.laid_tender_check_nibble) ∈ Rows.portNobodyRow.laid by simp [Rows.portNobodyRow]), rfl⟩) (g := 1) (by kernel_rfl) (t := 380) (by kernel_rfl) (len := 16) (e := 284) (by kernel_rfl) (by kernel_rfl) (by kernel_rfl) (by kernel_rfl)

/-- What is used of the call of lives. -/
def sl : List (FuncId × PS) := [(14, fun args => match args with | [] => some (.bool true, True) | _ => none)]
noncomputable def E1 : Env := EP sl [(0, 0), (1, 1)]
/-- A world in which what came in lies as it lay. -/
def X (W w : World) : Prop := (∀ r ∈ ([(0, [.iface 185 (.v (.agg #[.pointer (some ⟨8, 32, none⟩)]))]), (1, tab_tender_check_nibble.map fun n => .v (.int .u32 n))] : List (Nat × List SV)), Rx.Told w r) ∧ ∀ k, k < W.heap.size → w.heap[k]? = W.heap[k]?
def noSM : SM := { top := { fn := 0, tm := tmOf 0 0 [], todo := [], defers := [], ret := false, kind := .normal, ro := none }, callers := [], mem := memOf 0 0 0 [] }
noncomputable def ent (args : List SV) : SM := (enterS E1 4 args (laidMem 12 [(0, [.iface 185 (.v (.agg #[.pointer (some ⟨8, 32, none⟩)]))]), (1, tab_tender_check_nibble.map fun n => .v (.int .u32 n))])).getD noSM
theorem q0 (a0 : Option Addr) (l0 : Nat) (c0 : Nat) : endsV E1 4 6000 (ent [.v (.slice a0 l0 c0)]) [(0, .b true)] (.bool true) = [
  Value.bool true = Value.bool true,
  True,
  decide ((↑l0 : Int) > (1000 : Int)) = true] := by kernel_rfl
theorem q1 (a0 : Option Addr) (l0 : Nat) (c0 : Nat) : endsV E1 4 6000 (ent [.v (.slice a0 l0 c0)]) [(0, .b false)] (.bool true) = [
  Value.bool true = Value.bool true,
  True,
  true = true,
  true = true,
  true = true,
  true = true,
  true = true,
  true = true,
  true = true,
  true = true,
  true = true,
  true = true,
  true = true,
  decide ((↑l0 : Int) > (1000 : Int)) = false] := by kernel_rfl
theorem sl_ok {W : World} : ∀ r ∈ sl, PureOK Tryz.prog (X W) r := by
  intro r hr
  simp only [sl, List.mem_cons, List.not_mem_nil, or_false] at hr
  rcases hr with rfl
  · refine ⟨⟨_, Tryz.func14, by kernel_rfl, by kernel_rfl⟩, fun args v p h hp w hX => ?_⟩
    dsimp only at h
    split at h
    · cases h
      exact (lives_true w hX.1).mono fun e w' ⟨h1, h2⟩ => ⟨h2, h1⟩
    · cases h

theorem facts1 {W : World} (told : ∀ r ∈ ([(0, [.iface 185 (.v (.agg #[.pointer (some ⟨8, 32, none⟩)]))]), (1, tab_tender_check_nibble.map fun n => .v (.int .u32 n))] : List (Nat × List SV)), Rx.Told W r) : Facts E1 (laidOwn [(0, [.iface 185 (.v (.agg #[.pointer (some ⟨8, 32, none⟩)]))]), (1, tab_tender_check_nibble.map fun n => .v (.int .u32 n))]) W :=
  factsP (X := X W) sl_ok fun ν s w hr hg => ⟨fun r hr' => (told r hr').keep hr, fun k hk => hr.frame k hk (fun h => h)⟩

theorem walk (a0 : Option Addr) (l0 : Nat) (c0 : Nat) (W : World) (told : ∀ r ∈ ([(0, [.iface 185 (.v (.agg #[.pointer (some ⟨8, 32, none⟩)]))]), (1, tab_tender_check_nibble.map fun n => .v (.int .u32 n))] : List (Nat × List SV)), Rx.Told W r) : Calls Tryz.prog 4 #[.slice a0 l0 c0] W fun e w' => e = .returned (.bool true) ∧ Below W.heap.size W w' := by
  refine calls_pieces (E := E1) rfl (d := 12) (args := [.v (.slice a0 l0 c0)]) (a := [.slice a0 l0 c0]) rfl (by decide) (by decide) told (S0 := ent [.v (.slice a0 l0 c0)]) (by kernel_rfl) (by repeat (first | exact VRL.nil | refine VRL.cons (VR.v_iff.2 rfl) ?_)) fun cs0 => ?_
  by_cases h : (1000 : Int) < (l0 : Int)
  · refine Goes.endsV (facts1 told) (n := 6000) (o := [(0, .b true)]) (v := .bool true) ?_ fun ν' M1 w1 s' w' _ hB hr => ⟨rfl, below_of (fun _ h => h) hB hr⟩
    rw [q0]; simp [Owed, h]
  · refine Goes.endsV (facts1 told) (n := 6000) (o := [(0, .b false)]) (v := .bool true) ?_ fun ν' M1 w1 s' w' _ hB hr => ⟨rfl, below_of (fun _ h => h) hB hr⟩
    rw [q1]; simp [Owed, h]
/-- A world that meets the condition. -/
noncomputable def start (os : Os) : World :=
  let w0 := World.laidAll Tryz.prog os (Rows.portNobodyRow.laid.filter fun x => x.2.handleName?.isNone)
  { w0 with heap := w0.heap.modify 0 fun
      | .cells _ t frozen => .cells #[.iface 185 (.agg #[.pointer (some ⟨8, 32, none⟩)])] t frozen
      | o => o }
theorem start_met (os : Os) (args : Array Value) : laidMetH Tryz.prog Rows.portNobodyRow.laid ((start os).forCall (fun _ _ => 0) ⟨#[], args, []⟩).memory :=
  laidMetH_of_parts3 (fuel := 8) (laidMet_of_run' 8 (by kernel_rfl) (by kernel_rfl)) (by kernel_rfl) (by kernel_rfl)
theorem start_shaped (os : Os) (args : Array Value) : ((start os).forCall (fun _ _ => 0) ⟨#[], args, []⟩).Shaped Tryz.prog := World.shaped_of_RefB (by kernel_rfl) (by kernel_rfl)
theorem start_ok (os : Os) : Input.okWideB Tryz.prog ((start os).forCall (fun _ _ => 0) ⟨#[], #[.slice none 0 0], []⟩) 4 ⟨#[], #[.slice none 0 0], []⟩ = true := by kernel_rfl
set_option maxRecDepth 100000 in
theorem lifted (os : Os) (started : os.Started) (H : Type) (enc : TypeId × Value → H) :
    ReturnsInHanded {} Tryz.checked os 4 .any (fun w args => (Rows.portNobodySpec.pre enc Tryz.prog Tryz.f4 [] false w args ∧ laidMetH Tryz.prog Rows.portNobodyRow.laid w) ∧ sizedMet enc Tryz.prog Tryz.f4 (OpenSpec.ofChange Rows.portNobodySpec) false w args)
      (Rows.portNobodySpec.post enc Tryz.prog Tryz.f4 false true false false) := by
  refine returnsInHanded_of_change_and (C := Tryz.checked) (X := fun w _ => laidMetH Tryz.prog Rows.portNobodyRow.laid w) (fun _ _ _ hh h => h.of_heap hh) own started (by kernel_rfl) Tryz.func4
    (ChangeSpec.witness_shaped (enc := enc) (C := Tryz.checked) (os := os) (X := fun w _ => laidMetH Tryz.prog Rows.portNobodyRow.laid w) false (start os) #[.slice none 0 0] 8 (by kernel_rfl) (start_shaped os _) (start_ok os) (by kernel_rfl) (by kernel_rfl) (start_met os _)) ?_
  intro W base args ds gs before hval0 hW _ _ hL _
  have hval : ∀ (j : Nat) t v, Tryz.f4.params[j]? = some t → args[j]? = some v → Value.okWide Tryz.prog W .any base t v := hval0
  have hW' := hW
  obtain ⟨p, q, hA0, hV, rfl, hfz, hnd⟩ := hW
  have hA : DataW.TrodAll enc Tryz.prog W 0 (fun _ => true) true Tryz.f4.params.toList args.toList ds p := hA0
  rw [Tryz.params4] at hA hval
  have hAll := hA
  obtain ⟨v0, vs0, d0, ds0, p0, q0, hargs, rfl, rfl, h0, r0⟩ := trodAll_cons hA
  obtain ⟨rfl, rfl, rfl⟩ := trodAll_nil r0
  obtain rfl : args = #[v0] := by cases args; simp_all
  obtain ⟨rfl, rfl⟩ := trodVars_none hV
  have lt0 : ∀ x ∈ p0, x.block < W.heap.size := by obtain ⟨m, hm⟩ := h0; exact DataW.trod_lt m _ _ _ hm
  obtain ⟨a0, l0, c0, rfl⟩ := okWide_slice Tryz.underlying24 (hval 0 24 v0 rfl rfl)
  clear hA0 hval0
  refine (walk a0 l0 c0 W (told_of_laid hL)).mono fun e W' ⟨he, bel⟩ => ?_
  subst he
  refine ⟨_, rfl, _, _, _, [], _, [], hW', trodAll_mk1 (shut_bool Tryz.underlying4 _), trodAll_below laidOut bel hAll (by kernel_rfl) ?_, rfl, bel.frame _, fun h => by cases h⟩
  intro x hx
  simp only [List.mem_append, List.not_mem_nil, or_false] at hx
  exact lt0 x hx
theorem holds : Rows.PortNobodySaid :=
  OpenClaim.holds_of_wide 4 Tryz.f4 rfl rfl rfl rfl rfl rfl rfl ⟨rfl, rfl, rfl, rfl, rfl⟩ rfl rfl rfl rfl rfl (by kernel_rfl) Tryz.func4 closed
    (of_decide_eq_true (by kernel_rfl)) (by unfold Func.isWrapper; first | (rw [if_pos (by decide +kernel)]; kernel_rfl) | (rw [if_neg (by decide +kernel)]; exact ⟨rfl, rfl⟩))
    (fun os started H enc _ => lifted os started H enc)
theorem wfText : Rows.portNobodyRow.wfByText (OpenSpec.ofChange Rows.portNobodySpec) = true := by kernel_rfl
theorem mainIs : Tryz.prog.mainIs = some (true, "525718df9349dc1cd50f2a2d9fc6de3a91ee6dbcd5dbb483702feb1be8bff912".toList) := by kernel_rfl
theorem looksIs : true = Tryz.prog.looks [] := by kernel_rfl
/-- The statement: the tied card. -/
theorem card_holds : Rows.PortNobodyCardSaid :=
  Claim7.holds_tied_plain_at .later [] [.data, .data, .data, .data, .data, .handle, .data] true (true, "525718df9349dc1cd50f2a2d9fc6de3a91ee6dbcd5dbb483702feb1be8bff912") true holds (fun _ h => by cases h) wfText (fun _ h => by cases h) portNobody_row_tie rfl ⟨rfl, rfl⟩ mainIs rfl
    (fun f fn hf hfn => by
      obtain rfl : f = 4 := Option.some.inj ((show Tryz.prog.funcNamed "tender/tenderlaw34.PortNobody" = some 4 by kernel_rfl).symm.trans hf) |>.symm
      obtain rfl : fn = Tryz.f4 := (Option.some.inj (Tryz.func4.symm.trans hfn)).symm
      exact ⟨looksIs, fun j t ht => by
        rw [Tryz.params4] at ht
        have hm : t ∈ [24] := by simpa using Array.mem_of_getElem? ht
        have hall : ([24].all fun u => !Tryz.prog.wantsStandIn u) = true := by kernel_rfl
        exact (show Tryz.prog.wantsStandIn t = false by simpa using List.all_eq_true.1 hall t hm)⟩)
    goesNot
#print axioms card_holds
end Go.Proofs.YtlmpfjdmaidijaaGreatDoor.portNobody
