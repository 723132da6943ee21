/- A job that is none asks nothing: the tied card of the law PullNobody. Conditions: none beyond the given statement's own (its listed package variables start as the program's text lays them). The law's calls are followed by a symbolic executor that is proved sound (YtehfankppfeflaaGreatDoorRxA .. YtehfankppfeflaaGreatDoorRyL) and run by the kernel. By an AI agent. -/
import Derived.Test.YtehfankppfeflaaGreatDoorCards
import Derived.Test.YtehfankppfeflaaGreatDoorTie
import Derived.Test.YtehfankppfeflaaGreatDoorLight
import Derived.Test.YtehfankppfeflaaGreatDoorPullNobodyLv8
import Derived.Lay
import Derived.SevenTiedAt
import Derived.Stop.Joined
namespace Go.Proofs.YtehfankppfeflaaGreatDoor.pullNobody
open Go Go.Rx Go.ChangeShapes Go.WideShapes Go.ChangeAt Go.RowKit
set_option linter.unusedVariables false
set_option linter.unusedSimpArgs false
set_option maxRecDepth 100000
theorem told_of_laid {W : World} (h : laidMetH Tryz.prog Rows.pullNobodyRow.laid W) : ∀ r ∈ ([(0, [.iface 128 (.v (.agg #[.pointer (some ⟨6, 36, none⟩)]))]), (1, tab_tender_check_nibble.map fun n => .v (.int .u32 n))] : List (Nat × List SV)), Rx.Told W r := by
  intro r hr
  simp only [List.mem_cons, List.not_mem_nil, or_false] at hr
  rcases hr with rfl | rfl
  · exact told_handle (laidMetH_handles h) (v := "errors.errorType") (d := Rows.laid_errors_errorType) (name := [101, 114, 114, 111, 114]) (ty := 36) (List.mem_filter.2 ⟨by simp [Rows.pullNobodyRow], rfl⟩) rfl rfl (by kernel_rfl) (by kernel_rfl) (by kernel_rfl) (by kernel_rfl)
  · exact told_ints h (v := "tender/check.nibble") (k := .u32) (zs := tab_tender_check_nibble) (List.mem_filter.2 ⟨(show ("tender/check.nibble", Rows.laid_tender_check_nibble) ∈ Rows.pullNobodyRow.laid by simp [Rows.pullNobodyRow]), rfl⟩) (g := 1) (by kernel_rfl) (t := 285) (by kernel_rfl) (len := 16) (e := 232) (by kernel_rfl) (by kernel_rfl) (by kernel_rfl) (by kernel_rfl)

/-- What is used of the calls of Light and of lives. -/
def sl (m : Value) (b : Bool) : List (FuncId × PS) := [(4, fun args => some (.bool b, args = [m])), (5, fun args => match args with | [] => some (.bool true, True) | _ => none)]
noncomputable def E1 (m : Value) (b : Bool) : Env := EP (sl m b) [(0, 0), (1, 1)]
/-- A world in which what came in lies as it lay. -/
def X (W w : World) : Prop := (∀ r ∈ ([(0, [.iface 128 (.v (.agg #[.pointer (some ⟨6, 36, none⟩)]))]), (1, tab_tender_check_nibble.map fun n => .v (.int .u32 n))] : List (Nat × List SV)), Rx.Told w r) ∧ ∀ k, k < W.heap.size → w.heap[k]? = W.heap[k]?
def noSM : SM := { top := { fn := 0, tm := tmOf 0 0 [], todo := [], defers := [], ret := false, kind := .normal, ro := none }, callers := [], mem := memOf 0 0 0 [] }
noncomputable def ent (m : Value) (b : Bool) (args : List SV) : SM := (enterS (E1 m b) 3 args (laidMem 12 [(0, [.iface 128 (.v (.agg #[.pointer (some ⟨6, 36, none⟩)]))]), (1, tab_tender_check_nibble.map fun n => .v (.int .u32 n))])).getD noSM
theorem q0 (x0_0 : Int) (x0_1 : Int) (x0_2 : Int) (x0_3 : Int) (x0_4 : ByteArray) (x0_5 : Int) (x0_6 : Int) (x0_7 : Int) (x0_8 : Int) (x0_9 : Int) (x0_10 : Int) (x0_11 : Int) (x0_12 : Int) (x0_13 : Bool) (a0_14 : Option Addr) (l0_14 : Nat) (c0_14 : Nat) (a0_15 : Option Addr) (l0_15 : Nat) (c0_15 : Nat) : endsV (E1 (.agg #[.int .i64 x0_0, .int .u64 x0_1, .int .u64 x0_2, .int .i64 x0_3, .string x0_4, .int .i64 x0_5, .int .u64 x0_6, .int .u64 x0_7, .int .u64 x0_8, .int .i64 x0_9, .int .i64 x0_10, .int .i64 x0_11, .int .i64 x0_12, .bool x0_13, .slice a0_14 l0_14 c0_14, .slice a0_15 l0_15 c0_15]) false) 3 6000 (ent (.agg #[.int .i64 x0_0, .int .u64 x0_1, .int .u64 x0_2, .int .i64 x0_3, .string x0_4, .int .i64 x0_5, .int .u64 x0_6, .int .u64 x0_7, .int .u64 x0_8, .int .i64 x0_9, .int .i64 x0_10, .int .i64 x0_11, .int .i64 x0_12, .bool x0_13, .slice a0_14 l0_14 c0_14, .slice a0_15 l0_15 c0_15]) false [.v (.agg #[.int .i64 x0_0, .int .u64 x0_1, .int .u64 x0_2, .int .i64 x0_3, .string x0_4, .int .i64 x0_5, .int .u64 x0_6, .int .u64 x0_7, .int .u64 x0_8, .int .i64 x0_9, .int .i64 x0_10, .int .i64 x0_11, .int .i64 x0_12, .bool x0_13, .slice a0_14 l0_14 c0_14, .slice a0_15 l0_15 c0_15])]) [] (.bool true) = [
  Value.bool true = Value.bool true,
  True,
  [Value.agg
   {
   toList :=
   [Value.int IntKind.i64 x0_0, Value.int IntKind.u64 x0_1, Value.int IntKind.u64 x0_2,
   Value.int IntKind.i64 x0_3, Value.string x0_4, Value.int IntKind.i64 x0_5, Value.int IntKind.u64 x0_6,
   Value.int IntKind.u64 x0_7, Value.int IntKind.u64 x0_8, Value.int IntKind.i64 x0_9,
   Value.int IntKind.i64 x0_10, Value.int IntKind.i64 x0_11, Value.int IntKind.i64 x0_12, Value.bool x0_13,
   Value.slice a0_14 l0_14 c0_14, Value.slice a0_15 l0_15 c0_15] :
   Array Value }] =
   [Value.agg
   {
   toList :=
   [Value.int IntKind.i64 x0_0, Value.int IntKind.u64 x0_1, Value.int IntKind.u64 x0_2,
   Value.int IntKind.i64 x0_3, Value.string x0_4, Value.int IntKind.i64 x0_5, Value.int IntKind.u64 x0_6,
   Value.int IntKind.u64 x0_7, Value.int IntKind.u64 x0_8, Value.int IntKind.i64 x0_9,
   Value.int IntKind.i64 x0_10, Value.int IntKind.i64 x0_11, Value.int IntKind.i64 x0_12, Value.bool x0_13,
   Value.slice a0_14 l0_14 c0_14, Value.slice a0_15 l0_15 c0_15] :
   Array Value }]] := by kernel_rfl
theorem q1 (x0_0 : Int) (x0_1 : Int) (x0_2 : Int) (x0_3 : Int) (x0_4 : ByteArray) (x0_5 : Int) (x0_6 : Int) (x0_7 : Int) (x0_8 : Int) (x0_9 : Int) (x0_10 : Int) (x0_11 : Int) (x0_12 : Int) (x0_13 : Bool) (a0_14 : Option Addr) (l0_14 : Nat) (c0_14 : Nat) (a0_15 : Option Addr) (l0_15 : Nat) (c0_15 : Nat) : endsV (E1 (.agg #[.int .i64 x0_0, .int .u64 x0_1, .int .u64 x0_2, .int .i64 x0_3, .string x0_4, .int .i64 x0_5, .int .u64 x0_6, .int .u64 x0_7, .int .u64 x0_8, .int .i64 x0_9, .int .i64 x0_10, .int .i64 x0_11, .int .i64 x0_12, .bool x0_13, .slice a0_14 l0_14 c0_14, .slice a0_15 l0_15 c0_15]) true) 3 6000 (ent (.agg #[.int .i64 x0_0, .int .u64 x0_1, .int .u64 x0_2, .int .i64 x0_3, .string x0_4, .int .i64 x0_5, .int .u64 x0_6, .int .u64 x0_7, .int .u64 x0_8, .int .i64 x0_9, .int .i64 x0_10, .int .i64 x0_11, .int .i64 x0_12, .bool x0_13, .slice a0_14 l0_14 c0_14, .slice a0_15 l0_15 c0_15]) true [.v (.agg #[.int .i64 x0_0, .int .u64 x0_1, .int .u64 x0_2, .int .i64 x0_3, .string x0_4, .int .i64 x0_5, .int .u64 x0_6, .int .u64 x0_7, .int .u64 x0_8, .int .i64 x0_9, .int .i64 x0_10, .int .i64 x0_11, .int .i64 x0_12, .bool x0_13, .slice a0_14 l0_14 c0_14, .slice a0_15 l0_15 c0_15])]) [] (.bool true) = [
  Value.bool true = Value.bool true,
  True,
  [Value.agg
   {
   toList :=
   [Value.int IntKind.i64 x0_0, Value.int IntKind.u64 x0_1, Value.int IntKind.u64 x0_2,
   Value.int IntKind.i64 x0_3, Value.string x0_4, Value.int IntKind.i64 x0_5, Value.int IntKind.u64 x0_6,
   Value.int IntKind.u64 x0_7, Value.int IntKind.u64 x0_8, Value.int IntKind.i64 x0_9,
   Value.int IntKind.i64 x0_10, Value.int IntKind.i64 x0_11, Value.int IntKind.i64 x0_12, Value.bool x0_13,
   Value.slice a0_14 l0_14 c0_14, Value.slice a0_15 l0_15 c0_15] :
   Array Value }] =
   [Value.agg
   {
   toList :=
   [Value.int IntKind.i64 x0_0, Value.int IntKind.u64 x0_1, Value.int IntKind.u64 x0_2,
   Value.int IntKind.i64 x0_3, Value.string x0_4, Value.int IntKind.i64 x0_5, Value.int IntKind.u64 x0_6,
   Value.int IntKind.u64 x0_7, Value.int IntKind.u64 x0_8, Value.int IntKind.i64 x0_9,
   Value.int IntKind.i64 x0_10, Value.int IntKind.i64 x0_11, Value.int IntKind.i64 x0_12, Value.bool x0_13,
   Value.slice a0_14 l0_14 c0_14, Value.slice a0_15 l0_15 c0_15] :
   Array Value }]] := by kernel_rfl
theorem sl_ok {W : World} {m : Value} {b : Bool} (hl : ∀ w, (∀ k, k < W.heap.size → w.heap[k]? = W.heap[k]?) → Calls Tryz.prog 4 #[m] w fun e w' => Below w.heap.size w w' ∧ e = .returned (.bool b)) : ∀ r ∈ sl m b, PureOK Tryz.prog (X W) r := by
  intro r hr
  simp only [sl, List.mem_cons, List.not_mem_nil, or_false] at hr
  rcases hr with rfl | rfl
  · refine ⟨⟨_, Tryz.func4, by kernel_rfl, by kernel_rfl⟩, fun args v p h hp w hX => ?_⟩
    dsimp only at h
    cases h
    obtain rfl := hp
    exact hl w hX.2
  · refine ⟨⟨_, Tryz.func5, by kernel_rfl, by kernel_rfl⟩, fun args v p h hp w hX => ?_⟩
    dsimp only at h
    split at h
    · cases h
      exact (lives_true w hX.1).mono fun e w' ⟨h1, h2⟩ => ⟨h2, h1⟩
    · cases h

theorem facts1 {W : World} {m : Value} {b : Bool} (told : ∀ r ∈ ([(0, [.iface 128 (.v (.agg #[.pointer (some ⟨6, 36, none⟩)]))]), (1, tab_tender_check_nibble.map fun n => .v (.int .u32 n))] : List (Nat × List SV)), Rx.Told W r) (hl : ∀ w, (∀ k, k < W.heap.size → w.heap[k]? = W.heap[k]?) → Calls Tryz.prog 4 #[m] w fun e w' => Below w.heap.size w w' ∧ e = .returned (.bool b)) :
    Facts (E1 m b) (laidOwn [(0, [.iface 128 (.v (.agg #[.pointer (some ⟨6, 36, none⟩)]))]), (1, tab_tender_check_nibble.map fun n => .v (.int .u32 n))]) W :=
  factsP (X := X W) (sl_ok hl) fun ν s w hr hg => ⟨fun r hr' => (told r hr').keep hr, fun k hk => hr.frame k hk (fun h => h)⟩

theorem walk (x0_0 : Int) (x0_1 : Int) (x0_2 : Int) (x0_3 : Int) (x0_4 : ByteArray) (x0_5 : Int) (x0_6 : Int) (x0_7 : Int) (x0_8 : Int) (x0_9 : Int) (x0_10 : Int) (x0_11 : Int) (x0_12 : Int) (x0_13 : Bool) (a0_14 : Option Addr) (l0_14 : Nat) (c0_14 : Nat) (a0_15 : Option Addr) (l0_15 : Nat) (c0_15 : Nat) (W : World) (told : ∀ r ∈ ([(0, [.iface 128 (.v (.agg #[.pointer (some ⟨6, 36, none⟩)]))]), (1, tab_tender_check_nibble.map fun n => .v (.int .u32 n))] : List (Nat × List SV)), Rx.Told W r) (rows : Go.Rx.ElemsIn light.rowV W a0_15 l0_15 c0_15) : Calls Tryz.prog 3 #[.agg #[.int .i64 x0_0, .int .u64 x0_1, .int .u64 x0_2, .int .i64 x0_3, .string x0_4, .int .i64 x0_5, .int .u64 x0_6, .int .u64 x0_7, .int .u64 x0_8, .int .i64 x0_9, .int .i64 x0_10, .int .i64 x0_11, .int .i64 x0_12, .bool x0_13, .slice a0_14 l0_14 c0_14, .slice a0_15 l0_15 c0_15]] W fun e w' => e = .returned (.bool true) ∧ Below W.heap.size W w' := by
  obtain ⟨b, hb⟩ := light.light_any (p := x0_4) (ad := a0_14) (ld := l0_14) (cd := c0_14) rows
  have hl := fun w hw => hb w hw (.int .i64 x0_0) (.int .u64 x0_1) (.int .u64 x0_2) (.int .i64 x0_3) (.int .i64 x0_5) (.int .u64 x0_6) (.int .u64 x0_7) (.int .u64 x0_8) (.int .i64 x0_9) (.int .i64 x0_10) (.int .i64 x0_11) (.int .i64 x0_12) (.bool x0_13)
  refine calls_pieces (E := E1 (.agg #[.int .i64 x0_0, .int .u64 x0_1, .int .u64 x0_2, .int .i64 x0_3, .string x0_4, .int .i64 x0_5, .int .u64 x0_6, .int .u64 x0_7, .int .u64 x0_8, .int .i64 x0_9, .int .i64 x0_10, .int .i64 x0_11, .int .i64 x0_12, .bool x0_13, .slice a0_14 l0_14 c0_14, .slice a0_15 l0_15 c0_15]) b) rfl (d := 12) (args := [.v (.agg #[.int .i64 x0_0, .int .u64 x0_1, .int .u64 x0_2, .int .i64 x0_3, .string x0_4, .int .i64 x0_5, .int .u64 x0_6, .int .u64 x0_7, .int .u64 x0_8, .int .i64 x0_9, .int .i64 x0_10, .int .i64 x0_11, .int .i64 x0_12, .bool x0_13, .slice a0_14 l0_14 c0_14, .slice a0_15 l0_15 c0_15])]) (a := [.agg #[.int .i64 x0_0, .int .u64 x0_1, .int .u64 x0_2, .int .i64 x0_3, .string x0_4, .int .i64 x0_5, .int .u64 x0_6, .int .u64 x0_7, .int .u64 x0_8, .int .i64 x0_9, .int .i64 x0_10, .int .i64 x0_11, .int .i64 x0_12, .bool x0_13, .slice a0_14 l0_14 c0_14, .slice a0_15 l0_15 c0_15]]) rfl (by decide) (by decide) told (S0 := ent (.agg #[.int .i64 x0_0, .int .u64 x0_1, .int .u64 x0_2, .int .i64 x0_3, .string x0_4, .int .i64 x0_5, .int .u64 x0_6, .int .u64 x0_7, .int .u64 x0_8, .int .i64 x0_9, .int .i64 x0_10, .int .i64 x0_11, .int .i64 x0_12, .bool x0_13, .slice a0_14 l0_14 c0_14, .slice a0_15 l0_15 c0_15]) b [.v (.agg #[.int .i64 x0_0, .int .u64 x0_1, .int .u64 x0_2, .int .i64 x0_3, .string x0_4, .int .i64 x0_5, .int .u64 x0_6, .int .u64 x0_7, .int .u64 x0_8, .int .i64 x0_9, .int .i64 x0_10, .int .i64 x0_11, .int .i64 x0_12, .bool x0_13, .slice a0_14 l0_14 c0_14, .slice a0_15 l0_15 c0_15])]) (by kernel_rfl) (VRL.cons (VR.v_iff.2 rfl) VRL.nil) fun cs0 => ?_
  cases b
  · refine Goes.endsV (facts1 told hl) (n := 6000) (o := []) (v := .bool true) ?_ fun ν' M1 w1 s' w' _ hB hr => ⟨rfl, below_of (fun _ h => h) hB hr⟩
    rw [q0]; simp [Owed]
  · refine Goes.endsV (facts1 told hl) (n := 6000) (o := []) (v := .bool true) ?_ fun ν' M1 w1 s' w' _ hB hr => ⟨rfl, below_of (fun _ h => h) hB hr⟩
    rw [q1]; simp [Owed]
/-- A world that meets the condition. -/
noncomputable def start (os : Os) : World :=
  let w0 := World.laidAll Tryz.prog os (Rows.pullNobodyRow.laid.filter fun x => x.2.handleName?.isNone)
  { w0 with heap := w0.heap.modify 0 fun
      | .cells _ t frozen => .cells #[.iface 128 (.agg #[.pointer (some ⟨6, 36, none⟩)])] t frozen
      | o => o }
theorem start_met (os : Os) (args : Array Value) : laidMetH Tryz.prog Rows.pullNobodyRow.laid ((start os).forCall (fun _ _ => 0) ⟨#[], args, []⟩).memory :=
  laidMetH_of_parts3 (fuel := 8) (laidMet_of_run' 8 (by kernel_rfl) (by kernel_rfl)) (by kernel_rfl) (by kernel_rfl)
theorem start_shaped (os : Os) (args : Array Value) : ((start os).forCall (fun _ _ => 0) ⟨#[], args, []⟩).Shaped Tryz.prog := World.shaped_of_RefB (by kernel_rfl) (by kernel_rfl)
theorem start_ok (os : Os) : Input.okWideB Tryz.prog ((start os).forCall (fun _ _ => 0) ⟨#[], #[.agg #[.int .i64 0, .int .u64 0, .int .u64 0, .int .i64 0, .string ⟨#[]⟩, .int .i64 0, .int .u64 0, .int .u64 0, .int .u64 0, .int .i64 0, .int .i64 0, .int .i64 0, .int .i64 0, .bool false, .slice none 0 0, .slice none 0 0]], []⟩) 3 ⟨#[], #[.agg #[.int .i64 0, .int .u64 0, .int .u64 0, .int .i64 0, .string ⟨#[]⟩, .int .i64 0, .int .u64 0, .int .u64 0, .int .u64 0, .int .i64 0, .int .i64 0, .int .i64 0, .int .i64 0, .bool false, .slice none 0 0, .slice none 0 0]], []⟩ = true := by kernel_rfl
set_option maxRecDepth 100000 in
theorem lifted (os : Os) (started : os.Started) (H : Type) (enc : TypeId × Value → H) :
    ReturnsInHanded {} Tryz.checked os 3 .any (fun w args => (Rows.pullNobodySpec.pre enc Tryz.prog Tryz.f3 [] false w args ∧ laidMetH Tryz.prog Rows.pullNobodyRow.laid w) ∧ sizedMet enc Tryz.prog Tryz.f3 (OpenSpec.ofChange Rows.pullNobodySpec) false w args)
      (Rows.pullNobodySpec.post enc Tryz.prog Tryz.f3 false true false false) := by
  refine returnsInHanded_of_change_and (C := Tryz.checked) (X := fun w _ => laidMetH Tryz.prog Rows.pullNobodyRow.laid w) (fun _ _ _ hh h => h.of_heap hh) own started (by kernel_rfl) Tryz.func3
    (ChangeSpec.witness_shaped (enc := enc) (C := Tryz.checked) (os := os) (X := fun w _ => laidMetH Tryz.prog Rows.pullNobodyRow.laid w) false (start os) #[.agg #[.int .i64 0, .int .u64 0, .int .u64 0, .int .i64 0, .string ⟨#[]⟩, .int .i64 0, .int .u64 0, .int .u64 0, .int .u64 0, .int .i64 0, .int .i64 0, .int .i64 0, .int .i64 0, .bool false, .slice none 0 0, .slice none 0 0]] 8 (by kernel_rfl) (start_shaped os _) (start_ok os) (by kernel_rfl) (by kernel_rfl) (start_met os _)) ?_
  intro W base args ds gs before hval0 hW _ _ hL _
  have hval : ∀ (j : Nat) t v, Tryz.f3.params[j]? = some t → args[j]? = some v → Value.okWide Tryz.prog W .any base t v := hval0
  have hW' := hW
  obtain ⟨p, q, hA0, hV, rfl, hfz, hnd⟩ := hW
  have hA : DataW.TrodAll enc Tryz.prog W 0 (fun _ => true) true Tryz.f3.params.toList args.toList ds p := hA0
  rw [Tryz.params3] at hA hval
  have hAll := hA
  obtain ⟨v0, vs0, d0, ds0, p0, q0, hargs, rfl, rfl, h0, r0⟩ := trodAll_cons hA
  obtain ⟨rfl, rfl, rfl⟩ := trodAll_nil r0
  obtain rfl : args = #[v0] := by cases args; simp_all
  obtain ⟨rfl, rfl⟩ := trodVars_none hV
  have lt0 : ∀ x ∈ p0, x.block < W.heap.size := by obtain ⟨m, hm⟩ := h0; exact DataW.trod_lt m _ _ _ hm
  obtain ⟨cs0, rfl, hc0⟩ := okWide_cells Tryz.underlying27 (show Tryz.prog.cellTypes Tryz.prog.depth 27 = some [3, 22, 22, 3, 9, 3, 22, 22, 22, 3, 3, 3, 23, 4, 24, 25] by kernel_rfl) (show Tryz.prog.cellsOf 27 = 16 by kernel_rfl) (hval 0 27 v0 rfl rfl)
  obtain ⟨y0_0, r0_0, rfl, ho0_0, hc0⟩ := hc0
  obtain ⟨y0_1, r0_1, rfl, ho0_1, hc0⟩ := hc0
  obtain ⟨y0_2, r0_2, rfl, ho0_2, hc0⟩ := hc0
  obtain ⟨y0_3, r0_3, rfl, ho0_3, hc0⟩ := hc0
  obtain ⟨y0_4, r0_4, rfl, ho0_4, hc0⟩ := hc0
  obtain ⟨y0_5, r0_5, rfl, ho0_5, hc0⟩ := hc0
  obtain ⟨y0_6, r0_6, rfl, ho0_6, hc0⟩ := hc0
  obtain ⟨y0_7, r0_7, rfl, ho0_7, hc0⟩ := hc0
  obtain ⟨y0_8, r0_8, rfl, ho0_8, hc0⟩ := hc0
  obtain ⟨y0_9, r0_9, rfl, ho0_9, hc0⟩ := hc0
  obtain ⟨y0_10, r0_10, rfl, ho0_10, hc0⟩ := hc0
  obtain ⟨y0_11, r0_11, rfl, ho0_11, hc0⟩ := hc0
  obtain ⟨y0_12, r0_12, rfl, ho0_12, hc0⟩ := hc0
  obtain ⟨y0_13, r0_13, rfl, ho0_13, hc0⟩ := hc0
  obtain ⟨y0_14, r0_14, rfl, ho0_14, hc0⟩ := hc0
  obtain ⟨y0_15, r0_15, rfl, ho0_15, hc0⟩ := hc0
  obtain rfl := hc0
  obtain ⟨x0_0, rfl, _⟩ := cell_int Tryz.underlying3 ho0_0
  obtain ⟨x0_1, rfl, _⟩ := cell_int Tryz.underlying22 ho0_1
  obtain ⟨x0_2, rfl, _⟩ := cell_int Tryz.underlying22 ho0_2
  obtain ⟨x0_3, rfl, _⟩ := cell_int Tryz.underlying3 ho0_3
  obtain ⟨x0_4, rfl⟩ := cell_string Tryz.underlying9 ho0_4
  obtain ⟨x0_5, rfl, _⟩ := cell_int Tryz.underlying3 ho0_5
  obtain ⟨x0_6, rfl, _⟩ := cell_int Tryz.underlying22 ho0_6
  obtain ⟨x0_7, rfl, _⟩ := cell_int Tryz.underlying22 ho0_7
  obtain ⟨x0_8, rfl, _⟩ := cell_int Tryz.underlying22 ho0_8
  obtain ⟨x0_9, rfl, _⟩ := cell_int Tryz.underlying3 ho0_9
  obtain ⟨x0_10, rfl, _⟩ := cell_int Tryz.underlying3 ho0_10
  obtain ⟨x0_11, rfl, _⟩ := cell_int Tryz.underlying3 ho0_11
  obtain ⟨x0_12, rfl, _⟩ := cell_int Tryz.underlying23 ho0_12
  obtain ⟨x0_13, rfl⟩ := cell_bool Tryz.underlying4 ho0_13
  obtain ⟨a0_14, l0_14, c0_14, rfl, _, _⟩ := cell_slice Tryz.underlying24 ho0_14
  obtain ⟨a0_15, l0_15, c0_15, rfl, _, _⟩ := cell_slice Tryz.underlying25 ho0_15
  clear hA0 hval0
  refine (walk x0_0 x0_1 x0_2 x0_3 x0_4 x0_5 x0_6 x0_7 x0_8 x0_9 x0_10 x0_11 x0_12 x0_13 a0_14 l0_14 c0_14 a0_15 l0_15 c0_15 W (told_of_laid hL) (light.rows_of h0 rfl)).mono fun e W' ⟨he, bel⟩ => ?_
  subst he
  refine ⟨_, rfl, _, _, _, [], _, [], hW', trodAll_mk1 (shut_bool Tryz.underlying4 _), trodAll_below laidOut bel hAll (by kernel_rfl) ?_, rfl, bel.frame _, fun h => by cases h⟩
  intro x hx
  simp only [List.mem_append, List.not_mem_nil, or_false] at hx
  exact lt0 x hx
set_option maxHeartbeats 4000000 in
theorem closed : joinedFacts Tryz.prog 3 Tryz.f3 Rows.pullNobodySpec Rows.pullNobodyRow = true := by
  unfold joinedFacts
  repeat' (with_reducible refine and_intro ?_ ?_)
  all_goals as_aux_lemma => kernel_rfl
theorem holds : Rows.PullNobodySaid :=
  OpenClaim.holds_of_wide 3 Tryz.f3 rfl rfl rfl rfl rfl rfl rfl ⟨rfl, rfl, rfl, rfl, rfl⟩ rfl rfl rfl rfl rfl (by kernel_rfl) Tryz.func3 closed
    (of_decide_eq_true (by kernel_rfl)) (by unfold Func.isWrapper; first | (rw [if_pos (by decide +kernel)]; kernel_rfl) | (rw [if_neg (by decide +kernel)]; exact ⟨rfl, rfl⟩))
    (fun os started H enc _ => lifted os started H enc)
theorem wfText : Rows.pullNobodyRow.wfByText (OpenSpec.ofChange Rows.pullNobodySpec) = true := by kernel_rfl
theorem mainIs : Tryz.prog.mainIs = some (true, "e12336c48623851890292ddc96d330ef07fd8b4215c61697107288972934a21c".toList) := by kernel_rfl
theorem looksIs : true = Tryz.prog.looks [] := by kernel_rfl
theorem goesNot : false = Rows.pullNobodyRow.goesBy Tryz.prog := by kernel_rfl
/-- The statement: the tied card. -/
theorem card_holds : Rows.PullNobodyCardSaid :=
  Claim7.holds_tied_plain_at .later [] [.data, .data, .data, .handle, .data] true (true, "e12336c48623851890292ddc96d330ef07fd8b4215c61697107288972934a21c") true holds (fun _ h => by cases h) wfText (fun _ h => by cases h) pullNobody_row_tie rfl ⟨rfl, rfl⟩ mainIs rfl
    (fun f fn hf hfn => by
      obtain rfl : f = 3 := Option.some.inj ((show Tryz.prog.funcNamed "tender/tenderlaw37.PullNobody" = some 3 by kernel_rfl).symm.trans hf) |>.symm
      obtain rfl : fn = Tryz.f3 := (Option.some.inj (Tryz.func3.symm.trans hfn)).symm
      exact ⟨looksIs, fun j t ht => by
        rw [Tryz.params3] at ht
        have hm : t ∈ [27] := by simpa using Array.mem_of_getElem? ht
        have hall : ([27].all fun u => !Tryz.prog.wantsStandIn u) = true := by kernel_rfl
        exact (show Tryz.prog.wantsStandIn t = false by simpa using List.all_eq_true.1 hall t hm)⟩)
    goesNot
#print axioms card_holds
end Go.Proofs.YtehfankppfeflaaGreatDoor.pullNobody
