/- The book that is loaded of any bytes, or why none is, is the document's: the tied card of the law VaultLoads. Conditions: none beyond the given statement's own (its listed package variables start as the program's text lays them). The law's calls are followed by a symbolic executor that is proved sound (YtcbokmadfcedaaaGreatDoorRxA .. YtcbokmadfcedaaaGreatDoorRyZ) and run by the kernel. By an AI agent. -/
import Derived.Test.YtcbokmadfcedaaaGreatDoorPk14
import Derived.Test.YtcbokmadfcedaaaGreatDoorCards
import Derived.Test.YtcbokmadfcedaaaGreatDoorTie
import Derived.Lay
import Derived.SevenTiedAt
import Derived.Stop.Joined
namespace Go.Proofs.YtcbokmadfcedaaaGreatDoor.vaultLoads
open Go Go.Rx Go.ChangeShapes Go.WideShapes Go.ChangeAt Go.RowKit paths paths.ez
set_option linter.unusedVariables false
set_option linter.unusedSimpArgs false
set_option maxRecDepth 100000
theorem tW {W : World} (h : laidMetH Tryz.prog Rows.vaultLoadsRow.laid W) : ∀ r ∈ ([(0, [.iface 199 (.v (.agg #[.pointer (some ⟨3, 37, none⟩)]))]), (1, bj.map fun n => .v (.int .u32 n))] : List (Nat × List SV)), Rx.Told W r := by
  intro r hr
  simp only [List.mem_cons, List.not_mem_nil, or_false] at hr
  rcases hr with rfl | rfl
  · exact uW (mR h) (v := "errors.errorType") (d := Rows.laid_errors_errorType) (name := [101, 114, 114, 111, 114]) (ty := 37) (List.mem_filter.2 ⟨by simp [Rows.vaultLoadsRow], rfl⟩) rfl rfl (by kernel_rfl) (by kernel_rfl) (by kernel_rfl) (by kernel_rfl)
  · exact zT h (v := "tender/check.nibble") (k := .u32) (zs := bj) (List.mem_filter.2 ⟨(show ("tender/check.nibble", Rows.laid_tender_check_nibble) ∈ Rows.vaultLoadsRow.laid by simp [Rows.vaultLoadsRow]), rfl⟩) (g := 1) (by kernel_rfl) (t := 263) (by kernel_rfl) (len := 16) (e := 206) (by kernel_rfl) (by kernel_rfl) (by kernel_rfl) (by kernel_rfl)

theorem Dx : bH Tryz.prog (fun w => ∀ r ∈ ([(0, [.iface 199 (.v (.agg #[.pointer (some ⟨3, 37, none⟩)]))]), (1, bj.map fun n => .v (.int .u32 n))] : List (Nat × List SV)), Rx.Told w r) (4, eT) := by
  refine ⟨⟨_, Tryz.func4, by kernel_rfl, by kernel_rfl⟩, fun args v p h hp w hX => ?_⟩
  dsimp only [eT] at h
  split at h
  · cases h
    exact (xB w hX).mono fun e w' ⟨h1, h2⟩ => ⟨h2, h1⟩
  · cases h
theorem zW {w0 w : World} {r : Nat × List SV} (h : Rx.Told w0 r) (hk : ∀ k, k < w0.heap.size → w.heap[k]? = w0.heap[k]?) : Rx.Told w r := by
  obtain ⟨ys, c, e, fz, h1, h2⟩ := h
  exact ⟨ys, c, e, fz, (hk _ (Array.getElem?_eq_some_iff.1 h1).1).trans h1, h2⟩
theorem walk (a0 : Option Addr) (l0 : Nat) (c0 : Nat) (x1 : Bool) (W : World) (hL : ∀ r ∈ ([(0, [.iface 199 (.v (.agg #[.pointer (some ⟨3, 37, none⟩)]))]), (1, bj.map fun n => .v (.int .u32 n))] : List (Nat × List SV)), Rx.Told W r) (hm : MX W) (hN : eh W) (e0 : Ld W a0 l0 c0) : Calls Tryz.prog 3 #[.slice a0 l0 c0, .bool x1] W fun e w' => e = .returned (.bool true) ∧ Below W.heap.size W w' :=
  Ae Dx (fun w0 w h hk r hr => zW (h r hr) hk) hL hm hN (hL _ (List.mem_cons_self ..)) e0
/-- A world that meets the condition. -/
noncomputable def start (os : Os) : World :=
  let w0 := World.laidAll Tryz.prog os (Rows.vaultLoadsRow.laid.filter fun x => x.2.handleName?.isNone)
  { w0 with heap := w0.heap.modify 0 fun
      | .cells _ t frozen => .cells #[.iface 199 (.agg #[.pointer (some ⟨3, 37, none⟩)])] t frozen
      | o => o }
theorem A9 (os : Os) (args : Array Value) : laidMetH Tryz.prog Rows.vaultLoadsRow.laid ((start os).forCall (fun _ _ => 0) ⟨#[], args, []⟩).memory :=
  laidMetH_of_parts3 (fuel := 8) (laidMet_of_run' 8 (by kernel_rfl) (by kernel_rfl)) (by kernel_rfl) (by kernel_rfl)
theorem ur (os : Os) (args : Array Value) : ((start os).forCall (fun _ _ => 0) ⟨#[], args, []⟩).Shaped Tryz.prog := World.shaped_of_RefB (by kernel_rfl) (by kernel_rfl)
theorem Cs (os : Os) : Input.okWideB Tryz.prog ((start os).forCall (fun _ _ => 0) ⟨#[], #[.slice none 0 0, .bool false], []⟩) 3 ⟨#[], #[.slice none 0 0, .bool false], []⟩ = true := by kernel_rfl
set_option maxRecDepth 100000 in
theorem lifted (os : Os) (started : os.Started) (H : Type) (enc : TypeId × Value → H) :
    ReturnsInHanded {} Tryz.checked os 3 .any (fun w args => (Rows.vaultLoadsSpec.pre enc Tryz.prog Tryz.f3 [] false w args ∧ laidMetH Tryz.prog Rows.vaultLoadsRow.laid w) ∧ sizedMet enc Tryz.prog Tryz.f3 (OpenSpec.ofChange Rows.vaultLoadsSpec) false w args)
      (Rows.vaultLoadsSpec.post enc Tryz.prog Tryz.f3 false true false false) := by
  refine Go.Rx.qg (C := Tryz.checked) (X := fun w _ => laidMetH Tryz.prog Rows.vaultLoadsRow.laid w) (fun _ _ _ hh h => h.of_heap hh) own started (by kernel_rfl) Tryz.func3
    (ChangeSpec.witness_shaped (enc := enc) (C := Tryz.checked) (os := os) (X := fun w _ => laidMetH Tryz.prog Rows.vaultLoadsRow.laid w) false (start os) #[.slice none 0 0, .bool false] 8 (by kernel_rfl) (ur os _) (Cs os) (by kernel_rfl) (by kernel_rfl) (A9 os _)) ?_
  intro W base args ds gs before hval0 hW _ hZ hL hSh
  have hval : ∀ (j : Nat) t v, Tryz.f3.params[j]? = some t → args[j]? = some v → Value.okWide Tryz.prog W .any base t v := hval0
  have hW' := hW
  obtain ⟨p, q, hA0, hV, rfl, hfz, hnd⟩ := hW
  have hA : DataW.TrodAll enc Tryz.prog W 0 (fun _ => true) true Tryz.f3.params.toList args.toList ds p := hA0
  rw [Tryz.params3] at hA hval
  have hAll := hA
  obtain ⟨v0, vs0, d0, ds0, p0, q0, hargs, rfl, rfl, h0, r0⟩ := trodAll_cons hA
  obtain ⟨v1, vs1, d1, ds1, p1, q1, rfl, rfl, rfl, h1, r1⟩ := trodAll_cons r0
  obtain ⟨rfl, rfl, rfl⟩ := trodAll_nil r1
  obtain rfl : args = #[v0, v1] := by cases args; simp_all
  obtain ⟨rfl, rfl⟩ := trodVars_none hV
  have lt0 : ∀ x ∈ p0, x.block < W.heap.size := by obtain ⟨m, hm⟩ := h0; exact DataW.trod_lt m _ _ _ hm
  have lt1 : ∀ x ∈ p1, x.block < W.heap.size := by obtain ⟨m, hm⟩ := h1; exact DataW.trod_lt m _ _ _ hm
  obtain ⟨a0, l0, c0, rfl⟩ := okWide_slice Tryz.underlying22 (hval 0 22 v0 rfl rfl)
  obtain ⟨x1, rfl⟩ := okWide_bool Tryz.underlying4 (hval 1 4 v1 rfl rfl)
  clear hA0 hval0
  refine (walk a0 l0 c0 x1 W  (tW hL) (ug.s1_3 W hSh) (ED (Hg hL (k := .u32) (zs := crc.nibL.map Int.ofNat) (List.mem_filter.2 ⟨(show ("tender/check.nibble", Rows.laid_tender_check_nibble) ∈ Rows.vaultLoadsRow.laid by simp [Rows.vaultLoadsRow]), rfl⟩) (g := 1) (by kernel_rfl) (t := 263) (by kernel_rfl) (n := 16) (e := 206) (by kernel_rfl) (by kernel_rfl) (by kernel_rfl) (by kernel_rfl))) (CF (hval 0 _ _ rfl rfl) h0)).mono fun e W' ⟨he, bel⟩ => ?_
  subst he
  refine ⟨_, rfl, _, _, _, [], _, [], hW', trodAll_mk1 (shut_bool Tryz.underlying4 _), kE laidOut bel hAll (by kernel_rfl) ?_, rfl, bel.frame _, fun h => by cases h⟩
  intro x hx
  simp only [List.mem_append, List.not_mem_nil, or_false] at hx
  rcases hx with hx | hx
  · exact lt0 x hx
  · exact lt1 x hx
set_option maxHeartbeats 4000000 in
theorem closed : joinedFacts Tryz.prog 3 Tryz.f3 Rows.vaultLoadsSpec Rows.vaultLoadsRow = true := by
  unfold joinedFacts
  repeat' (with_reducible refine and_intro ?_ ?_)
  all_goals as_aux_lemma => kernel_rfl
theorem holds : Rows.VaultLoadsSaid :=
  OpenClaim.holds_of_wide 3 Tryz.f3 rfl rfl rfl rfl rfl rfl rfl ⟨rfl, rfl, rfl, rfl, rfl⟩ rfl rfl rfl rfl rfl (by kernel_rfl) Tryz.func3 closed
    (of_decide_eq_true (by kernel_rfl)) (by unfold Func.isWrapper; first | (rw [if_pos (by decide +kernel)]; kernel_rfl) | (rw [if_neg (by decide +kernel)]; exact ⟨rfl, rfl⟩))
    (fun os started H enc _ => lifted os started H enc)
theorem Hr : Rows.vaultLoadsRow.wfByText (OpenSpec.ofChange Rows.vaultLoadsSpec) = true := by kernel_rfl
theorem mainIs : Tryz.prog.mainIs = some (true, "934a2d15f10a466cf5ce67e4f3160f6eb15e3b7df4793c94cd7ba38b54f0b12f".toList) := by kernel_rfl
theorem Eo : true = Tryz.prog.looks [] := by kernel_rfl
theorem ET : false = Rows.vaultLoadsRow.goesBy Tryz.prog := by kernel_rfl
/-- The statement: the tied card. -/
theorem card_holds : Rows.VaultLoadsCardSaid :=
  Claim7.holds_tied_plain_at .later [] [.handle, .data] true (true, "934a2d15f10a466cf5ce67e4f3160f6eb15e3b7df4793c94cd7ba38b54f0b12f") true holds (fun _ h => by cases h) Hr (fun _ h => by cases h) vaultLoads_row_tie rfl ⟨rfl, rfl⟩ mainIs rfl
    (fun f fn hf hfn => by
      obtain rfl : f = 3 := Option.some.inj ((show Tryz.prog.funcNamed "tender/tenderlaw23.VaultLoads" = some 3 by kernel_rfl).symm.trans hf) |>.symm
      obtain rfl : fn = Tryz.f3 := (Option.some.inj (Tryz.func3.symm.trans hfn)).symm
      exact ⟨Eo, fun j t ht => by
        rw [Tryz.params3] at ht
        have hm : t ∈ [22, 4] := by simpa using Array.mem_of_getElem? ht
        have hall : ([22, 4].all fun u => !Tryz.prog.wantsStandIn u) = true := by kernel_rfl
        exact (show Tryz.prog.wantsStandIn t = false by simpa using List.all_eq_true.1 hall t hm)⟩)
    ET
#print axioms card_holds
end Go.Proofs.YtcbokmadfcedaaaGreatDoor.vaultLoads
