/- Where any two books are not the same, which outcomes are none, and the kinds' names, are the document's: the statement of the law AuditBooks. Conditions: none beyond the given statement's own. The law's calls are followed by a symbolic executor that is proved sound (YtbjmmnegkpeboaaGreatRxA .. YtbjmmnegkpeboaaGreatRyY) and run by the kernel. By an AI agent. -/
import Derived.Test.YtbjmmnegkpeboaaGreatPk6
import Derived.Test.YtbjmmnegkpeboaaGreatRows
import Derived.Lay
import Derived.SevenTiedAt
import Derived.Stop.Joined
namespace Go.Proofs.YtbjmmnegkpeboaaGreat.auditBooks
open Go Go.Rx Go.ChangeShapes Go.WideShapes Go.ChangeAt Go.RowKit paths
set_option linter.unusedVariables false
set_option linter.unusedSimpArgs false
set_option maxRecDepth 100000
section
variable {H : Type} {enc : TypeId × Value → H}
theorem returns_bare {a : Assume} {C : Checked} {os : Os} {f : FuncId} {fn : Func} {s : ChangeSpec} {conds : List PathCond} {apart fresh handsOn again : Bool}
    (own : ownKnob C.prog.godebug = none) (started : os.Started) (noInit : C.prog.inits.idxOf? f = none) (hfn : C.prog.funcs[f]? = some fn)
    (witness : ∃ (w : World) (tape : Tape) (i : Input), w.os = os ∧ (w.forCall tape i).Shaped C.prog ∧ i.vars = [] ∧ Input.okWide C.prog (w.forCall tape i) .any w.heap.size f i ∧
      (s.pre enc C.prog fn conds apart (w.forCall tape i).memory i.args ∧ sizedMet enc C.prog fn (OpenSpec.ofChange s) apart (w.forCall tape i).memory i.args) ∧ a.holds C.prog (lone (Frame.enter C.prog f i.args .normal) [] (w.forCall tape i)))
    (K : ∀ (W : World) (base : Nat) (args : Array Value) (ds gs : List (DataW H)) (before : List MemPlace), (∀ (j : Nat) t v, fn.params[j]? = some t → args[j]? = some v → Value.okWide C.prog W .any base t v) →
      DataW.Whole enc C.prog fn.params.toList s.vars apart W args.toList ds gs before → conds.all (PathCond.test C.prog ⟨fn.params.toList, ds, s.plain.varTypes C.prog, gs⟩) = true →
      (DataW.weightsEach C.prog (fn.params.toList ++ s.plain.varTypes C.prog) (ds ++ gs)).all (· ≤ reachBytes) = true → W.ShapedOpen C.prog →
      Calls C.prog f args W fun e W' => ∃ v, e = .returned v ∧ s.post enc C.prog fn apart fresh handsOn again W args v W') :
    ReturnsInHanded a C os f .any (fun w args => s.pre enc C.prog fn conds apart w args ∧ sizedMet enc C.prog fn (OpenSpec.ofChange s) apart w args) (s.post enc C.prog fn apart fresh handsOn again) := by
  refine returnsInHanded_of_calls own started noInit witness fun w tape i _ hsh _ hok hpre _ => ?_
  obtain ⟨_, _, _, fn', hfn', _, _, _, _, hval⟩ := hok
  obtain rfl : fn' = fn := Option.some.inj (hfn'.symm.trans hfn)
  obtain ⟨⟨ds, gs, before, hw, hc⟩, hz⟩ := hpre
  refine (K (w.forCall tape i) w.heap.size i.args ds gs before hval (DataW.Whole.of_heap (w' := w.forCall tape i) (by rfl) hw) hc (hz.weights hw) hsh).mono fun e W' ⟨v, he, hp⟩ => ?_
  subst he
  exact ChangeSpec.post_blind hp
end
theorem slA_ok : ∀ r ∈ slA, PureOK Tryz.prog (fun _ => True) r := by
  intro r hr
  simp only [slA, List.mem_cons, List.not_mem_nil, or_false] at hr
  subst hr
  refine ⟨⟨_, Tryz.func6, by kernel_rfl, by kernel_rfl⟩, fun args v p h hp w hX => ?_⟩
  dsimp only at h
  split at h
  · cases h
    exact (lives_true w fun r hr => (nomatch hr)).mono fun e w' ⟨h1, h2⟩ => ⟨h2, h1⟩
  · cases h
theorem walk (a0 : Option Addr) (l0 : Nat) (c0 : Nat) (a1 : Option Addr) (l1 : Nat) (c1 : Nat) (a2 : Option Addr) (l2 : Nat) (c2 : Nat) (x3 : Int) (W : World) (hm : MX W) (e1 : ∃ D : List EntT, EntsIn W a0 l0 c0 D ∧ (∀ x ∈ D, EntIs W x) ∧ l0 ≤ 9223372036854775807) (e2 : ∃ D : List EntT, EntsIn W a1 l1 c1 D ∧ (∀ x ∈ D, EntIs W x) ∧ l1 ≤ 9223372036854775807)
    (e3 : ∃ D : List OutT, OutsIn W a2 l2 c2 D ∧ (∀ y ∈ D, y.p.size ≤ reachBytes) ∧ l2 ≤ 9223372036854775807) : Calls Tryz.prog 3 #[.slice a0 l0 c0, .slice a1 l1 c1, .slice a2 l2 c2, .int .i64 x3] W fun e w' => e = .returned (.bool true) ∧ Below W.heap.size W w' :=
  calls_pieces (E := EA) rfl (d := 12) (l := []) (args := [.v (.slice a0 l0 c0), .v (.slice a1 l1 c1), .v (.slice a2 l2 c2), .v (.int .i64 x3)]) (a := [.slice a0 l0 c0, .slice a1 l1 c1, .slice a2 l2 c2, .int .i64 x3]) rfl (by decide) (by decide) (fun r hr => (nomatch hr)) (S0 := entA ⟨a0, l0, c0, a1, l1, c1, a2, l2, c2, x3⟩) (by kernel_rfl) (by repeat (first | exact VRL.nil | refine VRL.cons (VR.v_iff.2 rfl) ?_))
    fun cs0 => head_ok (factsP0 slA_ok) hm e1 e2 e3
/-- A world that meets the condition. -/
noncomputable def start (os : Os) : World :=
  World.laidAll Tryz.prog os Rows.auditBooksRow.laid
theorem start_shaped (os : Os) (args : Array Value) : ((start os).forCall (fun _ _ => 0) ⟨#[], args, []⟩).Shaped Tryz.prog := World.shaped_of_RefB (by kernel_rfl) (by kernel_rfl)
theorem start_ok (os : Os) : Input.okWideB Tryz.prog ((start os).forCall (fun _ _ => 0) ⟨#[], #[.slice none 0 0, .slice none 0 0, .slice none 0 0, .int .i64 0], []⟩) 3 ⟨#[], #[.slice none 0 0, .slice none 0 0, .slice none 0 0, .int .i64 0], []⟩ = true := by kernel_rfl
set_option maxRecDepth 100000 in
theorem lifted (os : Os) (started : os.Started) (H : Type) (enc : TypeId × Value → H) :
    ReturnsInHanded {} Tryz.checked os 3 .any (fun w args => Rows.auditBooksSpec.pre enc Tryz.prog Tryz.f3 [] false w args ∧ sizedMet enc Tryz.prog Tryz.f3 (OpenSpec.ofChange Rows.auditBooksSpec) false w args)
      (Rows.auditBooksSpec.post enc Tryz.prog Tryz.f3 false true false false) := by
  refine returns_bare (C := Tryz.checked) own started (by kernel_rfl) Tryz.func3
    (let ⟨w, t, i, h1, h2, h3, h4, h5, h6⟩ := ChangeSpec.witness_shaped (enc := enc) (C := Tryz.checked) (os := os) (X := fun _ _ => True) false (start os) #[.slice none 0 0, .slice none 0 0, .slice none 0 0, .int .i64 0] 8 (by kernel_rfl) (start_shaped os _) (start_ok os) (by kernel_rfl) (by kernel_rfl) trivial; ⟨w, t, i, h1, h2, h3, h4, ⟨h5.1.1, h5.2⟩, h6⟩) ?_
  intro W base args ds gs before hval0 hW _ hZ hSh
  have hval : ∀ (j : Nat) t v, Tryz.f3.params[j]? = some t → args[j]? = some v → Value.okWide Tryz.prog W .any base t v := hval0
  have hW' := hW
  obtain ⟨p, q, hA0, hV, rfl, hfz, hnd⟩ := hW
  have hA : DataW.TrodAll enc Tryz.prog W 0 (fun _ => true) true Tryz.f3.params.toList args.toList ds p := hA0
  rw [Tryz.params3] at hA hval
  have hAll := hA
  obtain ⟨v0, vs0, d0, ds0, p0, q0, hargs, rfl, rfl, h0, r0⟩ := trodAll_cons hA
  obtain ⟨v1, vs1, d1, ds1, p1, q1, rfl, rfl, rfl, h1, r1⟩ := trodAll_cons r0
  obtain ⟨v2, vs2, d2, ds2, p2, q2, rfl, rfl, rfl, h2, r2⟩ := trodAll_cons r1
  obtain ⟨v3, vs3, d3, ds3, p3, q3, rfl, rfl, rfl, h3, r3⟩ := trodAll_cons r2
  obtain ⟨rfl, rfl, rfl⟩ := trodAll_nil r3
  obtain rfl : args = #[v0, v1, v2, v3] := by cases args; simp_all
  obtain ⟨rfl, rfl⟩ := trodVars_none hV
  have lt0 : ∀ x ∈ p0, x.block < W.heap.size := by obtain ⟨m, hm⟩ := h0; exact DataW.trod_lt m _ _ _ hm
  have lt1 : ∀ x ∈ p1, x.block < W.heap.size := by obtain ⟨m, hm⟩ := h1; exact DataW.trod_lt m _ _ _ hm
  have lt2 : ∀ x ∈ p2, x.block < W.heap.size := by obtain ⟨m, hm⟩ := h2; exact DataW.trod_lt m _ _ _ hm
  have lt3 : ∀ x ∈ p3, x.block < W.heap.size := by obtain ⟨m, hm⟩ := h3; exact DataW.trod_lt m _ _ _ hm
  obtain ⟨a0, l0, c0, rfl⟩ := okWide_slice Tryz.underlying22 (hval 0 22 v0 rfl rfl)
  obtain ⟨a1, l1, c1, rfl⟩ := okWide_slice Tryz.underlying22 (hval 1 22 v1 rfl rfl)
  obtain ⟨a2, l2, c2, rfl⟩ := okWide_slice Tryz.underlying23 (hval 2 23 v2 rfl rfl)
  obtain ⟨x3, rfl⟩ := okWide_int Tryz.underlying3 (hval 3 3 v3 rfl rfl)
  clear hA0 hval0
  refine (walk a0 l0 c0 a1 l1 c1 a2 l2 c2 x3 W  (laysCut.s1_3 W hSh) (ents_in h0 (wt_each hZ (j := 0) rfl rfl)) (ents_in h1 (wt_each hZ (j := 1) rfl rfl)) (outs_in h2 (wt_each hZ (j := 2) rfl rfl))).mono fun e W' ⟨he, bel⟩ => ?_
  subst he
  refine ⟨_, rfl, _, _, _, [], _, [], hW', trodAll_mk1 (shut_bool Tryz.underlying4 _), trodAll_below laidOut bel hAll (by kernel_rfl) ?_, rfl, bel.frame _, fun h => by cases h⟩
  intro x hx
  simp only [List.mem_append, List.not_mem_nil, or_false] at hx
  rcases hx with hx | hx | hx | hx
  · exact lt0 x hx
  · exact lt1 x hx
  · exact lt2 x hx
  · exact lt3 x hx
set_option maxHeartbeats 4000000 in
theorem closed : joinedFacts Tryz.prog 3 Tryz.f3 Rows.auditBooksSpec Rows.auditBooksRow = true := by
  unfold joinedFacts
  repeat' (with_reducible refine and_intro ?_ ?_)
  all_goals as_aux_lemma => kernel_rfl
theorem holds : Rows.AuditBooksSaid :=
  OpenClaim.holds_of_wide 3 Tryz.f3 rfl rfl rfl rfl rfl rfl rfl ⟨rfl, rfl, rfl, rfl, rfl⟩ rfl rfl rfl rfl rfl (by kernel_rfl) Tryz.func3 closed
    (of_decide_eq_true (by kernel_rfl)) (by unfold Func.isWrapper; first | (rw [if_pos (by decide +kernel)]; kernel_rfl) | (rw [if_neg (by decide +kernel)]; exact ⟨rfl, rfl⟩))
    (fun os started H enc _ => lifted os started H enc)
end Go.Proofs.YtbjmmnegkpeboaaGreat.auditBooks
