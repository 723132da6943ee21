/- On a file system that is none nothing is kept: the tied card of the law VaultNobody. Conditions: none beyond the given statement's own (its listed package variables start as the program's text lays them). The law's calls are followed by a symbolic executor that is proved sound (YtiggmgcnjmalfaaGreatDoorRxA .. YtiggmgcnjmalfaaGreatDoorRyX) and run by the kernel. By an AI agent. -/
import Derived.Test.YtiggmgcnjmalfaaGreatDoorCards
import Derived.Test.YtiggmgcnjmalfaaGreatDoorTie
import Derived.Test.YtiggmgcnjmalfaaGreatDoorVaultP
import Derived.Lay
import Derived.SevenTiedAt
import Derived.Stop.Joined
namespace Go.Proofs.YtiggmgcnjmalfaaGreatDoor.vaultNobody
open Go Go.Rx Go.ChangeShapes Go.WideShapes Go.ChangeAt Go.RowKit paths
set_option linter.unusedVariables false
set_option linter.unusedSimpArgs false
set_option maxRecDepth 100000
theorem told_of_laid {W : World} (h : laidMetH Tryz.prog Rows.vaultNobodyRow.laid W) : ∀ r ∈ ([(0, [.iface 158 (.v (.agg #[.pointer (some ⟨3, 32, none⟩)]))])] : List (Nat × List SV)), Rx.Told W r := by
  intro r hr
  simp only [List.mem_cons, List.not_mem_nil, or_false] at hr
  rcases hr with rfl
  · exact told_handle (laidMetH_handles h) (v := "errors.errorType") (d := Rows.laid_errors_errorType) (name := [101, 114, 114, 111, 114]) (ty := 32) (List.mem_filter.2 ⟨by simp [Rows.vaultNobodyRow], rfl⟩) rfl rfl (by kernel_rfl) (by kernel_rfl) (by kernel_rfl) (by kernel_rfl)

/-- What came in lies still, and the variables that are told. -/
def XV (W w : World) : Prop := (∀ r ∈ ([(0, [.iface 158 (.v (.agg #[.pointer (some ⟨3, 32, none⟩)]))])] : List (Nat × List SV)), Rx.Told w r) ∧ ∀ k, k < W.heap.size → w.heap[k]? = W.heap[k]?
theorem slV_ok {W : World} {a : Option Addr} {l c : Nat} {D : List EntT} {b : Bool} (hE : EntsIn W a l c D) (hl : l ≤ 9223372036854775807) (hb : lightL D = b) : ∀ r ∈ slV a l c b, PureOK Tryz.prog (XV W) r := by
  intro r hr
  simp only [slV, List.mem_cons, List.not_mem_nil, or_false] at hr
  rcases hr with rfl | rfl
  · refine ⟨⟨_, Tryz.func4, by kernel_rfl, by kernel_rfl⟩, fun args v p h hp w hX => ?_⟩
    dsimp only at h
    split at h
    · cases h
      obtain ⟨rfl, rfl, rfl⟩ := hp
      rw [← hb]
      exact light_calls (hE.keep hX.2) hl
    · cases h
  · refine ⟨⟨_, Tryz.func5, by kernel_rfl, by kernel_rfl⟩, fun args v p h hp w hX => ?_⟩
    dsimp only at h
    split at h
    · cases h
      exact (lives_true w hX.1).mono fun e w' ⟨h1, h2⟩ => ⟨h2, h1⟩
    · cases h
theorem factsV {W : World} {a : Option Addr} {l c : Nat} {D : List EntT} {b : Bool} (told : ∀ r ∈ ([(0, [.iface 158 (.v (.agg #[.pointer (some ⟨3, 32, none⟩)]))])] : List (Nat × List SV)), Rx.Told W r) (hE : EntsIn W a l c D) (hl : l ≤ 9223372036854775807) (hb : lightL D = b) : Facts (EV a l c b) (laidOwn [(0, [.iface 158 (.v (.agg #[.pointer (some ⟨3, 32, none⟩)]))])]) W :=
  factsP (X := XV W) (slV_ok hE hl hb) fun ν s w hr hg => ⟨fun r hr' => (told r hr').keep hr, fun k hk => hr.frame k hk (fun h => h)⟩
theorem walk (a0 : Option Addr) (l0 : Nat) (c0 : Nat) (W : World) (told : ∀ r ∈ ([(0, [.iface 158 (.v (.agg #[.pointer (some ⟨3, 32, none⟩)]))])] : List (Nat × List SV)), Rx.Told W r) (hm : MX W) (ents : ∃ D : List EntT, EntsIn W a0 l0 c0 D ∧ (∀ x ∈ D, EntIs W x) ∧ l0 ≤ 9223372036854775807) : Calls Tryz.prog 3 #[.slice a0 l0 c0] W fun e w' => e = .returned (.bool true) ∧ Below W.heap.size W w' := by
  obtain ⟨D, hE, hD, hl⟩ := ents
  have hcall : ∀ b, (∀ cs0, Goes (EV a0 l0 c0 b) (laidOwn [(0, [.iface 158 (.v (.agg #[.pointer (some ⟨3, 32, none⟩)]))])]) W cs0 3 (fun e w' => e = .returned (.bool true) ∧ Below W.heap.size W w') (laidVal [(0, [.iface 158 (.v (.agg #[.pointer (some ⟨3, 32, none⟩)]))])]) (entVN a0 l0 c0 b)) → Calls Tryz.prog 3 #[.slice a0 l0 c0] W fun e w' => e = .returned (.bool true) ∧ Below W.heap.size W w' := fun b h =>
    calls_pieces (E := EV a0 l0 c0 b) rfl (d := 12) (l := [(0, [.iface 158 (.v (.agg #[.pointer (some ⟨3, 32, none⟩)]))])]) (args := [.v (.slice a0 l0 c0)]) (a := [.slice a0 l0 c0]) rfl (by decide) (by decide) told (S0 := entVN a0 l0 c0 b) (by kernel_rfl) (by repeat (first | exact VRL.nil | refine VRL.cons (VR.v_iff.2 rfl) ?_)) h
  have K := fun b (hb : lightL D = b) => factsV told hE hl hb
  cases hb : lightL D
  · refine hcall false fun cs0 => Goes.endsV (K false hb) (n := 300) (o := ff [1000] true) (v := .bool true) ?_ fun ν' M1 w1 s' w' _ hB hr => ⟨rfl, below_of (fun _ h => h) hB hr⟩
    rw [q0]
    simp only [Owed, and_self, and_true, true_and]
  · obtain ⟨hDI, ys, hX, _⟩ := ents_fine hm hD hb
    refine hcall true fun cs0 => ?_
    have hK0 := Kept.start (H0 := W.hp) (M := laidOwn [(0, [.iface 158 (.v (.agg #[.pointer (some ⟨3, 32, none⟩)]))])]) (w := W) (Hp.Sub.refl _) (fun z o _ h => h) (told_rlt told) (fun _ h => h)
    refine Goes.callV (K true hb) hK0 (n := 300) (g := 6) (o := ff [1000] true) (args := [.v (.slice a0 l0 c0)]) ?_ (by kernel_rfl) fun ν' w a hle hsub hgr ha => ?_
    · rw [q1]
      simp only [Owed, and_self, and_true, true_and]
    obtain ⟨y1, as1, rfl, e1, ha2⟩ := ha.cons_inv
    obtain rfl := ha2.nil_inv
    obtain rfl := VR.v_iff.1 e1
    have hk : ∀ k, k < W.heap.size → w.heap[k]? = W.heap[k]? := fun k hk => by
      have h1 := hsub k W.heap[k] (Array.getElem?_eq_getElem hk)
      rw [Array.getElem?_eq_getElem hk]; exact h1
    refine (plays_in (hE.keep hk) (hX.keep hk) hDI).mono fun e w' ⟨hB, b, v, he, hb', h⟩ => ?_
    have hv : ∃ a1 n1 c1, v = .agg #[.int .u64 0, .slice a1 n1 c1] := by
      rcases h with ⟨_, rfl⟩ | ⟨m, E, cl, xs, y, _, _, rfl, ⟨g, cc, rest, rfl, _⟩, _⟩
      · exact ⟨_, _, _, rfl⟩
      · exact ⟨_, _, _, rfl⟩
    obtain ⟨a1, n1, c1, rfl⟩ := hv
    refine ⟨hB, _, he, fun M2 hK2 => ⟨?_, ?_⟩⟩
    · show Owed (backO (EV a0 l0 c0 true) 6 300 (entVN a0 l0 c0 true) (ff [1000] true) (.v (outP b a1 n1 c1)))
      rw [q2]
      simp only [Owed, and_self, and_true, true_and]
    · refine Goes.endsV ((K true hb).rebase hK2.base) (n := 9000) (o := ff [1000] true) (v := .bool true) (S := backT (EV a0 l0 c0 true) 6 300 (entVN a0 l0 c0 true) (ff [1000] true) (.v (outP b a1 n1 c1))) ?_ fun ν' M1 w1 s' w' _ hB hr => ⟨rfl, below_of (fun _ h => h) (hK2.base.trans hB) hr⟩
      rw [q3]
      simp only [Owed, and_self, and_true, true_and]
/-- A world that meets the condition. -/
noncomputable def start (os : Os) : World :=
  let w0 := World.laidAll Tryz.prog os (Rows.vaultNobodyRow.laid.filter fun x => x.2.handleName?.isNone)
  { w0 with heap := w0.heap.modify 0 fun
      | .cells _ t frozen => .cells #[.iface 158 (.agg #[.pointer (some ⟨3, 32, none⟩)])] t frozen
      | o => o }
theorem start_met (os : Os) (args : Array Value) : laidMetH Tryz.prog Rows.vaultNobodyRow.laid ((start os).forCall (fun _ _ => 0) ⟨#[], args, []⟩).memory :=
  laidMetH_of_parts3 (fuel := 8) (laidMet_of_run' 8 (by kernel_rfl) (by kernel_rfl)) (by kernel_rfl) (by kernel_rfl)
theorem start_shaped (os : Os) (args : Array Value) : ((start os).forCall (fun _ _ => 0) ⟨#[], args, []⟩).Shaped Tryz.prog := World.shaped_of_RefB (by kernel_rfl) (by kernel_rfl)
theorem start_ok (os : Os) : Input.okWideB Tryz.prog ((start os).forCall (fun _ _ => 0) ⟨#[], #[.slice none 0 0], []⟩) 3 ⟨#[], #[.slice none 0 0], []⟩ = true := by kernel_rfl
set_option maxRecDepth 100000 in
theorem lifted (os : Os) (started : os.Started) (H : Type) (enc : TypeId × Value → H) :
    ReturnsInHanded {} Tryz.checked os 3 .any (fun w args => (Rows.vaultNobodySpec.pre enc Tryz.prog Tryz.f3 [] false w args ∧ laidMetH Tryz.prog Rows.vaultNobodyRow.laid w) ∧ sizedMet enc Tryz.prog Tryz.f3 (OpenSpec.ofChange Rows.vaultNobodySpec) false w args)
      (Rows.vaultNobodySpec.post enc Tryz.prog Tryz.f3 false true false false) := by
  refine Go.Rx.returns_shaped (C := Tryz.checked) (X := fun w _ => laidMetH Tryz.prog Rows.vaultNobodyRow.laid w) (fun _ _ _ hh h => h.of_heap hh) own started (by kernel_rfl) Tryz.func3
    (ChangeSpec.witness_shaped (enc := enc) (C := Tryz.checked) (os := os) (X := fun w _ => laidMetH Tryz.prog Rows.vaultNobodyRow.laid w) false (start os) #[.slice none 0 0] 8 (by kernel_rfl) (start_shaped os _) (start_ok os) (by kernel_rfl) (by kernel_rfl) (start_met os _)) ?_
  intro W base args ds gs before hval0 hW _ hZ hL hSh
  have hval : ∀ (j : Nat) t v, Tryz.f3.params[j]? = some t → args[j]? = some v → Value.okWide Tryz.prog W .any base t v := hval0
  have hW' := hW
  obtain ⟨p, q, hA0, hV, rfl, hfz, hnd⟩ := hW
  have hA : DataW.TrodAll enc Tryz.prog W 0 (fun _ => true) true Tryz.f3.params.toList args.toList ds p := hA0
  rw [Tryz.params3] at hA hval
  have hAll := hA
  obtain ⟨v0, vs0, d0, ds0, p0, q0, hargs, rfl, rfl, h0, r0⟩ := trodAll_cons hA
  obtain ⟨rfl, rfl, rfl⟩ := trodAll_nil r0
  obtain rfl : args = #[v0] := by cases args; simp_all
  obtain ⟨rfl, rfl⟩ := trodVars_none hV
  have lt0 : ∀ x ∈ p0, x.block < W.heap.size := by obtain ⟨m, hm⟩ := h0; exact DataW.trod_lt m _ _ _ hm
  obtain ⟨a0, l0, c0, rfl⟩ := okWide_slice Tryz.underlying22 (hval 0 22 v0 rfl rfl)
  clear hA0 hval0
  refine (walk a0 l0 c0 W  (told_of_laid hL) (laysCut.s1_3 W hSh) (ents_in h0 (wt_each hZ (j := 0) rfl rfl))).mono fun e W' ⟨he, bel⟩ => ?_
  subst he
  refine ⟨_, rfl, _, _, _, [], _, [], hW', trodAll_mk1 (shut_bool Tryz.underlying4 _), trodAll_below laidOut bel hAll (by kernel_rfl) ?_, rfl, bel.frame _, fun h => by cases h⟩
  intro x hx
  simp only [List.mem_append, List.not_mem_nil, or_false] at hx
  exact lt0 x hx
set_option maxHeartbeats 4000000 in
theorem closed : joinedFacts Tryz.prog 3 Tryz.f3 Rows.vaultNobodySpec Rows.vaultNobodyRow = true := by
  unfold joinedFacts
  repeat' (with_reducible refine and_intro ?_ ?_)
  all_goals as_aux_lemma => kernel_rfl
theorem holds : Rows.VaultNobodySaid :=
  OpenClaim.holds_of_wide 3 Tryz.f3 rfl rfl rfl rfl rfl rfl rfl ⟨rfl, rfl, rfl, rfl, rfl⟩ rfl rfl rfl rfl rfl (by kernel_rfl) Tryz.func3 closed
    (of_decide_eq_true (by kernel_rfl)) (by unfold Func.isWrapper; first | (rw [if_pos (by decide +kernel)]; kernel_rfl) | (rw [if_neg (by decide +kernel)]; exact ⟨rfl, rfl⟩))
    (fun os started H enc _ => lifted os started H enc)
theorem wfText : Rows.vaultNobodyRow.wfByText (OpenSpec.ofChange Rows.vaultNobodySpec) = true := by kernel_rfl
theorem mainIs : Tryz.prog.mainIs = some (true, "d71dbffccff034a0c1b47370a5972deef233ac09c0e09f92f814376e51304b5c".toList) := by kernel_rfl
theorem looksIs : true = Tryz.prog.looks [] := by kernel_rfl
theorem goesNot : false = Rows.vaultNobodyRow.goesBy Tryz.prog := by kernel_rfl
/-- The statement: the tied card. -/
theorem card_holds : Rows.VaultNobodyCardSaid :=
  Claim7.holds_tied_plain_at .later [] [.handle, .data] true (true, "d71dbffccff034a0c1b47370a5972deef233ac09c0e09f92f814376e51304b5c") true holds (fun _ h => by cases h) wfText (fun _ h => by cases h) vaultNobody_row_tie rfl ⟨rfl, rfl⟩ mainIs rfl
    (fun f fn hf hfn => by
      obtain rfl : f = 3 := Option.some.inj ((show Tryz.prog.funcNamed "tender/tenderlaw23.VaultNobody" = some 3 by kernel_rfl).symm.trans hf) |>.symm
      obtain rfl : fn = Tryz.f3 := (Option.some.inj (Tryz.func3.symm.trans hfn)).symm
      exact ⟨looksIs, fun j t ht => by
        rw [Tryz.params3] at ht
        have hm : t ∈ [22] := by simpa using Array.mem_of_getElem? ht
        have hall : ([22].all fun u => !Tryz.prog.wantsStandIn u) = true := by kernel_rfl
        exact (show Tryz.prog.wantsStandIn t = false by simpa using List.all_eq_true.1 hall t hm)⟩)
    goesNot
#print axioms card_holds
end Go.Proofs.YtiggmgcnjmalfaaGreatDoor.vaultNobody
