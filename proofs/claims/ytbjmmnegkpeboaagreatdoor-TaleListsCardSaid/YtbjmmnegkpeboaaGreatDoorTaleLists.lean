/- The lines of any tree, and of any book, are the document's: the tied card of the law TaleLists. Conditions: none beyond the given statement's own (its listed package variables start as the program's text lays them). The law's calls are followed by a symbolic executor that is proved sound (YtbjmmnegkpeboaaGreatDoorRxA .. YtbjmmnegkpeboaaGreatDoorRyY) and run by the kernel. By an AI agent. -/
import Derived.Test.YtbjmmnegkpeboaaGreatDoorPk7
import Derived.Test.YtbjmmnegkpeboaaGreatDoorCards
import Derived.Test.YtbjmmnegkpeboaaGreatDoorTie
import Derived.Lay
import Derived.SevenTiedAt
import Derived.Stop.Joined
set_option linter.unusedVariables false
set_option linter.unusedSimpArgs false
set_option maxRecDepth 100000
namespace Go.Proofs.YtbjmmnegkpeboaaGreatDoor.taleLists
open Go Go.Rx Go.ChangeShapes Go.WideShapes Go.ChangeAt Go.RowKit paths paths.ly
theorem xZ {W : World} (h : laidMetH Tryz.prog Rows.taleListsRow.laid W) : ∀ r ∈ ([(0, cj.map fun n => .v (.int .u32 n))] : List (Nat × List SV)), Rx.Told W r := by
  intro r hr;simp only [V8, Ww, Xc] at hr;rcases hr with rfl
  · exact En h (v := "tender/check.nibble") (k := .u32) (zs := cj) (Wo.2 ⟨(show ("tender/check.nibble", Rows.laid_tender_check_nibble) ∈ Rows.taleListsRow.laid by simp [Rows.taleListsRow]), rfl⟩) (g := 0) (by kernel_rfl) (t := 155) (by kernel_rfl) (len := 16) (e := 72) (by kernel_rfl) (by kernel_rfl) (by kernel_rfl) (by kernel_rfl)

theorem zP {P : Program} {w : World} {r : Reach} {base : Nat} {t : TypeId} {v : Value} {k : IntKind} (ht : P.underlying t = some (.int k)) (h : Value.okWide P w r base t v) : ∃ n, v = .int k n /\ k.has n := by
  simp only [Value.okWide, ht, Cell.okWide] at h;cases v <;> simp_all [Cell.ok]
theorem Md : ∀ r ∈ P7, bX Tryz.prog (fun w => ∀ r ∈ ([(0, cj.map fun n => .v (.int .u32 n))] : List (Nat × List SV)), Rx.Told w r) r := by
  intro r hr;simp only [P7, V8, Ww, Xc] at hr;subst hr;refine ⟨⟨_, Tryz.func6, by kernel_rfl, by kernel_rfl⟩, fun args v p h hp w hX => ?_⟩;dsimp only at h;split at h
  · cases h
    exact (AH w hX).mono fun e w' ⟨h1, h2⟩ => ⟨h2, h1⟩
  · cases h
theorem DF {w0 w : World} {r : Nat × List SV} (h : Rx.Told w0 r) (hk : ∀ k, k < w0.heap.size -> w.heap[k]? = w0.heap[k]?) : Rx.Told w r := by
  obtain ⟨ys, c, e, fz, h1, h2⟩ := h;exact ⟨ys, c, e, fz, (hk _ (VY.1 h1).1).trans h1, h2⟩
theorem walk (a0 : Option Addr) (l0 : Nat) (c0 : Nat) (a1 : Option Addr) (l1 : Nat) (c1 : Nat) (x2 : Int) (W : World) (hL : ∀ r ∈ ([(0, cj.map fun n => .v (.int .u32 n))] : List (Nat × List SV)), Rx.Told W r) (hm : MX W) (hP : words.fG W) (e1 : ∃ D : List ax, qY W a0 l0 c0 D /\ (∀ x ∈ D, xb W x) /\ l0 <= 9223372036854775807) (e2 : ∃ D : List ak, lB W a1 l1 c1 D /\ (∀ x ∈ D, qK W x) /\ l1 <= 9223372036854775807)
    (hx : 0 <= x2 /\ x2 < 256) : Calls Tryz.prog 3 #[.slice a0 l0 c0, .slice a1 l1 c1, .int .u8 x2] W fun e w' => e = .returned (.bool true) /\ Below W.heap.size W w' :=
  wh (E := EA) rfl (d := 12) (l := []) (args := [.v (.slice a0 l0 c0), .v (.slice a1 l1 c1), .v (.int .u8 x2)]) (a := [.slice a0 l0 c0, .slice a1 l1 c1, .int .u8 x2]) rfl (by decide) (by decide) (fun r hr => (nomatch hr)) (S0 := GV ⟨a0, l0, c0, a1, l1, c1, x2⟩) (by kernel_rfl) (by repeat (first | exact au.nil | refine au.cons (VR.ae.2 rfl) ?_))
    fun cs0 => Jh (kM Md fun ν s w hr _ r YK => DF (hL r YK) fun k hk => hr.frame k hk (fun h => h)) hm hP (hL _ (Wj ..)) e1 e2 hx
/-- A world that meets the condition. -/
noncomputable def start (os : Os) : World :=
  World.laidAll Tryz.prog os Rows.taleListsRow.laid
theorem Ds (os : Os) (args : Array Value) : laidMetH Tryz.prog Rows.taleListsRow.laid ((start os).forCall (fun _ _ => 0) ⟨#[], args, []⟩).memory :=
  laidMetH_of_parts3 (fuel := 8) (laidMet_of_run' 8 (by kernel_rfl) (by kernel_rfl)) (by kernel_rfl) (by kernel_rfl)
theorem xl (os : Os) (args : Array Value) : ((start os).forCall (fun _ _ => 0) ⟨#[], args, []⟩).Shaped Tryz.prog := World.shaped_of_RefB (by kernel_rfl) (by kernel_rfl)
theorem FZ (os : Os) : Input.okWideB Tryz.prog ((start os).forCall (fun _ _ => 0) ⟨#[], #[.slice none 0 0, .slice none 0 0, .int .u8 0], []⟩) 3 ⟨#[], #[.slice none 0 0, .slice none 0 0, .int .u8 0], []⟩ = true := by kernel_rfl
set_option maxRecDepth 100000 in
theorem lifted (os : Os) (started : os.Started) (H : Type) (enc : TypeId × Value -> H) :
    ReturnsInHanded {} Tryz.checked os 3 .any (fun w args => (Rows.taleListsSpec.pre enc Tryz.prog Tryz.f3 [] false w args /\ laidMetH Tryz.prog Rows.taleListsRow.laid w) /\ sizedMet enc Tryz.prog Tryz.f3 (OpenSpec.ofChange Rows.taleListsSpec) false w args)
      (Rows.taleListsSpec.post enc Tryz.prog Tryz.f3 false true false false) := by
  refine Go.Rx.rZ (C := Tryz.checked) (X := fun w _ => laidMetH Tryz.prog Rows.taleListsRow.laid w) (fun _ _ _ hh h => h.of_heap hh) own started (by kernel_rfl) Tryz.func3
    (ChangeSpec.witness_shaped (enc := enc) (C := Tryz.checked) (os := os) (X := fun w _ => laidMetH Tryz.prog Rows.taleListsRow.laid w) false (start os) #[.slice none 0 0, .slice none 0 0, .int .u8 0] 8 (by kernel_rfl) (xl os _) (FZ os) (by kernel_rfl) (by kernel_rfl) (Ds os _)) ?_
  intro W base args ds gs before hval0 hW _ hZ hL hSh;have hval : ∀ (j : Nat) t v, Tryz.f3.params[j]? = some t -> args[j]? = some v -> Value.okWide Tryz.prog W .any base t v := hval0;have hW' := hW;obtain ⟨p, q, hA0, hV, rfl, hfz, hnd⟩ := hW;have hA : DataW.TrodAll enc Tryz.prog W 0 (fun _ => true) true Tryz.f3.params.toList args.toList ds p := hA0;rw [Tryz.params3] at hA hval;have hAll := hA;obtain ⟨v0, vs0, d0, ds0, p0, q0, hargs, rfl, rfl, h0, r0⟩ := trodAll_cons hA;obtain ⟨v1, vs1, d1, ds1, p1, q1, rfl, rfl, rfl, h1, r1⟩ := trodAll_cons r0;obtain ⟨v2, vs2, d2, ds2, p2, q2, rfl, rfl, rfl, h2, r2⟩ := trodAll_cons r1;obtain ⟨rfl, rfl, rfl⟩ := trodAll_nil r2;obtain rfl : args = #[v0, v1, v2] := by cases args; simp_all
  obtain ⟨rfl, rfl⟩ := trodVars_none hV;have PE : ∀ x ∈ p0, x.block < W.heap.size := by obtain ⟨m, hm⟩ := h0; exact DataW.trod_lt m _ _ _ hm
  have Pr : ∀ x ∈ p1, x.block < W.heap.size := by obtain ⟨m, hm⟩ := h1; exact DataW.trod_lt m _ _ _ hm
  have PO : ∀ x ∈ p2, x.block < W.heap.size := by obtain ⟨m, hm⟩ := h2; exact DataW.trod_lt m _ _ _ hm
  obtain ⟨a0, l0, c0, rfl⟩ := okWide_slice Tryz.underlying22 (hval 0 22 v0 rfl rfl);obtain ⟨a1, l1, c1, rfl⟩ := okWide_slice Tryz.underlying23 (hval 1 23 v1 rfl rfl);obtain ⟨x2, rfl, YW⟩ := zP Tryz.underlying5 (hval 2 5 v2 rfl rfl);clear hA0 hval0;refine (walk a0 l0 c0 a1 l1 c1 x2 W  (xZ hL) (wk.s1_3 W hSh) (ME hL (k := .u64) (zs := Lib.pow10Tab) (Wo.2 ⟨(show ("internal/strconv.uint64pow10", Rows.laid_internal_strconv_uint64pow10) ∈ Rows.taleListsRow.laid by simp [Rows.taleListsRow]), rfl⟩) (g := 1) (by kernel_rfl) (t := 161) (by kernel_rfl) (n := 20) (by kernel_rfl) (e := 32) (by kernel_rfl) (by kernel_rfl) (by kernel_rfl)) (MK h0 (C2 hZ (j := 0) rfl rfl)) (Ie h1 (C2 hZ (j := 1) rfl rfl)) ⟨YW.1, by have h : x2 <= 255 := YW.2; omega⟩).mono fun e W' ⟨he, bel⟩ => ?_;subst he
  refine ⟨_, rfl, _, _, _, [], _, [], hW', trodAll_mk1 (shut_bool Tryz.underlying4 _), nj laidOut bel hAll (by kernel_rfl) ?_, rfl, bel.frame _, fun h => by cases h⟩;intro x hx;simp only [WJ, Ww, Xc] at hx;rcases hx with hx | hx | hx
  · exact PE x hx
  · exact Pr x hx
  · exact PO x hx
set_option maxHeartbeats 4000000 in
theorem closed : joinedFacts Tryz.prog 3 Tryz.f3 Rows.taleListsSpec Rows.taleListsRow = true := by
  unfold joinedFacts;repeat' (with_reducible refine and_intro ?_ ?_)
  all_goals as_aux_lemma => kernel_rfl
theorem holds : Rows.TaleListsSaid :=
  OpenClaim.holds_of_wide 3 Tryz.f3 rfl rfl rfl rfl rfl rfl rfl ⟨rfl, rfl, rfl, rfl, rfl⟩ rfl rfl rfl rfl rfl (by kernel_rfl) Tryz.func3 closed
    (Ws (by kernel_rfl)) (by unfold Func.isWrapper; first | (rw [if_pos (by decide +kernel)]; kernel_rfl) | (rw [if_neg (by decide +kernel)]; exact ⟨rfl, rfl⟩))
    (fun os started H enc _ => lifted os started H enc)
theorem KX : Rows.taleListsRow.wfByText (OpenSpec.ofChange Rows.taleListsSpec) = true := by kernel_rfl
theorem mainIs : Tryz.prog.mainIs = some (true, "a7bfde0c581196fc1f5c74e51a7b76ec21ba58544ea026b4629ec5b57ef98903".toList) := by kernel_rfl
theorem Il : false = Tryz.prog.looks [] := by kernel_rfl
theorem JQ : false = Rows.taleListsRow.goesBy Tryz.prog := by kernel_rfl
/-- The statement: the tied card. -/
theorem card_holds : Rows.TaleListsCardSaid :=
  Claim7.holds_tied_plain_at .later [] [.data, .data, .data, .data] true (true, "a7bfde0c581196fc1f5c74e51a7b76ec21ba58544ea026b4629ec5b57ef98903") false holds (fun _ h => by cases h) KX (fun _ h => by cases h) taleLists_row_tie rfl ⟨rfl, rfl⟩ mainIs rfl
    (fun f fn hf ZA => by
      obtain rfl : f = 3 := Option.some.inj ((show Tryz.prog.funcNamed "tender/tenderlaw44.TaleLists" = some 3 by kernel_rfl).symm.trans hf) |>.symm
      obtain rfl : fn = Tryz.f3 := (Option.some.inj (Tryz.func3.symm.trans ZA)).symm
      exact ⟨Il, fun j t ht => by
        rw [Tryz.params3] at ht
        have hm : t ∈ [22, 23, 5] := by simpa using Array.mem_of_getElem? ht
        have YM : ([22, 23, 5].all fun u => !Tryz.prog.wantsStandIn u) = true := by kernel_rfl
        exact (show Tryz.prog.wantsStandIn t = false by simpa using Wn.1 YM t hm)⟩)
    JQ
#print axioms card_holds
end Go.Proofs.YtbjmmnegkpeboaaGreatDoor.taleLists
