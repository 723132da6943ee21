/- Any rows, told page by page, are told once each, and in order; what is found of a path is its first row: the statement of the law ScanPages. Conditions: none beyond the given statement's own. The law's calls are followed by a symbolic executor that is proved sound (YtjhmpmhkppglnaaGreatRxA .. YtjhmpmhkppglnaaGreatRyS) and run by the kernel. By an AI agent. -/
import Derived.Test.YtjhmpmhkppglnaaGreatRows
import Derived.Test.YtjhmpmhkppglnaaGreatPageG
import Derived.Lay
import Derived.SevenTiedAt
import Derived.Stop.Joined
namespace Go.Proofs.YtjhmpmhkppglnaaGreat.scanPages
open Go Go.Rx Go.ChangeShapes Go.WideShapes Go.ChangeAt Go.RowKit paths
set_option linter.unusedVariables false
set_option linter.unusedSimpArgs false
set_option maxRecDepth 100000
section
variable {H : Type} {enc : TypeId × Value → H} {P : Program} {W : World} {base : Nat} {spare : Nat → Bool} {held : Bool}
theorem weights_all {e : TypeId} : ∀ {l : List (DataW H)} {d : DataW H}, d ∈ l → ∀ {q : Nat}, q ∈ d.weights P e → q ∈ DataW.weightsAll P e l
  | x :: l, d, hd, q, hq => by
    unfold DataW.weightsAll
    rcases List.mem_cons.1 hd with rfl | hd
    · exact List.mem_append_left _ hq
    · exact List.mem_append_right _ (weights_all hd hq)
theorem slice_rowsW {α : Type} {h : α → List Value} {C : Nat} (hC0 : 0 < C) (hh : ∀ r, (h r).length = C) {t e : TypeId} {a : Option Addr} {l c n : Nat} {x : DataW H × List MemPlace}
    (hform : ∀ (vs : List Value) (n : Nat) (y : DataW H × List MemPlace), DataW.trod enc P W base spare held n e vs = some y → (∀ q ∈ y.1.weights P e, q ≤ reachBytes) → ∃ r, vs = h r)
    (ht : P.underlying t = some (.slice e)) (hC : P.cellsOf e = C) (hd : DataW.trod enc P W base spare held n t [.slice a l c] = some x) (hwt : ∀ q ∈ x.1.weights P t, q ≤ reachBytes) : ElemsIn h W a l c := by
  rcases Deep.open_slice ht hd with ⟨h0, _⟩ | ⟨a', len, cap, m, n', D, Pl, hcs, hb, hl, hm, hmm, hxx, hi⟩
  · cases h0; exact ⟨⟨Nat.le_refl _, Nat.zero_le _⟩, .inl rfl⟩
  · cases hcs
    refine ⟨⟨hl, hm⟩, ?_⟩
    by_cases hl0 : l = 0
    · exact .inl hl0
    right
    have hlm : l ≤ m := by rw [hmm]; split <;> omega
    have hel : ∀ i, i < l → ∃ r : α, ∀ j, j < C → W.cell? (a'.add (i * C + j)) = (h r)[j]? := by
      intro i hil
      obtain ⟨cs', hc, htr⟩ := hi i (by omega)
      rw [hC] at hc
      obtain ⟨_, hcl, hat⟩ := World.cells?_some hc
      obtain ⟨r, hr⟩ := hform cs' _ _ htr fun q hq => hwt q (by
        rw [hxx]
        unfold DataW.weights
        rw [ht]
        exact List.mem_cons_of_mem _ (List.mem_append_left _ (weights_all (List.mem_map.2 ⟨i, List.mem_range.2 hil, rfl⟩) hq)))
      refine ⟨r, fun j hj => ?_⟩
      have := hat j hj
      rw [← hr, ← this, Deep.add_add]
    obtain ⟨F, hF⟩ : ∃ F : Nat → α, ∀ i, i < l → ∀ j, j < C → W.cell? (a'.add (i * C + j)) = (h (F i))[j]? := by
      obtain ⟨r0, _⟩ := hel 0 (by omega)
      refine ⟨fun i => if hi : i < l then Classical.choose (hel i hi) else r0, fun i hi => ?_⟩
      simp only [dif_pos hi]
      exact Classical.choose_spec (hel i hi)
    have h00 := hF 0 (by omega) 0 hC0
    have hv0 : ∃ v, (h (F 0))[0]? = some v := ⟨_, List.getElem?_eq_getElem (by rw [hh]; exact hC0)⟩
    obtain ⟨v0, hv0⟩ := hv0
    rw [hv0, Nat.zero_mul, Nat.add_zero] at h00
    have ha0 : a'.add 0 = a' := by simp [Addr.add]
    rw [ha0] at h00
    unfold World.cell? at h00
    split at h00
    · rename_i cs el fz hheap
      have hsp : a'.spot = none := by
        cases hs : a'.spot with
        | none => rfl
        | some s => rw [hs] at h00; simp at h00
      rw [hsp] at h00
      simp only [Option.isSome_none, Bool.false_eq_true, if_false] at h00
      have hoff := (Array.getElem?_eq_some_iff.1 h00).1
      obtain ⟨b, off, sp⟩ := a'
      simp only at hsp hheap hoff
      subst hsp
      refine ⟨b, off, (List.range l).map F, cs, el, fz, rfl, by simp, hheap, by omega, fun k v hk => ?_⟩
      obtain ⟨x, h1, h2⟩ := flatMap_get hC0 hh hk
      rw [List.getElem?_map] at h1
      obtain ⟨i, h3, rfl⟩ := Option.map_eq_some_iff.1 h1
      obtain ⟨hlt, h3⟩ := List.getElem?_eq_some_iff.1 h3
      rw [List.getElem_range] at h3
      simp only [List.length_range] at hlt
      subst h3
      have := hF (k / C) hlt (k % C) (Nat.mod_lt _ hC0)
      rw [h2] at this
      have e : k / C * C + k % C = k := by rw [Nat.mul_comm]; exact Nat.div_add_mod k C
      rw [e, addr_add, cell_at hheap] at this
      exact this
    · cases h00

end
section
variable {H : Type} {enc : TypeId × Value → H} {W : World} {base : Nat} {spare : Nat → Bool} {held : Bool}
def RowW : Type := { r : RowT // r.1.size ≤ reachBytes }
theorem rowForm {vs : List Value} {n : Nat} {y : DataW H × List MemPlace} (h : DataW.trod enc Tryz.prog W base spare held n 25 vs = some y) (hw : ∀ q ∈ y.1.weights Tryz.prog 25, q ≤ reachBytes) : ∃ r : RowW, vs = rowV r.1 := by
  have hs : Tryz.prog.underlying 25 = some (.struct (structFields Tryz.prog 25)) := by kernel_rfl
  have hcl := trod_cells h (by kernel_rfl) (by kernel_rfl) (by kernel_rfl)
  obtain ⟨xs, n', _, hy, hl0, hlen, hg⟩ := DataW.trod_struct hs h
  obtain ⟨hl, hf⟩ := hcl
  have hz : (structFields Tryz.prog 25).size = 5 := by kernel_rfl
  rw [hz] at hl hf
  match vs, hl with
  | [v0, v1, v2, v3, v4], _ =>
    obtain ⟨_, _, _, e0, h0⟩ := hf 0 9 (by decide) (by kernel_rfl)
    obtain ⟨_, _, _, e1, h1⟩ := hf 1 3 (by decide) (by kernel_rfl)
    obtain ⟨_, _, _, e2, h2⟩ := hf 2 23 (by decide) (by kernel_rfl)
    obtain ⟨_, _, _, e3, h3⟩ := hf 3 23 (by decide) (by kernel_rfl)
    obtain ⟨_, _, _, e4, h4⟩ := hf 4 3 (by decide) (by kernel_rfl)
    cases e0; cases e1; cases e2; cases e3; cases e4
    obtain ⟨s, hs', _⟩ := DataW.trod_string Tryz.underlying9 h0
    obtain ⟨n1, hn1, _⟩ := DataW.trod_int Tryz.underlying3 h1
    obtain ⟨n2, hn2, _⟩ := DataW.trod_int Tryz.underlying23 h2
    obtain ⟨n3, hn3, _⟩ := DataW.trod_int Tryz.underlying23 h3
    obtain ⟨n4, hn4, _⟩ := DataW.trod_int Tryz.underlying3 h4
    cases hs'; cases hn1; cases hn2; cases hn3; cases hn4
    have hsz : s.size ≤ reachBytes := by
      have hg0 := hg 0 (fieldAt Tryz.prog 25 0) (by kernel_rfl)
      have ho : (fieldAt Tryz.prog 25 0).offset = 0 := by kernel_rfl
      have hty : (fieldAt Tryz.prog 25 0).type = 9 := by kernel_rfl
      have hc1 : Tryz.prog.cellsOf 9 = 1 := by kernel_rfl
      rw [ho, hty, hc1] at hg0
      have hx0 : ∃ x0 xs', xs = x0 :: xs' := by
        cases xs with
        | nil => rw [hz] at hlen; cases hlen
        | cons x0 xs' => exact ⟨x0, xs', rfl⟩
      obtain ⟨x0, xs', rfl⟩ := hx0
      obtain ⟨s', hs2, hx, _⟩ := DataW.trod_string Tryz.underlying9 hg0
      cases hs2
      have hx0 : x0.1 = .lit (.string s.data.toList) := by rw [hx]
      have := hw s.data.toList.length (by
        rw [hy]
        unfold DataW.weights
        rw [hs]
        have hfs : ((structFields Tryz.prog 25).toList.map (·.type)) = 9 :: ((structFields Tryz.prog 25).toList.map (·.type)).tail := by kernel_rfl
        simp only
        rw [hfs, List.map_cons]
        unfold DataW.weightsEach
        refine List.mem_append_left _ ?_
        rw [hx0]
        unfold DataW.weights
        exact List.mem_singleton.2 rfl)
      simpa using this
    exact ⟨⟨(s, n1, n2, n3, n4), hsz⟩, rfl⟩
theorem rows_of {a : Option Addr} {l c : Nat} {d : DataW H} {p : List MemPlace} (h : DataW.Trod enc Tryz.prog W base spare held 22 (.slice a l c) d p) (hw : ∀ q ∈ d.weights Tryz.prog 22, q ≤ reachBytes) : ElemsIn (fun r : RowW => rowV r.1) W a l c := by
  obtain ⟨n, hn⟩ := h
  exact slice_rowsW (C := 5) (by decide) (fun _ => rfl) (fun _ _ _ h hq => rowForm h hq) Tryz.underlying22 (by kernel_rfl) hn hw
theorem size_of {x : ByteArray} {d : DataW H} {p : List MemPlace} (h : DataW.Trod enc Tryz.prog W base spare held 9 (.string x) d p) (hw : ∀ q ∈ d.weights Tryz.prog 9, q ≤ reachBytes) : x.size ≤ reachBytes := by
  obtain ⟨n, hn⟩ := h
  obtain ⟨s, hs, hx, _⟩ := DataW.trod_string Tryz.underlying9 hn
  cases hs; cases hx
  have := hw x.data.toList.length (by unfold DataW.weights; exact List.mem_singleton.2 rfl)
  simpa using this
end
theorem wts {H : Type} {P : Program} {ts : List TypeId} {ds : List (DataW H)} (h : (DataW.weightsEach P ts ds).all (· ≤ reachBytes) = true) {j : Nat} {t : TypeId} {d : DataW H} (ht : ts[j]? = some t) (hd : ds[j]? = some d) : ∀ q ∈ d.weights P t, q ≤ reachBytes := fun q hq => by
  simpa using List.all_eq_true.1 h q (DataW.weights_mem_each ht hd q hq)
section
variable {H : Type} {enc : TypeId × Value → H}
/-- The kit's rule for rows, with the shape of the world handed on. -/
theorem returns_bare {a : Assume} {C : Checked} {os : Os} {f : FuncId} {fn : Func} {s : ChangeSpec} {conds : List PathCond} {apart fresh handsOn again : Bool}
    (own : ownKnob C.prog.godebug = none) (started : os.Started) (noInit : C.prog.inits.idxOf? f = none) (hfn : C.prog.funcs[f]? = some fn)
    (witness : ∃ (w : World) (tape : Tape) (i : Input), w.os = os ∧ (w.forCall tape i).Shaped C.prog ∧ i.vars = [] ∧ Input.okWide C.prog (w.forCall tape i) .any w.heap.size f i ∧
      (s.pre enc C.prog fn conds apart (w.forCall tape i).memory i.args ∧ sizedMet enc C.prog fn (OpenSpec.ofChange s) apart (w.forCall tape i).memory i.args) ∧ a.holds C.prog (lone (Frame.enter C.prog f i.args .normal) [] (w.forCall tape i)))
    (K : ∀ (W : World) (base : Nat) (args : Array Value) (ds gs : List (DataW H)) (before : List MemPlace), (∀ (j : Nat) t v, fn.params[j]? = some t → args[j]? = some v → Value.okWide C.prog W .any base t v) →
      DataW.Whole enc C.prog fn.params.toList s.vars apart W args.toList ds gs before → conds.all (PathCond.test C.prog ⟨fn.params.toList, ds, s.plain.varTypes C.prog, gs⟩) = true →
      (DataW.weightsEach C.prog (fn.params.toList ++ s.plain.varTypes C.prog) (ds ++ gs)).all (· ≤ reachBytes) = true → W.ShapedOpen C.prog →
      Calls C.prog f args W fun e W' => ∃ v, e = .returned v ∧ s.post enc C.prog fn apart fresh handsOn again W args v W') :
    ReturnsInHanded a C os f .any (fun w args => s.pre enc C.prog fn conds apart w args ∧ sizedMet enc C.prog fn (OpenSpec.ofChange s) apart w args) (s.post enc C.prog fn apart fresh handsOn again) := by
  refine returnsInHanded_of_calls own started noInit witness fun w tape i _ hsh _ hok hpre _ => ?_
  obtain ⟨_, _, _, fn', hfn', _, _, _, _, hval⟩ := hok
  obtain rfl : fn' = fn := Option.some.inj (hfn'.symm.trans hfn)
  obtain ⟨⟨ds, gs, before, hw, hc⟩, hz⟩ := hpre
  refine (K (w.forCall tape i) w.heap.size i.args ds gs before hval (DataW.Whole.of_heap (w' := w.forCall tape i) (by rfl) hw) hc (hz.weights hw) hsh).mono fun e W' ⟨v, he, hp⟩ => ?_
  subst he
  exact ChangeSpec.post_blind hp
end
theorem walk (a0 : Option Addr) (l0 : Nat) (c0 : Nat) (x1 : ByteArray) (x2 : ByteArray) (x3 : Int) (W : World) (rows : ElemsIn (fun r : RowW => rowV r.1) W a0 l0 c0) (h1 : x1.size ≤ reachBytes) (h2 : x2.size ≤ reachBytes) (hm : MX W) : Calls Tryz.prog 3 #[.slice a0 l0 c0, .string x1, .string x2, .int .i64 x3] W fun e w' => e = .returned (.bool true) ∧ Below W.heap.size W w' := by
  obtain ⟨⟨hlc, hcm⟩, rfl | ⟨b, off, ys, cs, e, fz, rfl, rfl, hh, hoff, hc⟩⟩ := rows
  · exact law_none (w0 := W) (a := a0) (c := c0) (s := x1) (p := x2) (k := x3) hm
  · obtain ⟨xs, hxs⟩ : ∃ xs : List RowT, xs = ys.map (fun y : RowW => y.1) := ⟨_, rfl⟩
    have e1 : ys.length = xs.length := by rw [hxs, List.length_map]
    have hc' : ∀ (k : Nat) (v : Value), (xs.flatMap rowV)[k]? = some v → cs[off + k]? = some v := fun k v hk => hc k v (by rw [hxs, List.flatMap_map] at hk; exact hk)
    have hsz : ∀ r ∈ xs, r.1.size ≤ 140737488355328 := fun r hr => by
      rw [hxs] at hr
      obtain ⟨y, _, rfl⟩ := List.mem_map.1 hr
      have h5 : y.1.1.size ≤ reachBytes := y.2
      have h6 : reachBytes ≤ 140737488355328 := by decide
      exact Nat.le_trans h5 h6
    clear hc hxs
    rw [e1] at hlc ⊢
    clear e1
    have h3 : x1.size ≤ 140737488355328 := Nat.le_trans h1 (by decide)
    have h4 : x2.size ≤ 140737488355328 := Nat.le_trans h2 (by decide)
    have hl : xs.length ≤ 9223372036854775807 := Nat.le_trans hlc (Nat.le_trans hcm (by decide))
    exact law_all (k := x3) hm hh hoff hc' hlc hl h3 h4 hsz
/-- A world that meets the condition. -/
noncomputable def start (os : Os) : World :=
  World.laidAll Tryz.prog os Rows.scanPagesRow.laid
theorem start_shaped (os : Os) (args : Array Value) : ((start os).forCall (fun _ _ => 0) ⟨#[], args, []⟩).Shaped Tryz.prog := World.shaped_of_RefB (by kernel_rfl) (by kernel_rfl)
theorem start_ok (os : Os) : Input.okWideB Tryz.prog ((start os).forCall (fun _ _ => 0) ⟨#[], #[.slice none 0 0, .string ⟨#[]⟩, .string ⟨#[]⟩, .int .i64 0], []⟩) 3 ⟨#[], #[.slice none 0 0, .string ⟨#[]⟩, .string ⟨#[]⟩, .int .i64 0], []⟩ = true := by kernel_rfl
set_option maxRecDepth 100000 in
theorem lifted (os : Os) (started : os.Started) (H : Type) (enc : TypeId × Value → H) :
    ReturnsInHanded {} Tryz.checked os 3 .any (fun w args => Rows.scanPagesSpec.pre enc Tryz.prog Tryz.f3 [] false w args ∧ sizedMet enc Tryz.prog Tryz.f3 (OpenSpec.ofChange Rows.scanPagesSpec) false w args)
      (Rows.scanPagesSpec.post enc Tryz.prog Tryz.f3 false true false false) := by
  refine returns_bare (C := Tryz.checked) own started (by kernel_rfl) Tryz.func3
    (let ⟨w, t, i, h1, h2, h3, h4, h5, h6⟩ := ChangeSpec.witness_shaped (enc := enc) (C := Tryz.checked) (os := os) (X := fun _ _ => True) false (start os) #[.slice none 0 0, .string ⟨#[]⟩, .string ⟨#[]⟩, .int .i64 0] 8 (by kernel_rfl) (start_shaped os _) (start_ok os) (by kernel_rfl) (by kernel_rfl) trivial; ⟨w, t, i, h1, h2, h3, h4, ⟨h5.1.1, h5.2⟩, h6⟩) ?_
  intro W base args ds gs before hval0 hW _ hZ hSh
  have hval : ∀ (j : Nat) t v, Tryz.f3.params[j]? = some t → args[j]? = some v → Value.okWide Tryz.prog W .any base t v := hval0
  have hW' := hW
  obtain ⟨p, q, hA0, hV, rfl, hfz, hnd⟩ := hW
  have hA : DataW.TrodAll enc Tryz.prog W 0 (fun _ => true) true Tryz.f3.params.toList args.toList ds p := hA0
  rw [Tryz.params3] at hA hval
  have hAll := hA
  obtain ⟨v0, vs0, d0, ds0, p0, q0, hargs, rfl, rfl, h0, r0⟩ := trodAll_cons hA
  obtain ⟨v1, vs1, d1, ds1, p1, q1, rfl, rfl, rfl, h1, r1⟩ := trodAll_cons r0
  obtain ⟨v2, vs2, d2, ds2, p2, q2, rfl, rfl, rfl, h2, r2⟩ := trodAll_cons r1
  obtain ⟨v3, vs3, d3, ds3, p3, q3, rfl, rfl, rfl, h3, r3⟩ := trodAll_cons r2
  obtain ⟨rfl, rfl, rfl⟩ := trodAll_nil r3
  obtain rfl : args = #[v0, v1, v2, v3] := by cases args; simp_all
  obtain ⟨rfl, rfl⟩ := trodVars_none hV
  have lt0 : ∀ x ∈ p0, x.block < W.heap.size := by obtain ⟨m, hm⟩ := h0; exact DataW.trod_lt m _ _ _ hm
  have lt1 : ∀ x ∈ p1, x.block < W.heap.size := by obtain ⟨m, hm⟩ := h1; exact DataW.trod_lt m _ _ _ hm
  have lt2 : ∀ x ∈ p2, x.block < W.heap.size := by obtain ⟨m, hm⟩ := h2; exact DataW.trod_lt m _ _ _ hm
  have lt3 : ∀ x ∈ p3, x.block < W.heap.size := by obtain ⟨m, hm⟩ := h3; exact DataW.trod_lt m _ _ _ hm
  obtain ⟨a0, l0, c0, rfl⟩ := okWide_slice Tryz.underlying22 (hval 0 22 v0 rfl rfl)
  obtain ⟨x1, rfl⟩ := okWide_string Tryz.underlying9 (hval 1 9 v1 rfl rfl)
  obtain ⟨x2, rfl⟩ := okWide_string Tryz.underlying9 (hval 2 9 v2 rfl rfl)
  obtain ⟨x3, rfl⟩ := okWide_int Tryz.underlying3 (hval 3 3 v3 rfl rfl)
  clear hA0 hval0
  refine (walk a0 l0 c0 x1 x2 x3 W  (rows_of h0 (wts hZ (j := 0) rfl rfl)) (size_of h1 (wts hZ (j := 1) rfl rfl)) (size_of h2 (wts hZ (j := 2) rfl rfl)) (laysCut.s1_3 W hSh)).mono fun e W' ⟨he, bel⟩ => ?_
  subst he
  refine ⟨_, rfl, _, _, _, [], _, [], hW', trodAll_mk1 (shut_bool Tryz.underlying4 _), trodAll_below laidOut bel hAll (by kernel_rfl) ?_, rfl, bel.frame _, fun h => by cases h⟩
  intro x hx
  simp only [List.mem_append, List.not_mem_nil, or_false] at hx
  rcases hx with hx | hx | hx | hx
  · exact lt0 x hx
  · exact lt1 x hx
  · exact lt2 x hx
  · exact lt3 x hx
set_option maxHeartbeats 4000000 in
theorem closed : joinedFacts Tryz.prog 3 Tryz.f3 Rows.scanPagesSpec Rows.scanPagesRow = true := by
  unfold joinedFacts
  repeat' (with_reducible refine and_intro ?_ ?_)
  all_goals as_aux_lemma => kernel_rfl
theorem holds : Rows.ScanPagesSaid :=
  OpenClaim.holds_of_wide 3 Tryz.f3 rfl rfl rfl rfl rfl rfl rfl ⟨rfl, rfl, rfl, rfl, rfl⟩ rfl rfl rfl rfl rfl (by kernel_rfl) Tryz.func3 closed
    (of_decide_eq_true (by kernel_rfl)) (by unfold Func.isWrapper; first | (rw [if_pos (by decide +kernel)]; kernel_rfl) | (rw [if_neg (by decide +kernel)]; exact ⟨rfl, rfl⟩))
    (fun os started H enc _ => lifted os started H enc)
end Go.Proofs.YtjhmpmhkppglnaaGreat.scanPages
