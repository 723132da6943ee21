/- The symbolic executor 'Rx', part YA: the ends of frames. By an AI agent. -/
import Derived.Test.YtiggmgcnjmalfaaGreatDoorRxV
import Derived.Defers
import Derived.Laws.Externs
import Derived.ProofKit
import Derived.OpenShut
import Derived.LaidMore
import Derived.LaidHandle
import Derived.Carry
set_option linter.unusedVariables false
set_option linter.unusedSimpArgs false
namespace Go.Rx
section
variable {E : Env} {ν : Val} {M : Own} {w0 w : World} {s s' : SH} {hid : List Nat}

theorem eq_atR {fr : Frame} (h : fr.mode = .run) : fr = fr.atR ⟨fr.tmps, fr.defers⟩ fr.todo := by
  cases fr; simp only at h; subst h; rfl

/-- What a step comes to. -/
def Out (E : Env) (M : Own) (w0 : World) (cs0 : List Frame) (ν : Val) (ob : Prop) (m : Machine) (Ls : List SM) : Prop :=
  ∃ S' ∈ Ls, S'.mem.ob → ob ∧ ∃ ν' m', ν.Le ν' ∧ Steps E.P m m' ∧ MR E M w0 cs0 ν' S' m'

theorem Out.one {cs0 : List Frame} {ob : Prop} {m : Machine} {S' : SM} (h : S'.mem.ob → ob ∧ ∃ ν' m', ν.Le ν' ∧ Steps E.P m m' ∧ MR E M w0 cs0 ν' S' m') : Out E M w0 cs0 ν ob m [S'] :=
  ⟨S', List.mem_singleton.2 rfl, h⟩

section
variable {F : SF} {fr : Frame} {callers : List SF} {cs cs0 : List Frame} {Ls : List SM} {m : Machine}

theorem MR.to {k : List SI} {k' : List Item} (hr : HR ν M w0 s w) (hg : GR ν E) (hb : FrB ν F fr) (hret : F.ret = false) (ht : TmR ν F.tm fr.tmps) (hc : CallersR E ν M w0 cs0 [] F.kind callers cs) (hk : KsR ν k k') :
    MR E M w0 cs0 ν { top := { F with todo := k }, callers, mem := s } (lone (fr.atR ⟨fr.tmps, fr.defers⟩ k') cs w) :=
  ⟨_, _, w, _, rfl, hr, hg, ⟨⟨hb.fn, hb.defers, hb.kind, hb.ro⟩, fun _ => ⟨rfl, .plain ht hk⟩, fun h => by
    have h : F.ret = true := h
    rw [hret] at h; cases h⟩, hc⟩

theorem exitTo_ok {k : List SI} {k' : List Item} (hk : KsR ν k k') (id : Nat) :
    (∀ x, exitToS id k = some x → ∃ y, exitTo id k' = some y ∧ KsR ν x y) ∧ (exitToS id k = none → exitTo id k' = none) := by
  induction hk with
  | nil => exact ⟨fun x h => (by cases h), fun _ => rfl⟩
  | cons hx hk ih =>
    cases hx with
    | inBlock id' =>
      simp only [exitToS, exitTo]
      cases hb : (id' == id)
      · simp only [cond_false, if_false, Bool.false_eq_true]; exact ih
      · simp only [cond_true, if_true]
        exact ⟨fun x h => by cases h; exact ⟨_, rfl, hk⟩, fun h => by cases h⟩
    | _ => exact ih

theorem gotoIn_ok {k : List SI} {k' : List Item} (hk : KsR ν k k') (l : Nat) :
    (∀ x, gotoInS l k = some x → ∃ y, gotoIn l k' = some y ∧ KsR ν x y) ∧ (gotoInS l k = none → gotoIn l k' = none) := by
  induction hk with
  | nil => exact ⟨fun x h => (by cases h), fun _ => rfl⟩
  | cons hx hk ih =>
    cases hx with
    | inScope body =>
      simp only [gotoInS, gotoIn]
      cases hb : findLabel body l with
      | some rest => exact ⟨fun x h => by cases h; exact ⟨_, rfl, .cons (.code rest) (.cons (.inScope body) hk)⟩, fun h => by cases h⟩
      | none => exact ih
    | _ => exact ih

/-- The end of a frame's code, or a jump out of it. -/
theorem leave_ok {jump : Option Code} (hb : FrB ν F fr) (hret : F.ret = false) (hmode : fr.mode = .run) (ht : TmR ν F.tm fr.tmps) (hr : HR ν M w0 s w) (hg : GR ν E) (hc : CallersR E ν M w0 cs0 [] F.kind callers cs)
    (h : leaveS E F callers s jump = some Ls)
    (hnone : fr.roundOf = none → (jump = none ∨ jump = some .ret) → step E.P m = .next (lone { fr with mode := .returning } cs w))
    (hround : ∀ l v w' c cs', fr.roundOf = some l → fr.kind = .normal → cs = c :: cs' → (Instr.endRound l jump).run E.P w = .ok v w' → step E.P m = .next (lone (c.finish v) cs' w')) :
    Out E M w0 cs0 ν s.ob m Ls := by
  unfold leaveS at h
  have hro := hb.ro
  split at h
  · rename_i e
    rw [e] at hro
    have key : (jump = none ∨ jump = some .ret) → some [({ top := { F with ret := true }, callers, mem := s } : SM)] = some Ls → Out E M w0 cs0 ν s.ob m Ls := by
      intro hj h
      cases h
      exact .one fun ob => ⟨ob, ν, _, Val.Le.refl _, .one (hnone hro hj), ⟨_, _, w, _, rfl, hr, hg, ⟨⟨hb.fn, hb.defers, hb.kind, hb.ro⟩, fun h => (by cases h), fun _ => ⟨rfl, ht⟩⟩, hc⟩⟩
    split at h
    · exact key (.inl rfl) h
    · exact key (.inr rfl) h
    · cases h
  · rename_i i e
    rw [e] at hro
    obtain ⟨b, hbi, hrou⟩ := hro
    split at h
    · rename_i st p fn tm params assign body df hlook
      split at h
      · rename_i c rest
        split at h
        · rename_i hk
          rw [hk] at hc
          cases hc with
          | wait hw htail =>
          rename_i c' cs'
          obtain ⟨_, _, b', o, hb', ho, hor, hown⟩ := hr.look hlook
          rw [hbi] at hb'; cases hb'
          obtain ⟨t, b2, hb2, htm, rfl⟩ := hor
          have hrun : (Instr.endRound b.1 jump).run E.P w = .ok (.bool jump.isNone)
              { w with heap := w.heap.setIfInBounds b.1 (.loop { state := if jump.isNone then .ready else .done, pending := jump, fn, tmps := t, params := params.toArray, assign, body, defers := b2.1 }) } := by
            simp only [Instr.endRound, Sem.run_bind, run_getLoop ho, Result.andThen_ok, run_setObj ho (by intro c e f; exact fun h => by cases h), Sem.run_pure]
          have hr' : HR ν M w0 (s.put i (.loop (if jump.isNone then .ready else .done) jump fn tm params assign body df)) _ := hr.put hlook hbi ⟨t, b2, hb2, htm, rfl⟩ rfl rfl rfl rfl (w' := { w with heap := w.heap.setIfInBounds b.1 (.loop { state := if jump.isNone then .ready else .done, pending := jump, fn, tmps := t, params := params.toArray, assign, body, defers := b2.1 }) })
          obtain ⟨c1, s2, hfin, rfl⟩ := map_finish h
          refine .one fun ob => ?_
          obtain ⟨ob1, hMR⟩ := finish_MR hw hr' hg (VR.v_iff.2 rfl) hfin htail ob
          exact ⟨ob1, ν, _, Val.Le.refl _, .one (hround _ _ _ _ _ hrou (by rw [hb.kind, hk]) rfl hrun), hMR⟩
        · cases h
      · cases h
    · cases h

/-! ### results -/

theorem sLoad_ptr {t : TypeId} {a : SV} {r : SV × SH} (h : sLoad E t a s = some r) : ∃ i off, a = .ptr i off := by
  unfold sLoad at h
  split at h
  · unfold sLoadQ at h
    split at h
    · exact ⟨_, _, rfl⟩
    · cases h
  unfold sLoad0 at h
  split at h
  · exact ⟨_, _, rfl⟩
  · exact ⟨_, _, rfl⟩
  · cases h

def resF (tmps : Array Value) : ResultVar → Sem Value
  | .tmp t => pure (tmps.getD t undef)
  | .cell a t => do loadVar t (← asAddr (tmps.getD a undef))

theorem results_eq (fn : Func) (tmps : Array Value) : results fn tmps = (fn.results.mapM (resF tmps) >>= fun vs => pure (if h : vs.size = 1 then vs[0] else .tuple vs)) := by
  unfold results
  congr 2

theorem results_go {tm : STm} {tmps : Array Value} (ht : TmR ν tm tmps) : ∀ {l : List ResultVar} {s s' : SH} {r : List SV}, HR ν M w0 s w → resultsS.go E tm l s = some (r, s') →
    s.Same s' ∧ (s'.ob → s.ob ∧ ∃ vs, (l.mapM (resF tmps)).run E.P w = .ok vs w ∧ VRL ν r vs)
  | [], s, s', r, hr, h => by
    cases h
    exact ⟨.refl _, fun ob => ⟨ob, [], rfl, VRL.nil⟩⟩
  | .tmp t :: l, s, s', r, hr, h => by
    unfold resultsS.go at h
    cases hg : resultsS.go E tm l s with
    | none => rw [hg] at h; cases h
    | some q =>
    obtain ⟨r1, s1⟩ := q
    rw [hg] at h; cases h
    obtain ⟨hsame, hob⟩ := results_go ht hr hg
    refine ⟨hsame, fun ob => ?_⟩
    obtain ⟨ob0, vs, hrun, hv⟩ := hob ob
    refine ⟨ob0, tmps.getD t undef :: vs, ?_, VRL.cons (ht.at t) hv⟩
    simp only [List.mapM_cons, resF, Sem.run_bind, Sem.run_pure, Result.andThen_ok, hrun]
  | .cell a t :: l, s, s', r, hr, h => by
    unfold resultsS.go at h
    cases hl : sLoad E t (tm.get a) s with
    | none => rw [hl] at h; cases h
    | some q0 =>
    obtain ⟨x, s1⟩ := q0
    rw [hl] at h
    simp only at h
    cases hg : resultsS.go E tm l s1 with
    | none => rw [hg] at h; cases h
    | some q =>
    obtain ⟨r1, s2⟩ := q
    rw [hg] at h; cases h
    have hva := ht.at a
    obtain ⟨i, off, hp⟩ := sLoad_ptr hl
    obtain ⟨hs1, hob1⟩ := sLoad_ok hl hr hva
    obtain ⟨hs2, hob2⟩ := results_go ht (hr.same hs1) hg
    refine ⟨hs1.trans hs2, fun ob => ?_⟩
    obtain ⟨ob1, vs, hrun, hv⟩ := hob2 ob
    obtain ⟨ob0, y, hy, hvy⟩ := hob1 ob1
    refine ⟨ob0, y :: vs, ?_, VRL.cons hvy hv⟩
    rw [hp] at hva
    obtain ⟨b, hb, hpt⟩ := VR.ptr_iff.1 hva
    have hy' : ((do loadVar t (← asAddr (tmps.getD a undef))) : Sem Value).run E.P w = .ok y w := by
      rw [hpt] at hy ⊢
      exact hy
    simp only [List.mapM_cons, resF, Sem.run_bind, Sem.run_pure, Result.andThen_ok, hrun] at hy' ⊢
    rw [hy']; simp only [Result.andThen_ok, hrun]

theorem results_ok {fn : Func} {tm : STm} {tmps : Array Value} {x : SV} (ht : TmR ν tm tmps) (hr : HR ν M w0 s w) (h : resultsS E fn tm s = some (x, s')) :
    s.Same s' ∧ (s'.ob → s.ob ∧ ∃ v, (results fn tmps).run E.P w = .ok v w ∧ VR ν x v) := by
  unfold resultsS at h
  cases hg : resultsS.go E tm fn.results.toList s with
  | none => rw [hg] at h; cases h
  | some q =>
  obtain ⟨l, s1⟩ := q
  rw [hg] at h
  simp only [Option.bind_some] at h
  obtain ⟨hsame, hob⟩ := results_go ht hr hg
  have hres : ∀ vs, (fn.results.toList.mapM (resF tmps)).run E.P w = .ok vs w →
      (results fn tmps).run E.P w = .ok (if h : vs.toArray.size = 1 then vs.toArray[0] else .tuple vs.toArray) w := by
    intro vs hv
    rw [results_eq, Array.mapM_eq_mapM_toList]
    simp only [Sem.run_bind, Sem.run_map, hv, Result.andThen_ok, Sem.run_pure]
  split at h
  · rename_i y
    cases h
    refine ⟨hsame, fun ob => ?_⟩
    obtain ⟨ob0, vs, hrun, hv⟩ := hob ob
    obtain ⟨v, vs', rfl, h1, h2⟩ := hv.cons_inv
    obtain rfl := h2.nil_inv
    exact ⟨ob0, v, by rw [hres _ hrun]; rfl, h1⟩
  · rename_i hne
    cases h
    refine ⟨hsame, fun ob => ?_⟩
    obtain ⟨ob0, vs, hrun, hv⟩ := hob ob
    refine ⟨ob0, .tuple vs.toArray, ?_, VR.tup_iff.2 ⟨vs, rfl, hv⟩⟩
    rw [hres _ hrun, dif_neg]
    intro h1
    have hlen := hv.length
    have h1 : vs.length = 1 := by simpa using h1
    rw [h1] at hlen
    obtain ⟨y, e⟩ := List.length_eq_one_iff.1 hlen.symm
    exact hne y e
end
end
end Go.Rx
set_option linter.unusedVariables false
set_option linter.unusedSimpArgs false
namespace Go.Rx
section
variable {E : Env} {ν : Val} {M : Own} {w0 w : World} {s s' : SH} {hid : List Nat}
variable {F : SF} {fr : Frame} {callers : List SF} {cs cs0 : List Frame} {Ls : List SM} {m : Machine}

theorem DefsR.append : ∀ {l : List SDef} {ds : List Deferred} {m : List SDef} {es : List Deferred}, DefsR ν l ds → DefsR ν m es → DefsR ν (l ++ m) (ds ++ es)
  | [], _, _, _, h, k => by have h : _ = [] := h; rw [h]; exact k
  | _ :: _, _, _, _, ⟨z, zs, e, hz, hs⟩, k => by rw [e]; exact ⟨z, zs ++ _, rfl, hz, DefsR.append hs k⟩

/-- A frame that has run to its end. -/
theorem ret_ok (K : Facts E M w0) (hb : FrB ν F fr) (hret : F.ret = true) (hmode : fr.mode = .returning) (ht : TmR ν F.tm fr.tmps) (hr : HR ν M w0 s w) (hg : GR ν E) (hc : CallersR E ν M w0 cs0 [] F.kind callers cs)
    (h : retS E F callers s = some Ls) : Out E M w0 cs0 ν s.ob (lone fr cs w) Ls := by
  unfold retS at h
  have hd := hb.defers
  split at h
  · -- a deferred call
    rename_i g capt args ds e
    rw [e] at hd
    obtain ⟨z, zs, hfd, ⟨c', a', rfl, hcv, hav⟩, hds⟩ := hd
    cases hG : enterF E g (args ++ capt) .deferred with
    | none => rw [hG] at h; cases h
    | some G =>
    rw [hG] at h
    cases h
    refine .one fun ob => ?_
    obtain ⟨htop, hkind, fn, hfn, hbody⟩ := enterF_ok hG (hav.append hcv) _
    have hcall : (invoke (.fn (.func g) c'.toArray) a'.toArray).run E.P w = .ok (.enter g (a' ++ c').toArray) w := by
      have := run_callFunc (a := (a' ++ c').toArray) (w := w) hfn hbody (K.calls g fn hfn hbody)
      simpa [invoke] using this
    refine ⟨ob, ν, _, Val.Le.refl _, .one (Go.step_defer (by rw [hmode]; exact fun h => (by cases h)) hfd rfl hcall), ⟨_, _, w, _, rfl, hr, hg, htop, ?_⟩⟩
    show CallersR E ν M w0 cs0 [] G.kind ({ F with defers := ds } :: callers) _
    rw [hkind]
    exact .ret ⟨⟨hb.fn, hds, hb.kind, hb.ro⟩, hret, hmode, ht⟩ hc
  · cases h
  · -- the calls that a loop has put off
    rename_i i ds e
    rw [e] at hd
    obtain ⟨z, zs, hfd, ⟨b, hbi, rfl⟩, hds⟩ := hd
    split at h
    · rename_i l hlook
      cases h
      obtain ⟨_, _, b', o, hb', ho, hor, _⟩ := hr.look hlook
      rw [hbi] at hb'; cases hb'
      obtain ⟨es, rfl, hes⟩ := hor
      have hrun : (Instr.takeDeferred b.1).run E.P w = .ok es { w with heap := w.heap.setIfInBounds b.1 (.deferred none) } := by
        simp only [Instr.takeDeferred, Sem.run_bind, run_getObj (P := E.P) ho (by intro c e f; exact fun h => by cases h), Result.andThen_ok, run_setObj (P := E.P) ho (by intro c e f; exact fun h => by cases h), Sem.run_pure]
      have hr' : HR ν M w0 (s.put i (.dfr none)) { w with heap := w.heap.setIfInBounds b.1 (.deferred none) } := hr.put hlook hbi rfl rfl rfl rfl rfl
      have hstep : step E.P (lone fr cs w) = .next (lone { fr with defers := es ++ zs } cs { w with heap := w.heap.setIfInBounds b.1 (.deferred none) }) :=
        step_lone_go (by simp [stepG, unwind, hmode, hfd, Sem.runT_eq, hrun])
      exact .one fun ob => ⟨ob, ν, _, Val.Le.refl _, .one hstep, ⟨_, _, _, _, rfl, hr', hg, ⟨⟨hb.fn, hes.append hds, hb.kind, hb.ro⟩, fun h => (by
        have h : F.ret = false := h
        rw [hret] at h; cases h), fun _ => ⟨hmode, ht⟩⟩, hc⟩⟩
    · cases h
  · -- the end
    rename_i e
    rw [e] at hd
    have hfd : fr.defers = [] := hd
    split at h
    · rename_i fn hfn
      split at h
      · rename_i x s1 hres
        obtain ⟨hsame, hob⟩ := results_ok (E := E) ht hr hres
        unfold returned at h
        split at h
        · rename_i c rest
          split at h
          · rename_i hk
            obtain ⟨c1, s2, hfin, rfl⟩ := map_finish h
            rw [hk] at hc
            cases hc with
            | wait hw htail =>
            refine .one fun ob => ?_
            obtain ⟨ob0, v, hrun, hv⟩ := hob (finish_mono hw hfin ob)
            obtain ⟨_, hMR⟩ := finish_MR hw (hr.same hsame) hg hv hfin htail ob
            exact ⟨ob0, ν, _, Val.Le.refl _, .one (step_leave_returned ⟨hmode, hfd, by rw [hb.kind, hk], fn, by rw [hb.fn]; exact hfn, hrun⟩), hMR⟩
          · rename_i hk
            cases h
            rw [hk] at hc
            cases hc with
            | ret hw htail =>
            rename_i c' cs'
            refine .one fun ob => ?_
            obtain ⟨ob0, v, hrun, hv⟩ := hob ob
            have hstep := step_going_returned (P := E.P) (fr := fr) (c := c') (cs := cs') (w := w) (v := v) (by rw [hb.kind, hk]) ⟨hmode, hfd, fn, by rw [hb.fn]; exact hfn, hrun⟩
            have hset : ({ c' with mode := settle c'.mode } : Frame) = c' := by
              have := hw.mode
              cases c'; simp only at this; subst this; rfl
            rw [hset] at hstep
            exact ⟨ob0, ν, _, Val.Le.refl _, .one hstep, ⟨_, _, w, _, rfl, hr.same hsame, hg, ⟨hw.base, fun h => (by rw [hw.ret] at h; cases h), fun _ => ⟨hw.mode, hw.tm⟩⟩, htail⟩⟩
          · cases h
        · cases h
      · cases h
    · cases h

/-- The machine begins a range over a function. -/
theorem range_does {f : Operand} {params : Array Tmp} {assign body : Code} {k' : List Item} {l : Nat} {mark : List Deferred} {w1 : World} (hmode : fr.mode = .run) (htodo : fr.todo = .code (.rangeFunc f params assign body) :: k')
    (hrun : (Instr.enterLoop fr.fn fr.tmps params assign body fr.roundOf).run E.P w = .ok (l, mark) w1) :
    Does E.P (lone fr cs w) { fr with todo := .inRangeFunc l :: k', defers := mark ++ fr.defers } cs (do let d ← Deferred.ofValue (ev fr.tmps f) #[.func (.yield l) #[] #[]]; invoke d.target d.args) w1 := by
  have hev : fr.eval f = ev fr.tmps f := by cases f <;> rfl
  have hg : (do let d ← resolve ({ fr with todo := .inRangeFunc l :: k', defers := mark ++ fr.defers } : Frame).eval { callee := .value f, args := #[.const (.func (.yield l) #[] #[])], argTypes := #[] } 0; invoke d.target d.args : Sem Next) =
      (do let d ← Deferred.ofValue (ev fr.tmps f) #[.func (.yield l) #[] #[]]; invoke d.target d.args) := by
    have h2 : ({ fr with todo := .inRangeFunc l :: k', defers := mark ++ fr.defers } : Frame).eval = fr.eval := by funext x; cases x <;> rfl
    simp only [resolve, h2, hev]
    simp [Frame.eval]
  have key : (stepG E.P true { frame := fr, callers := cs, status := .running, dying := none } w).bare =
      (stepG.apply E.P true { fr with todo := .inRangeFunc l :: k', defers := mark ++ fr.defers } cs none (do let d ← Deferred.ofValue (ev fr.tmps f) #[.func (.yield l) #[] #[]]; invoke d.target d.args) w1).bare := by
    rw [← hg]
    simp only [stepG, stepG.exec, hmode, htodo, Sem.runT_eq, hrun, GStep.bare_after]
  refine ⟨fun y w' hr => .one (step_lone_go ?_), fun w' hr => .one (step_lone_go ?_), fun g a w' hr => .one (step_lone_go ?_), fun l' g t as bd w' hr => .one (step_lone_go ?_)⟩ <;>
  · rw [key]; simp [stepG.apply, Sem.runT_eq, hr]

theorem range_ok (K : Facts E M w0) {f : Operand} {params : Array Tmp} {assign body : Code} {k : List SI} {k' : List Item} (hb : FrB ν F fr) (hret : F.ret = false) (hmode : fr.mode = .run) (ht : TmR ν F.tm fr.tmps)
    (hk : KsR ν k k') (htodo : fr.todo = .code (.rangeFunc f params assign body) :: k') (hr : HR ν M w0 s w) (hg : GR ν E) (hc : CallersR E ν M w0 cs0 [] F.kind callers cs)
    (h : rangeS E F callers s f params assign body k = some Ls) : Out E M w0 cs0 ν s.ob (lone fr cs w) Ls := by
  have noDefer : ∀ {fv : SV} {args : List SV} {n : SNext}, callFn fv args = some n → ∀ d, n ≠ .defer d := by
    intro fv args n hn d e
    subst e
    unfold callFn at hn
    split at hn <;> cases hn
  unfold rangeS at h
  have hro := hb.ro
  split at h
  · -- a loop in a loop's body
    rename_i l e
    rw [e] at hro
    obtain ⟨bl, hbl, hrou⟩ := hro
    split at h
    · rename_i d wr hlook
      obtain ⟨⟨i, s1⟩, hn, h⟩ := Option.bind_eq_some_iff.1 h
      obtain ⟨n, hcall, h⟩ := Option.bind_eq_some_iff.1 h
      obtain ⟨_, _, b', o, hb', ho, hor, _⟩ := hr.look hlook
      rw [hbl] at hb'; cases hb'
      obtain ⟨t0, bd, hbd, _, rfl⟩ := hor
      obtain ⟨hob, ν', hle, hi, hr'⟩ := sNew_ok hn hr 0 (r := .loop { state := .ready, pending := none, fn := F.fn, tmps := fr.tmps, params, assign, body, defers := bd.1 })
        (fun ν' hle _ => ⟨fr.tmps, bd, hle _ _ hbd, ht.mono hle, by simp⟩)
      have hrun : (Instr.enterLoop fr.fn fr.tmps params assign body fr.roundOf).run E.P w = .ok (w.heap.size, []) { w with heap := w.heap.push (.loop { state := .ready, pending := none, fn := F.fn, tmps := fr.tmps, params, assign, body, defers := bd.1 }) } := by
        rw [hrou, hb.fn]
        simp [Instr.enterLoop, run_getLoop ho]
      have D := range_does (cs := cs) hmode htodo hrun
      have hwait : WaitF E ν' M w0 [] { F with todo := .inRF i :: k } { fr with todo := .inRangeFunc w.heap.size :: k', defers := [] ++ fr.defers } :=
        ⟨⟨hb.fn, hb.defers.mono hle, hb.kind, hb.ro.mono hle⟩, hret, hmode, .plain (ht.mono hle) (.cons (.inRF hi) (hk.mono hle))⟩
      have hgood : s1.ob → s.ob ∧ OpGood E _ ν' M w0 _ n s1 := fun ob => ⟨by rw [← hob]; exact ob,
        callFn_ok (E := E) hcall (((ht.mono hle).opd (hg.mono hle)) f) (VRL.cons (VR.yield_iff.2 ⟨_, hi, rfl⟩) VRL.nil) hr'⟩
      obtain ⟨S', hm, hS⟩ := after_ok K (fun _ => D) hwait (hc.mono hle) (hg.mono hle) h (noDefer hcall) hgood
      exact ⟨S', hm, fun ob => let ⟨o0, ν2, m', hle2, st, mr⟩ := hS ob; ⟨o0, ν2, m', hle.trans hle2, st, mr⟩⟩
    · cases h
  · rename_i e
    rw [e] at hro
    have hrou : fr.roundOf = none := hro
    obtain ⟨⟨d, s1⟩, hn1, h⟩ := Option.bind_eq_some_iff.1 h
    obtain ⟨⟨i, s2⟩, hn2, h⟩ := Option.bind_eq_some_iff.1 h
    obtain ⟨n, hcall, h⟩ := Option.bind_eq_some_iff.1 h
    obtain ⟨hob1, ν1, hle1, hi1, hr1⟩ := sNew_ok hn1 hr 0 (r := .deferred (some [])) (fun ν' hle _ => ⟨[], rfl, rfl⟩)
    obtain ⟨hob2, ν2, hle2, hi2, hr2⟩ := sNew_ok hn2 hr1 0 (r := .loop { state := .ready, pending := none, fn := F.fn, tmps := fr.tmps, params, assign, body, defers := w.heap.size })
      (fun ν' hle _ => ⟨fr.tmps, (w.heap.size, 0), hle _ _ hi1, (ht.mono hle1).mono hle, by simp⟩)
    have hle := hle1.trans hle2
    have hrun : (Instr.enterLoop fr.fn fr.tmps params assign body fr.roundOf).run E.P w = .ok (w.heap.size + 1, [{ target := .collected w.heap.size, args := #[] }])
        { w with heap := (w.heap.push (.deferred (some []))).push (.loop { state := .ready, pending := none, fn := F.fn, tmps := fr.tmps, params, assign, body, defers := w.heap.size }) } := by
      rw [hrou, hb.fn]
      simp [Instr.enterLoop]
      rfl
    have D := range_does (cs := cs) hmode htodo hrun
    have hi2' : ν2 i = some (w.heap.size + 1, 0) := by simpa using hi2
    have hwait : WaitF E ν2 M w0 [] { F with todo := .inRF i :: k, defers := .coll d :: F.defers } { fr with todo := .inRangeFunc (w.heap.size + 1) :: k', defers := [{ target := .collected w.heap.size, args := #[] }] ++ fr.defers } :=
      ⟨⟨hb.fn, ⟨_, _, rfl, ⟨_, hle2 _ _ hi1, rfl⟩, hb.defers.mono hle⟩, hb.kind, hb.ro.mono hle⟩, hret, hmode, .plain (ht.mono hle) (.cons (.inRF hi2') (hk.mono hle))⟩
    have hgood : s2.ob → s.ob ∧ OpGood E _ ν2 M w0 _ n s2 := fun ob => ⟨by rw [← hob1, ← hob2]; exact ob,
      callFn_ok (E := E) hcall (((ht.mono hle).opd (hg.mono hle)) f) (VRL.cons (VR.yield_iff.2 ⟨_, hi2', rfl⟩) VRL.nil) hr2⟩
    obtain ⟨S', hm, hS⟩ := after_ok K (fun _ => D) hwait (hc.mono hle) (hg.mono hle) h (noDefer hcall) hgood
    exact ⟨S', hm, fun ob => let ⟨o0, ν3, m', hle3, st, mr⟩ := hS ob; ⟨o0, ν3, m', hle.trans hle3, st, mr⟩⟩
end
end Go.Rx
set_option linter.unusedVariables false
set_option linter.unusedSimpArgs false
namespace Go.Rx
section
variable {E : Env} {ν : Val} {M : Own} {w0 w : World} {s s' : SH} {hid : List Nat}
variable {F : SF} {fr : Frame} {callers : List SF} {cs cs0 : List Frame} {Ls : List SM} {m : Machine}

/-- An operation whose turn it is. -/
theorem turn_ok (K : Facts E M w0) {b : Frame} {a z : Array Value} {df : List Deferred} {ops : Array Oper} {i : Nat} {rest : List Nat} {k' : List Item} {o : Oper}
    (hf : WaitF E ν M w0 hid F (b.atR ⟨a, df⟩ (.inRegion ops (i :: rest) :: k'))) (ho : ops[i]? = some o) (hz : TmR ν F.tm z) (hev : ∀ x ∈ o.op.operands, ev a x = ev z x)
    (hwz : Region.wanted o (yielded ops a) = Region.wanted o (yielded ops z)) (hc : CallersR E ν M w0 cs0 hid F.kind callers cs) (hr : HR ν M w0 s w) (hg : GR ν E)
    (h : turnS E ops F callers o s = some Ls) : Out E M w0 cs0 ν s.ob (lone (b.atR ⟨a, df⟩ (.inRegion ops (i :: rest) :: k')) cs w) Ls := by
  unfold turnS at h
  split at h
  · rename_i s1 hw
    obtain ⟨hsame, hob⟩ := wanted_ok hw hz
    obtain ⟨L, hop, hj⟩ := Option.bind_eq_some_iff.1 h
    obtain ⟨S', hm, hS⟩ := op_ok K hf ho (fun ob => by rw [hwz, (hob ob).2]) hz hev hop hj hc (hr.same hsame) hg
    exact ⟨S', hm, fun ob => let ⟨o1, r⟩ := hS ob; ⟨(hob o1).1, r⟩⟩
  · rename_i s1 hw
    obtain ⟨hsame, hob⟩ := wanted_ok hw hz
    obtain ⟨F', s2, hfin, rfl⟩ := map_finish h
    refine .one fun ob => ?_
    obtain ⟨ob1, hMR⟩ := finish_MR hf (hr.same hsame) hg (VR.v_iff.2 rfl) hfin hc ob
    obtain ⟨ob0, hwf⟩ := hob ob1
    rw [atR_finish ho] at hMR
    have hs := stepR_op_skip (P := E.P) (b := b) (a := ⟨a, df⟩) (k := k') (cs := cs) (w := w) (ops := ops) (i := i) (rest := rest) (by rw [ho]; simp [hwz, hwf])
    rw [ho] at hs
    exact ⟨ob0, ν, _, Val.Le.refl _, .one hs, hMR⟩
  · cases h

/-- What a step comes to, wherever the blocks are reckoned from. -/
def OutB (E : Env) (M : Own) (w0 : World) (cs0 : List Frame) (ν : Val) (ob : Prop) (m : Machine) (Ls : List SM) : Prop :=
  ∃ S' ∈ Ls, S'.mem.ob → ob ∧ ∃ ν' m' M1 w1, ν.Le ν' ∧ Steps E.P m m' ∧ Base M w0 M1 w1 ∧ MR E M1 w1 cs0 ν' S' m'

theorem Out.base {M1 : Own} {w1 : World} {ob : Prop} (B : Base M w0 M1 w1) (h : Out E M1 w1 cs0 ν ob m Ls) : OutB E M w0 cs0 ν ob m Ls := by
  obtain ⟨S', hS', h⟩ := h
  refine ⟨S', hS', fun o => ?_⟩
  obtain ⟨o1, ν', m', hle, hst, hmr⟩ := h o
  exact ⟨o1, ν', m', M1, w1, hle, hst, B, hmr⟩

theorem nodup_filter_map {l : List (Nat × Nat)} {e B : Nat} (hn : (l.map (·.1)).Nodup) (h2 : (l.map (·.2)).Nodup) (he : (e, B) ∈ l) : ∀ q ∈ l, q.1 ≠ e → q.2 ≠ B := by
  intro q hq hne e2
  obtain ⟨i, hi, hqi⟩ := List.mem_iff_getElem.1 hq
  obtain ⟨j, hj, hej⟩ := List.mem_iff_getElem.1 he
  have : i = j := by
    refine (List.getElem_inj (h₀ := by simpa using hi) (h₁ := by simpa using hj) h2).1 ?_
    simp [hqi, hej, e2]
  subst this
  rw [hqi] at hej
  exact hne (by rw [hej])

theorem drw_ok (K : Facts E M w0) {M1 : Own} {w1 : World} {ops : Array Oper} {rem pend L : List Nat} {lag : List (Nat × Nat)} {z : Array Value} {k : List SI} {k' : List Item} (hB : Base M w0 M1 w1) (hb : FrB ν F fr) (hret : F.ret = false) (hmode : fr.mode = .run) (htodo : fr.todo = .inRegion ops L :: k')
    (hok : edgesOk ops = true) (hn : rem.Nodup) (d : Drw E ν M1 w1 ops rem pend lag L F.tm fr.tmps z) (st : StabS E ν s ops pend z) (hk : KsR ν k k') (hr : HR ν M1 w1 s w) (hg : GR ν E) (hc : CallersR E ν M1 w1 cs0 (lag.map (·.2)) F.kind callers cs)
    (h : drwS E F callers s ops rem pend k = some Ls) : OutB E M w0 cs0 ν s.ob (lone fr cs w) Ls := by
  unfold drwS at h
  dsimp only at h
  split at h
  · -- one goes ahead of its turn
    rename_i i hfind
    have hi := List.mem_of_find?_eq_some hfind
    have hp := List.find?_some hfind
    rw [Bool.and_eq_true, Bool.and_eq_true] at hp
    split at h
    · rename_i o ho
      cases hfr : sFree E ops F.tm o s with
      | none => rw [hfr] at h; cases h
      | some r =>
      obtain ⟨x, s1⟩ := r
      rw [hfr] at h; cases h
      obtain ⟨hsame, hob⟩ := d.float st hi hp.1.1 hp.1.2 ho hfr hr hg
      refine (Out.one fun ob => ?_ : Out E M1 w1 cs0 ν s.ob (lone fr cs w) _).base hB
      obtain ⟨ob0, z', d', st'⟩ := hob ob
      exact ⟨ob0, ν, _, Val.Le.refl _, Steps.refl _ _, ⟨_, _, w, _, rfl, hr.same hsame, hg, ⟨⟨hb.fn, hb.defers, hb.kind, hb.ro⟩, fun _ => ⟨hmode, by rw [htodo]; exact .drw hok (hn.filter _) d' st' hk⟩, fun h => (by
        have h : F.ret = true := h
        rw [hret] at h; cases h)⟩, hc⟩⟩
    · cases h
  · split at h
    · rename_i e hfind
      have he : e ∈ rem := by
        rw [Option.or_eq_some_iff] at hfind
        rcases hfind with h1 | ⟨_, h1⟩ <;> exact List.mem_of_find?_eq_some h1
      revert h
      cases hall : (ready (Region.before ops) rem e && rem.all fun j => Nat.beq j e || ((Region.before ops).getD j 0).testBit e || late E ops (Region.before ops) F.tm.nt j || rem.any fun i => !Nat.beq i j && ((Region.before ops).getD j 0).testBit i && !late E ops (Region.before ops) F.tm.nt i)
      · intro h; cases h
      · intro h
        simp only [cond_true] at h
        rw [Bool.and_eq_true] at hall
        obtain ⟨hready, hall⟩ := hall
        have hready : ∀ j ∈ rem, ((Region.before ops).getD e 0).testBit j = false := fun j hj => by simpa using List.all_eq_true.1 hready j hj
        have hsz : fr.tmps.size = F.tm.nt := by rw [d.size]; exact d.tm.size
        have hun : ∀ j ∈ rem, j = e ∨ ((Region.before ops).getD j 0).testBit e = true ∨ late E ops (Region.before ops) F.tm.nt j = true ∨ (∃ i ∈ rem, i ≠ j ∧ ((Region.before ops).getD j 0).testBit i = true ∧ late E ops (Region.before ops) F.tm.nt i = false) := by
          intro j hj
          have h1 := List.all_eq_true.1 hall j hj
          rw [Bool.or_eq_true, Bool.or_eq_true, Bool.or_eq_true] at h1
          rcases h1 with ((h1 | h1) | h1) | h1
          · exact .inl (Nat.eq_of_beq_eq_true h1)
          · exact .inr (.inl h1)
          · exact .inr (.inr (.inl h1))
          · obtain ⟨i, hi, h2⟩ := List.any_eq_true.1 h1
            rw [Bool.and_eq_true, Bool.and_eq_true] at h2
            refine .inr (.inr (.inr ⟨i, hi, fun e => ?_, h2.1.2, by simpa using h2.2⟩))
            subst e; simp at h2
        split at h
        · rename_i o ho
          have hfr : fr = fr.atR ⟨fr.tmps, fr.defers⟩ (.inRegion ops L :: k') := by rw [← htodo]; exact eq_atR hmode
          by_cases hel : e ∈ lag.map (·.1)
          · -- an allocation that the machine has carried out already
            obtain ⟨q, hq, rfl⟩ := List.mem_map.1 hel
            obtain ⟨e, B⟩ := q
            dsimp only at *
            obtain ⟨o1, t, so, r, g1, g2, g3, g4, g5, g6, g7⟩ := d.lagged _ hq
            rw [ho] at g1; cases g1
            obtain ⟨o2, so2, t2, g8, g9, g10, g11, g12, g13⟩ := late_ok g2
            rw [ho] at g8; cases g8
            obtain ⟨ty, r2, hop, _, _, _, hsop⟩ := lateSO_ok g4
            unfold turnS at h
            have hwant : wanted ops F.tm o E s = some (true, s) := by unfold wanted; rw [g10]
            rw [hwant] at h
            dsimp only at h
            rw [hsop F.tm o s rfl] at h
            cases hnw : sNew so s with
            | none => rw [hnw] at h; cases h
            | some p =>
            obtain ⟨i, s2⟩ := p
            rw [hnw] at h
            simp only [Option.map_some, Option.bind_some, joinM, after] at h
            unfold finish at h
            simp only [ho] at h
            revert h
            cases hu : unnamed ops (pend.filter fun p => !(((Region.before ops).getD e 0).testBit p)) o
            · intro h; cases h
            · intro h
              simp only [cond_true] at h
              have hrm : s.room = true ∧ i = s.nx ∧ s2 = s.new so := by
                unfold sNew at hnw
                cases hroom : s.room
                · rw [hroom] at hnw; cases hnw
                · rw [hroom] at hnw; cases hnw; exact ⟨rfl, rfl, rfl⟩
              obtain ⟨hroom, rfl, rfl⟩ := hrm
              cases hre : recheck E ops (putDst F.tm o (.ptr s.nx 0)) (pend.filter fun p => !(((Region.before ops).getD e 0).testBit p)) (s.new so) with
              | none => rw [hre] at h; cases h
              | some s3 =>
              rw [hre] at h
              simp only [Option.map_some, List.append_nil, Option.some.injEq] at h
              subst h
              obtain ⟨hle, hr2⟩ := hr.show g6 hroom g5
              have hg2 := hg.mono hle
              have hbl := nodup_filter_map d.lagnd hc.nodup hq
              have d2 := d.adopt hle hq ho hu (Val.put_self _ _ _) hbl
              obtain ⟨hsame3, hob3⟩ := recheck_ok hr2 hg2 d2.tm hr2 hre d2.free d2.pure
              have hc2 : CallersR E (ν.put s.nx (B, 0)) (M1.show B) w1 cs0 ((lag.filter fun q => !Nat.beq q.1 e).map (·.2)) F.kind callers cs := by
                refine (hc.mono hle).rebase (fun b hb r' h' => h'.show fun e' => hb (List.mem_map.2 ⟨_, hq, e'.symm⟩)) fun x _ hnd => ?_
                exact hnd.sublist (List.Sublist.append (List.Sublist.map _ List.filter_sublist) (List.Sublist.refl _))
              refine ⟨_, List.mem_singleton.2 rfl, fun ob => ?_⟩
              obtain ⟨ob2, _⟩ := hob3 ob
              exact ⟨ob2, _, _, _, _, hle, Steps.refl _ _, hB.show g6, ⟨_, _, w, _, rfl, hr2.same hsame3, hg2, ⟨⟨hb.fn, hb.defers.mono hle, hb.kind, hb.ro.mono hle⟩, fun _ => ⟨hmode, by
                rw [htodo]
                exact .drw hok (hn.filter _) d2 (fun M' w0' w' hr' => ((recheck_ok (hr'.same hsame3.symm) hg2 d2.tm (hr'.same hsame3.symm) hre d2.free d2.pure).2 ob).2) (hk.mono hle)⟩, fun h => (by
                have h : F.ret = true := h
                rw [hret] at h; cases h)⟩, hc2⟩⟩
          · obtain ⟨a', L', lag', M2, w2, w', hsteps, d2, hr2, hB2, hhid, l0, hl0, hnd0, hge⟩ := Drw.reach hok he hun st hsz d hr hB hel (b := fr) (df := fr.defers) (k := k') (cs := cs)
            have d3 := d2.narrow he
            have hnd : (e :: rem.filter fun j => !Nat.beq j e).Nodup := by
              refine List.nodup_cons.2 ⟨fun hm => ?_, hn.filter _⟩
              have := (List.mem_filter.1 hm).2
              simp at this
            have hnl : NoLag ops lag' e := fun q hq => hready q.1 (d2.lagrem q hq)
            have hwait : WaitF E ν M2 w2 (lag'.map (·.2)) { F with todo := .drw ops (e :: rem.filter fun j => !Nat.beq j e) (pend.filter fun p => !(((Region.before ops).getD e 0).testBit p)) :: k } (fr.atR ⟨a', fr.defers⟩ (.inRegion ops (e :: L') :: k')) :=
              ⟨⟨hb.fn, hb.defers, hb.kind, hb.ro⟩, hret, rfl, .drw hok hnd d3 hnl hk⟩
            have hc2 : CallersR E ν M2 w2 cs0 (lag'.map (·.2)) F.kind callers cs := by
              refine hc.rebase (fun b _ r' h' => hhid b r' h') fun x hx hndx => ?_
              rw [hl0, List.append_assoc, List.nodup_append]
              refine ⟨hnd0, hndx, fun u hu v hv e' => ?_⟩
              have hbig := hge u hu
              have hsmall : ∃ r, Hidden M1 w1 v r := by
                rcases List.mem_append.1 hv with hv | hv
                · obtain ⟨q, hq, rfl⟩ := List.mem_map.1 hv
                  obtain ⟨_, _, _, r, _, _, _, _, _, g, _⟩ := d.lagged q hq
                  exact ⟨r, g⟩
                · exact hx v hv
              obtain ⟨r, hr'⟩ := hsmall
              have := (Array.getElem?_eq_some_iff.1 hr'.1).1
              omega
            obtain ⟨S', hm, hS⟩ := turn_ok (K.rebase hB2) hwait ho d3.tm (d3.opds hnl ho) (d3.wanted hnl ho) hc2 hr2 hg h
            refine ⟨S', hm, fun ob => ?_⟩
            obtain ⟨ob0, ν', m', hle, hst, hMR⟩ := hS ob
            refine ⟨ob0, ν', m', M2, w2, hle, ?_, hB2, hMR⟩
            rw [hfr]
            exact Steps.trans hsteps hst
        · cases h
    · cases h

theorem drw_start {ops : Array Oper} {tm : STm} {a : Array Value} (hok : edgesOk ops = true) (t : Nat) (ht : TmR ν tm a) : Drw E ν M w0 ops (List.range ops.size) [] [] (Region.schedule true ops t) tm a a := by
  have o := schedule_ok hok t
  exact ⟨o.nodup, o.ord, o.irr, fun i hi => (o.all i).1 hi, fun i hi => .inl ((o.all i).2 (List.mem_range.1 hi)), fun i hi => .inl (List.mem_range.2 ((o.all i).1 hi)), fun _ _ h => (by cases h), fun _ h => (by cases h), fun _ h => (by cases h), ht, rfl,
    fun _ _ _ => rfl, fun _ h => (by cases h), fun _ h => (by cases h), fun _ h => (by cases h), fun _ h => (by cases h), fun _ h => (by cases h), List.nodup_nil, fun _ h => (by cases h)⟩

theorem bif_true {α : Type} {b : Bool} {x y : α} (h : b = true) : (bif b then x else y) = x := by rw [h]; rfl
theorem bif_false {α : Type} {b : Bool} {x y : α} (h : b = false) : (bif b then x else y) = y := by rw [h]; rfl

/-- Every step. -/
theorem sStep_ok {M0 : Own} {w00 : World} (K0 : Facts E M0 w00) (B0 : Base M0 w00 M w0) {S : SM} (hm : MR E M w0 cs0 ν S m) (h : sStep E S = some Ls) : OutB E M0 w00 cs0 ν S.mem.ob m Ls := by
  have K := K0.rebase B0
  obtain ⟨F, callers, s⟩ := S
  obtain ⟨fr, cs, w, hid, rfl, hr, hg, ⟨hb, hrun, hret⟩, hc⟩ := hm
  dsimp only at hr hb hrun hret hc
  unfold sStep at h
  dsimp only at h
  cases hF : F.ret
  case true =>
    rw [bif_true hF] at h
    obtain ⟨hmode, ht⟩ := hret hF
    exact (ret_ok K hb hF hmode ht hr hg hc.clear h).base B0
  case false =>
  rw [bif_false hF] at h
  obtain ⟨hmode, hR⟩ := hrun hF
  generalize hxs : F.todo = xs at h hR
  generalize htodo : fr.todo = ys at hR
  have hfr : fr = fr.atR ⟨fr.tmps, fr.defers⟩ ys := by rw [← htodo]; exact eq_atR hmode
  have sw : ∀ {m' : Machine}, step E.P (lone (fr.atR ⟨fr.tmps, fr.defers⟩ ys) cs w) = .next m' → Steps E.P (lone fr cs w) m' := fun h => by rw [← hfr] at h; exact .one h
  cases hR with
  | drw hok hn d st hk =>
    rename_i ops rem pend L lag z k k'
    cases rem with
    | nil =>
      cases h
      refine (Out.one fun ob => ?_ : Out E M w0 cs0 ν s.ob (lone fr cs w) _).base B0
      obtain ⟨a', hsteps, ht⟩ := d.finish_all (st _ _ _ hr) (b := fr) (df := fr.defers) (k := k') (cs := cs)
      rw [← hfr] at hsteps
      refine ⟨ob, ν, _, Val.Le.refl _, hsteps, ⟨_, _, w, _, rfl, hr, hg, ⟨⟨hb.fn, hb.defers, hb.kind, hb.ro⟩, fun _ => ⟨rfl, .plain ht hk⟩, fun h => (by
        have h : F.ret = true := h
        rw [hF] at h; cases h)⟩, hc.clear⟩⟩
    | cons i rem => exact drw_ok K0 B0 hb hF hmode htodo hok hn d st hk hr hg hc h
  | plain ht hk =>
  refine Out.base B0 ?_
  have to : ∀ {k : List SI} {k' : List Item}, step E.P (lone (fr.atR ⟨fr.tmps, fr.defers⟩ ys) cs w) = .next (lone (fr.atR ⟨fr.tmps, fr.defers⟩ k') cs w) → KsR ν k k' →
      some [({ top := { F with todo := k }, callers, mem := s } : SM)] = some Ls → Out E M w0 cs0 ν s.ob (lone fr cs w) Ls := by
    intro k k' hs hk h
    cases h
    exact .one fun ob => ⟨ob, ν, _, Val.Le.refl _, sw hs, MR.to hr hg hb hF ht hc hk⟩
  have leave : ∀ {jump : Option Code}, (fr.roundOf = none → (jump = none ∨ jump = some .ret) → step E.P (lone (fr.atR ⟨fr.tmps, fr.defers⟩ ys) cs w) = .next (lone { fr.atR ⟨fr.tmps, fr.defers⟩ ys with mode := .returning } cs w)) →
      (∀ l v w' c cs', fr.roundOf = some l → fr.kind = .normal → (Instr.endRound l jump).run E.P w = .ok v w' → step E.P (lone (fr.atR ⟨fr.tmps, fr.defers⟩ ys) (c :: cs') w) = .next (lone (c.finish v) cs' w')) →
      leaveS E F callers s jump = some Ls → Out E M w0 cs0 ν s.ob (lone fr cs w) Ls := by
    intro jump h1 h2 h
    refine leave_ok hb hF hmode ht hr hg hc h (fun hro hj => ?_) (fun l v w' c cs' hl hkd hcs hrn => ?_)
    · have := h1 hro hj
      rw [← hfr] at this; exact this
    · subst hcs
      have := h2 l v w' c cs' hl hkd hrn
      rw [← hfr] at this; exact this
  cases hk with
  | nil => exact leave (fun hro _ => stepR_end hro) (fun l v w' c cs' hl hkd hrn => stepR_round_end hl hkd hrn) h
  | cons hx hk =>
    rename_i k k'
    cases hx with
    | inBlock id => exact to stepR_inBlock hk h
    | inLoop c => exact to stepR_inLoop (.cons (.code c) (.cons (.inLoop c) hk)) h
    | inScope c => exact to (step_lone_go (by simp [stepG, stepG.exec, Frame.atR])) hk h
    | reg ops is =>
      cases is with
      | nil => exact to stepR_region_end hk h
      | cons i rest =>
        dsimp only at h
        split at h
        · cases h
        · rename_i o ho
          have hwait : WaitF E ν M w0 [] F (fr.atR ⟨fr.tmps, fr.defers⟩ (.inRegion ops (i :: rest) :: k')) := ⟨⟨hb.fn, hb.defers, hb.kind, hb.ro⟩, hF, rfl, by rw [hxs]; exact .plain ht (.cons (.reg ops _) hk)⟩
          have := turn_ok K hwait ho ht (fun _ _ => rfl) rfl hc hr hg h
          rw [← hfr] at this; exact this
    | inRF e => cases h
    | endRF e =>
      rename_i ie be
      dsimp only at h
      split at h
      · rename_i st jump fn tm params assign body df hlook
        obtain ⟨_, _, b', o, hb', ho, hor, _⟩ := hr.look hlook
        rw [e] at hb'; cases hb'
        obtain ⟨t, b2, hb2, htm, rfl⟩ := hor
        have key : st ≠ .busy → some [({ top := { F with todo := (jump.map SI.code).toList ++ k }, callers, mem := s.put ie (.loop .exhausted jump fn tm params assign body df) } : SM)] = some Ls → Out E M w0 cs0 ν s.ob (lone fr cs w) Ls := by
          intro hst h
          cases h
          have hst' : (st == LoopState.busy) = false := by cases st <;> first | rfl | exact absurd rfl hst
          have hrn : (Instr.endLoop be.1).run E.P w = .ok jump { w with heap := w.heap.setIfInBounds be.1 (.loop { state := .exhausted, pending := jump, fn, tmps := t, params := params.toArray, assign, body, defers := b2.1 }) } := by
            simp only [Instr.endLoop, Sem.run_bind, run_getLoop ho, Result.andThen_ok, hst', Bool.false_eq_true, if_false, run_setObj (P := E.P) ho (by intro c e f; exact fun h => by cases h), Sem.run_pure]
          have hr' := hr.put hlook e (o := .loop .exhausted jump fn tm params assign body df) ⟨t, b2, hb2, htm, rfl⟩ rfl rfl rfl rfl (w' := { w with heap := w.heap.setIfInBounds be.1 (.loop { state := .exhausted, pending := jump, fn, tmps := t, params := params.toArray, assign, body, defers := b2.1 }) })
          have hs : step E.P (lone (fr.atR ⟨fr.tmps, fr.defers⟩ (.endRangeFunc be.1 :: k')) cs w) = .next (lone (fr.atR ⟨fr.tmps, fr.defers⟩ ((jump.map Item.code).toList ++ k')) cs _) :=
            step_lone_go (by simp [stepG, stepG.exec, Frame.atR, Sem.runT_eq, hrn]; rfl)
          have hks : KsR ν ((jump.map SI.code).toList ++ k) ((jump.map Item.code).toList ++ k') := by
            cases jump with
            | none => exact hk
            | some c => exact .cons (.code c) hk
          exact .one fun ob => ⟨ob, ν, _, Val.Le.refl _, sw hs, MR.to hr' hg hb hF ht hc hks⟩
        split at h
        · cases h
        · rename_i hne
          exact key (fun e => hne e) h
      · cases h
    | beginRound =>
      dsimp only at h
      split at h
      · rename_i i hro
        split at h
        · rename_i p fn tm params assign body df hlook
          cases h
          have hro' := hb.ro
          rw [hro] at hro'
          obtain ⟨b, hbi, hrou⟩ := hro'
          obtain ⟨_, _, b', o, hb', ho, hor, _⟩ := hr.look hlook
          rw [hbi] at hb'; cases hb'
          obtain ⟨t, b2, hb2, htm, rfl⟩ := hor
          have hrn : (Instr.beginRound b.1).run E.P w = .ok () { w with heap := w.heap.setIfInBounds b.1 (.loop { state := .busy, pending := p, fn, tmps := t, params := params.toArray, assign, body, defers := b2.1 }) } := by
            simp only [Instr.beginRound, Sem.run_bind, run_getLoop ho, Result.andThen_ok, run_setObj (P := E.P) ho (by intro c e f; exact fun h => by cases h), Sem.run_pure]
          have hr' := hr.put hlook hbi (o := .loop .busy p fn tm params assign body df) ⟨t, b2, hb2, htm, rfl⟩ rfl rfl rfl rfl (w' := { w with heap := w.heap.setIfInBounds b.1 (.loop { state := .busy, pending := p, fn, tmps := t, params := params.toArray, assign, body, defers := b2.1 }) })
          exact .one fun ob => ⟨ob, ν, _, Val.Le.refl _, sw (stepR_beginRound hrou hrn), MR.to hr' hg hb hF ht hc hk⟩
        · cases h
      · cases h
    | code c =>
      cases c with
      | skip => exact to stepR_skip hk h
      | label l => exact to stepR_label hk h
      | seq a b => exact to stepR_seq (.cons (.code a) (.cons (.code b) hk)) h
      | cond c a b =>
        dsimp only at h
        split at h
        · rename_i t hev
          cases h
          obtain ⟨hsame, hob⟩ := SH.dec_ok (s := s) (E := E) (b := t) (t := (s.dec E t).1) (s' := (s.dec E t).2) rfl
          have hv := (ht.opd hg) c
          rw [hev] at hv
          have hv : ev fr.tmps c = .bool t := VR.v_iff.1 hv
          refine .one fun ob => ?_
          obtain ⟨ob0, hb1⟩ := hob ob
          have hs := stepR_cond (P := E.P) (b := fr) (a := ⟨fr.tmps, fr.defers⟩) (k := k') (cs := cs) (w := w) (c := c) (x := a) (y := b) (t := t) (by rw [Act.eval_ev]; exact hv)
          refine ⟨ob0, ν, _, Val.Le.refl _, sw hs, MR.to (hr.same hsame) hg hb hF ht hc ?_⟩
          rw [← hb1]
          cases t
          · exact .cons (.code b) hk
          · exact .cons (.code a) hk
        · cases h
      | block id c => exact to stepR_block (.cons (.code c) (.cons (.inBlock id) hk)) h
      | loop c => exact to stepR_loop (.cons (.code c) (.cons (.inLoop c) hk)) h
      | scope c => exact to (step_lone_go (by simp [stepG, stepG.exec, Frame.atR])) (.cons (.code c) (.cons (.inScope c) hk)) h
      | exit id =>
        dsimp only at h
        obtain ⟨he1, he2⟩ := exitTo_ok hk id
        split at h
        · rename_i k1 hx
          obtain ⟨y, hy, hky⟩ := he1 _ hx
          exact to (stepR_exit hy) hky h
        · rename_i hx
          exact leave (fun _ hj => by rcases hj with hj | hj <;> cases hj) (fun l v w' c cs' hl hkd hrn => stepR_round_exit hl hkd (he2 hx) hrn) h
      | goto l =>
        dsimp only at h
        obtain ⟨he1, he2⟩ := gotoIn_ok hk l
        split at h
        · rename_i k1 hx
          obtain ⟨y, hy, hky⟩ := he1 _ hx
          exact to (stepR_goto hy) hky h
        · rename_i hx
          exact leave (fun _ hj => by rcases hj with hj | hj <;> cases hj) (fun l v w' c cs' hl hkd hrn => stepR_round_goto hl hkd (he2 hx) hrn) h
      | ret => exact leave (fun hro _ => stepR_ret hro) (fun l v w' c cs' hl hkd hrn => stepR_round_ret hl hkd hrn) h
      | rangeFunc f params assign body => exact range_ok K hb hF hmode ht hk htodo hr hg hc h
      | refuse why => cases h
      | region id ops draw =>
        dsimp only at h
        cases draw
        · exact to stepR_region (.cons (.reg ops _) hk) h
        · simp only [cond_true] at h
          cases hok : edgesOk ops
          · rw [hok] at h; cases h
          · rw [hok] at h
            cases h
            have hs := stepR_region_draw (P := E.P) (b := fr) (a := ⟨fr.tmps, fr.defers⟩) (k := k') (cs := cs) (w := w) (ops := ops) (id := id)
            rw [K.mixed] at hs
            exact .one fun ob => ⟨ob, ν, _, Val.Le.refl _, sw hs, ⟨_, _, _, _, rfl, hr.drawn _, hg, ⟨⟨hb.fn, hb.defers, hb.kind, hb.ro⟩, fun _ => ⟨rfl, .drw hok List.nodup_range (drw_start hok _ ht) (fun _ _ _ _ p hp => by cases hp) hk⟩, fun h => (by
              have h : F.ret = true := h
              rw [hF] at h; cases h)⟩, hc⟩⟩

end
end Go.Rx
set_option linter.unusedVariables false
set_option linter.unusedSimpArgs false
namespace Go.Rx
section
variable {E : Env} {ν : Val} {M : Own} {w0 w : World} {s s' : SH} {hid : List Nat}

theorem HR.owed (h : HR ν M w0 s w) (l : List Prop) : HR ν M w0 { s with obl := l } w := ⟨h.full, h.dom, h.fresh, h.obj, h.inj, h.size, h.frame, h.ro, h.os, h.tape, h.output⟩

theorem MR.owed {cs0 : List Frame} {S : SM} {m : Machine} (h : MR E M w0 cs0 ν S m) (l : List Prop) : MR E M w0 cs0 ν { S with mem := { S.mem with obl := l } } m := by
  obtain ⟨fr, cs, w, hl, hm, hr, hg, ⟨h1, h2, h3⟩, hc⟩ := h
  refine ⟨fr, cs, w, hl, hm, hr.owed l, hg, ⟨h1, fun hf => ⟨(h2 hf).1, ?_⟩, h3⟩, hc⟩
  have := (h2 hf).2
  revert this
  generalize S.top.todo = xs
  generalize fr.todo = ys
  intro this
  cases this with
  | plain ht hk => exact .plain ht hk
  | drw hok hn d st hk => exact .drw hok hn d (fun M' w0' w' hr' => st M' w0' w' (hr'.owed S.mem.obl)) hk

theorem step1_form {S : SM} {Ls : List SM} (h : step1 E S = some Ls) : ∃ l, sStep E { S with mem := { S.mem with obl := [] } } = some l ∧ l ≠ [] ∧ Ls = l.map fun T => { T with mem := { T.mem with obl := T.mem.obl ++ S.mem.obl } } := by
  unfold step1 at h
  split at h
  · cases h
  · rename_i T hT; cases h; exact ⟨[T], hT, by simp, rfl⟩
  · rename_i l hn _ hl; cases h; exact ⟨l, hl, fun e => hn e, rfl⟩
  · cases h

theorem step1_mono {S : SM} {Ls : List SM} (h : step1 E S = some Ls) : Ls ≠ [] ∧ ∀ T ∈ Ls, T.mem.ob → S.mem.ob := by
  obtain ⟨l, _, hn, rfl⟩ := step1_form h
  refine ⟨fun e => hn (List.map_eq_nil_iff.1 e), fun T hT ob => ?_⟩
  obtain ⟨U, _, rfl⟩ := List.mem_map.1 hT
  exact (Owed.append ob).2

theorem step1_ok {M0 : Own} {w00 : World} (K : Facts E M0 w00) (B0 : Base M0 w00 M w0) {cs0 : List Frame} {S : SM} {Ls : List SM} {m : Machine} (hm : MR E M w0 cs0 ν S m) (h : step1 E S = some Ls) : OutB E M0 w00 cs0 ν S.mem.ob m Ls := by
  obtain ⟨l, hl, _, rfl⟩ := step1_form h
  obtain ⟨T, hT, hS⟩ := sStep_ok K B0 (hm.owed []) hl
  refine ⟨_, List.mem_map.2 ⟨T, hT, rfl⟩, fun ob => ?_⟩
  obtain ⟨o1, o2⟩ := Owed.append ob
  obtain ⟨_, ν', m', M1, w1, hle, hst, hB, hMR⟩ := hS o1
  exact ⟨o2, ν', m', M1, w1, hle, hst, hB, hMR.owed _⟩

theorem run_mono {stop : SM → Bool} : ∀ {n : Nat} {work done Ls : List SM}, run E stop n work done = some Ls → (∀ S ∈ done, S ∈ Ls) ∧ ∀ S ∈ work, ∃ S' ∈ Ls, S'.mem.ob → S.mem.ob := by
  intro n
  induction n with
  | zero =>
    intro work done Ls h
    cases work with
    | nil => cases h; exact ⟨fun _ hS => hS, fun _ hS => by cases hS⟩
    | cons S work => cases h
  | succ n ih =>
    intro work done Ls h
    cases work with
    | nil => cases h; exact ⟨fun _ hS => hS, fun _ hS => by cases hS⟩
    | cons S work =>
      unfold run at h
      cases hst : stop S
      · rw [hst] at h
        simp only [cond_false] at h
        have key : ∀ {l : List SM}, step1 E S = some l → run E stop n (l ++ work) done = some Ls → (∀ S ∈ done, S ∈ Ls) ∧ ∀ T ∈ S :: work, ∃ S' ∈ Ls, S'.mem.ob → T.mem.ob := by
          intro l hl h
          obtain ⟨h1, h2⟩ := ih h
          refine ⟨h1, fun T hT => ?_⟩
          rcases List.mem_cons.1 hT with rfl | hT
          · obtain ⟨hne, hmono⟩ := step1_mono hl
            obtain ⟨U, l', rfl⟩ := List.exists_cons_of_ne_nil hne
            obtain ⟨S', hS', ho⟩ := h2 U (List.mem_append_left _ List.mem_cons_self)
            exact ⟨S', hS', fun ob => hmono U List.mem_cons_self (ho ob)⟩
          · exact h2 T (List.mem_append_right _ hT)
        split at h
        · cases h
        · rename_i S' hs; exact key hs h
        · rename_i l _ hs; exact key hs h
      · rw [hst] at h
        simp only [cond_true] at h
        obtain ⟨h1, h2⟩ := ih h
        refine ⟨fun T hT => h1 T (List.mem_cons_of_mem _ hT), fun T hT => ?_⟩
        rcases List.mem_cons.1 hT with rfl | hT
        · exact ⟨T, h1 T List.mem_cons_self, id⟩
        · exact h2 T hT

theorem results_go_mono {tm : STm} : ∀ {l : List ResultVar} {s s' : SH} {r : List SV}, resultsS.go E tm l s = some (r, s') → s'.ob → s.ob
  | [], _, _, _, h => by cases h; exact id
  | .tmp t :: l, s, s', r, h => by
    unfold resultsS.go at h
    cases hg : resultsS.go E tm l s with
    | none => rw [hg] at h; cases h
    | some q => obtain ⟨r1, s1⟩ := q; rw [hg] at h; cases h; exact results_go_mono hg
  | .cell a t :: l, s, s', r, h => by
    unfold resultsS.go at h
    cases hl : sLoad E t (tm.get a) s with
    | none => rw [hl] at h; cases h
    | some q0 =>
    obtain ⟨x, s1⟩ := q0
    rw [hl] at h
    simp only at h
    cases hg : resultsS.go E tm l s1 with
    | none => rw [hg] at h; cases h
    | some q => obtain ⟨r1, s2⟩ := q; rw [hg] at h; cases h; exact fun ob => sLoad_mono hl (results_go_mono hg ob)

theorem resultsS_mono {fn : Func} {tm : STm} {x : SV} (h : resultsS E fn tm s = some (x, s')) : s'.ob → s.ob := by
  unfold resultsS at h
  cases hg : resultsS.go E tm fn.results.toList s with
  | none => rw [hg] at h; cases h
  | some q =>
  obtain ⟨l, s1⟩ := q
  rw [hg] at h
  simp only [Option.bind_some] at h
  have := results_go_mono hg
  split at h <;> (cases h; exact this)

/-- What a run comes to. -/
theorem run_ok (K : Facts E M w0) {stop : SM → Bool} {cs0 : List Frame} : ∀ {n : Nat} {work done Ls : List SM}, run E stop n work done = some Ls →
    (∀ S ∈ done, S ∈ Ls) ∧ (∀ S ∈ Ls, S ∈ done ∨ stop S = true) ∧ ∀ S ∈ work, ∀ ν m M1 w1, Base M w0 M1 w1 → MR E M1 w1 cs0 ν S m → ∃ S' ∈ Ls, (S'.mem.ob → S.mem.ob ∧ ∃ ν' m' M2 w2, ν.Le ν' ∧ Steps E.P m m' ∧ Base M w0 M2 w2 ∧ MR E M2 w2 cs0 ν' S' m') := by
  intro n
  induction n with
  | zero =>
    intro work done Ls h
    cases work with
    | nil => cases h; exact ⟨fun _ hS => hS, fun _ hS => .inl hS, fun _ hS => by cases hS⟩
    | cons S work => cases h
  | succ n ih =>
    intro work done Ls h
    cases work with
    | nil => cases h; exact ⟨fun _ hS => hS, fun _ hS => .inl hS, fun _ hS => by cases hS⟩
    | cons S work =>
      unfold run at h
      cases hst : stop S
      · rw [hst] at h
        simp only [cond_false] at h
        have key : ∀ {l : List SM}, step1 E S = some l → run E stop n (l ++ work) done = some Ls →
            (∀ S ∈ done, S ∈ Ls) ∧ (∀ S ∈ Ls, S ∈ done ∨ stop S = true) ∧ ∀ T ∈ S :: work, ∀ ν m M1 w1, Base M w0 M1 w1 → MR E M1 w1 cs0 ν T m → ∃ S' ∈ Ls, (S'.mem.ob → T.mem.ob ∧ ∃ ν' m' M2 w2, ν.Le ν' ∧ Steps E.P m m' ∧ Base M w0 M2 w2 ∧ MR E M2 w2 cs0 ν' S' m') := by
          intro l hl hrun
          obtain ⟨h1, h2, h3⟩ := ih hrun
          refine ⟨h1, h2, fun T hT ν m M1 w1 hB hm => ?_⟩
          rcases List.mem_cons.1 hT with rfl | hT
          · obtain ⟨S1, hS1, hS⟩ := step1_ok K hB hm hl
            by_cases hob : S1.mem.ob
            · obtain ⟨ob0, ν1, m1, M2, w2, hle, hst1, hB2, hm1⟩ := hS hob
              obtain ⟨S', hS', hS2⟩ := h3 S1 (List.mem_append_left _ hS1) ν1 m1 M2 w2 hB2 hm1
              refine ⟨S', hS', fun ob => ?_⟩
              obtain ⟨_, ν2, m2, M3, w3, hle2, hst2, hB3, hm2⟩ := hS2 ob
              exact ⟨ob0, ν2, m2, M3, w3, hle.trans hle2, Steps.trans hst1 hst2, hB3, hm2⟩
            · obtain ⟨S', hS', ho⟩ := (run_mono hrun).2 S1 (List.mem_append_left _ hS1)
              exact ⟨S', hS', fun ob => absurd (ho ob) hob⟩
          · exact h3 T (List.mem_append_right _ hT) ν m M1 w1 hB hm
        split at h
        · cases h
        · rename_i S' hs
          exact key hs h
        · rename_i l _ hs
          exact key hs h
      · rw [hst] at h
        simp only [cond_true] at h
        obtain ⟨h1, h2, h3⟩ := ih h
        refine ⟨fun T hT => h1 T (List.mem_cons_of_mem _ hT), fun T hT => ?_, fun T hT ν m M1 w1 hB hm => ?_⟩
        · rcases h2 T hT with h | h
          · rcases List.mem_cons.1 h with rfl | h
            · exact .inr hst
            · exact .inl h
          · exact .inr h
        · rcases List.mem_cons.1 hT with rfl | hT
          · exact ⟨T, h1 T List.mem_cons_self, fun ob => ⟨ob, ν, m, M1, w1, Val.Le.refl _, Steps.refl _ _, hB, hm⟩⟩
          · exact h3 T hT ν m M1 w1 hB hm

/-- The frame that a call of a function begins with. -/
def enterS (E : Env) (f : FuncId) (args : List SV) (s : SH) : Option SM := (enterF E f args .normal).map fun G => { top := G, callers := [], mem := s }

/-- What is seen of an end: is it one, its value, what is owed. -/
def endS (E : Env) (f : FuncId) (S : SM) : Option (SV × SH) :=
  bif S.over && Nat.beq S.top.fn f then match E.P.funcs[f]? with
    | some fn => resultsS E fn S.top.tm S.mem
    | none => none
  else none

theorem calls_ok (K : Facts E M w0) {f : FuncId} {args : List SV} {a : List Value} {s0 : SH} {S0 : SM} {n : Nat} {Ls : List SM} {R : Ending → World → Prop} (hS0 : enterS E f args s0 = some S0)
    (hrun : run E SM.over n [S0] [] = some Ls) (hr : HR ν M w0 s0 w) (hro : ∀ b, M.r b → b < w0.heap.size) (hh : ∀ b, ¬ M.h b) (hg : GR ν E) (ha : VRL ν args a)
    (hres : ∀ S' ∈ Ls, ∃ x s', endS E f S' = some (x, s') ∧ s'.ob ∧ ∀ ν' w' v, ν.Le ν' → VR ν' x v → HR ν' M w0 s' w' → GR ν' E → R (.returned v) w') :
    Calls E.P f a.toArray w R := by
  intro cs0
  unfold enterS at hS0
  cases hG : enterF E f args .normal with
  | none => rw [hG] at hS0; cases hS0
  | some G =>
  rw [hG] at hS0; cases hS0
  obtain ⟨htop, hkind, _⟩ := enterF_ok (E := E) hG ha _
  have hm : MR E M w0 cs0 ν { top := G, callers := [], mem := s0 } (lone (Frame.enter E.P f a.toArray .normal) cs0 w) :=
    ⟨_, _, w, [], rfl, hr, hg, htop, by show CallersR E ν M w0 cs0 [] G.kind [] cs0; rw [hkind]; exact .nil List.nodup_nil⟩
  obtain ⟨_, _, h3⟩ := run_ok (M := M) (w0 := w0) (cs0 := cs0) K hrun
  obtain ⟨S', hS', hS⟩ := h3 _ (List.mem_singleton.2 rfl) ν _ M w0 (Base.refl hro hh) hm
  obtain ⟨x, s', hend, hob, hR⟩ := hres S' hS'
  unfold endS at hend
  cases hov : (S'.over && Nat.beq S'.top.fn f)
  · rw [hov] at hend; cases hend
  · rw [hov] at hend
    simp only [cond_true] at hend
    rw [Bool.and_eq_true] at hov
    obtain ⟨hov, hfn⟩ := hov
    have hfn := Nat.eq_of_beq_eq_true hfn
    unfold SM.over at hov
    rw [Bool.and_eq_true, Bool.and_eq_true] at hov
    obtain ⟨⟨hcal, hret⟩, hdef⟩ := hov
    split at hend
    · rename_i fn hf
      obtain ⟨ob0, ht⟩ : S'.mem.ob ∧ True := ⟨resultsS_mono hend hob, trivial⟩
      obtain ⟨_, ν', m', M2, w2, hle, hsteps, hB, ⟨fr, cs, w', hl, rfl, hr', hg', htop', hc'⟩⟩ := hS ob0
      obtain ⟨hmode, htm⟩ := htop'.ret hret
      obtain ⟨hsame, hobr⟩ := results_ok (E := E) htm hr' hend
      obtain ⟨_, v, hv, hvr⟩ := hobr hob
      have hcs : S'.callers = [] := List.isEmpty_iff.1 hcal
      rw [hcs] at hc'
      have hk : S'.top.kind = .normal ∧ cs = cs0 := by
        generalize hkk : S'.top.kind = kk at hc'
        cases hc' with
        | nil _ => exact ⟨rfl, rfl⟩
      obtain ⟨hk, rfl⟩ := hk
      have hd := htop'.base.defers
      rw [List.isEmpty_iff.1 hdef] at hd
      refine ⟨.returned v, w', fr, hR ν' w' v hle hvr ((hr'.unbase hB).same hsame) hg', hsteps, by rw [htop'.base.fn]; exact hfn, hmode, hd, by rw [htop'.base.kind]; exact hk, fn, ?_, hv⟩
      rw [htop'.base.fn, hfn]; exact hf
    · cases hend
end
end Go.Rx
set_option linter.unusedVariables false
set_option linter.unusedSimpArgs false
namespace Go.Rx
section
variable {E : Env} {ν : Val} {M : Own} {w0 w : World} {s s' : SH}

/-- What the model does in a body's place. -/
def extFn : ExtK → Option (Array Value → Sem Value)
  | .same => some Extern.AbiNoEscape.same
  | .pure f => some f
  | .makeNoZero ps t => some (Extern.BytealgMakeNoZero.makeNoZero ps #[t])
  | .mapsClone => some Extern.MapsClone.clone
  | .typeOf => some Extern.ReflectliteType.typeOf
  | .valueOf => some fun args => Extern.ReflectliteValue.unpack (args.getD 0 (.tuple #[]))
  | .valType => some (Extern.ReflectliteValue.methodAny (Extern.ReflectliteValue.valueError "reflectlite.Value.Type" 0) fun t _ _ _ => Extern.ReflectliteType.toType t)
  | .valIsNil => some (Extern.ReflectliteValue.method (Extern.ReflectliteValue.valueError "reflectlite.Value.IsNil" 0) Extern.ReflectliteValue.isNil)
  | .valElem => some (Extern.ReflectliteValue.method (Extern.ReflectliteValue.valueError "reflectlite.Value.Elem" 0) Extern.ReflectliteValue.elem)
  | .valSet => some Extern.ReflectliteValue.set

theorem whole_ok : ∀ (x : SV) (y v : Value), whole x = some v → VR ν x y → y = v
  | .v _, _, _, h, hv => by simp only [whole, Option.some.injEq] at h; rw [VR.v_iff.1 hv, h]
  | .iface t x, _, _, h, hv => by
    obtain ⟨z, rfl, hz⟩ := VR.iface_iff.1 hv
    simp only [whole, Option.map_eq_some_iff] at h
    obtain ⟨u, hu, rfl⟩ := h
    rw [whole_ok x z u hu hz]
  | .junk, _, _, h, _ => by simp [whole] at h
  | .ptr _ _, _, _, h, _ => by simp [whole] at h
  | .sl _ _ _ _, _, _, h, _ => by simp [whole] at h
  | .map _, _, _, h, _ => by simp [whole] at h
  | .agg _, _, _, h, _ => by simp [whole] at h
  | .tup _, _, _, h, _ => by simp [whole] at h
  | .func _ _ _, _, _, h, _ => by simp [whole] at h
  | .yield _, _, _, h, _ => by simp [whole] at h

theorem plains_ok : ∀ {l : List SV} {a b : List Value}, plains l = some a → VRL ν l b → b = a
  | [], _, _, h, hv => by cases h; exact hv.nil_inv
  | x :: xs, _, _, h, hv => by
    obtain ⟨y, ys, rfl, hy, hys⟩ := hv.cons_inv
    unfold plains at h
    split at h
    · rename_i u l hu hl
      cases h
      rw [whole_ok x y u hu hy, plains_ok hl hys]
    · cases h

theorem partsAny_eq (h : Value) (a : Addr) (f : Int) (hf : f ≠ 0) : Extern.ReflectliteValue.partsAny (.agg #[h, .pointer (some a), .int .u64 f]) = (do pure (some (← Extern.Rtype.ofHandle h, a, f.toNat))) := by
  match f, hf with
  | .ofNat 0, hf => exact absurd rfl hf
  | .ofNat (n + 1), _ => rfl
  | .negSucc n, _ => rfl

theorem clone_eq (t : TypeId) (r : Nat) : Extern.MapsClone.clone #[.iface t (.map (some r))] = (getObj r >>= fun o => match o with
    | .map entries clock => newObj (.map entries clock) >>= fun r' => pure (.iface t (.map (some r')))
    | _ => stuck "maps.clone: a map expected") := rfl

theorem method_eq (zero : Sem Value) (f : TypeId → Addr → Nat → Nat → Sem Value) (v : Value) : Extern.ReflectliteValue.method zero f #[v] = (Extern.ReflectliteValue.parts v >>= fun p => match p with
    | none => zero
    | some (t, a, fl) => f t a fl (fl % 32)) := rfl

theorem methodAny_eq (zero : Sem Value) (f : TypeId → Addr → Nat → Nat → Sem Value) (v : Value) : Extern.ReflectliteValue.methodAny zero f #[v] = (Extern.ReflectliteValue.partsAny v >>= fun p => match p with
    | none => zero
    | some (t, a, fl) => f t a fl (fl % 32)) := rfl

theorem set_eq (v x : Value) : ∃ g : Option (TypeId × Addr × Nat) → Option (TypeId × Addr × Nat) → Sem Value, Extern.ReflectliteValue.set #[v, x] = (Extern.ReflectliteValue.parts v >>= fun p => Extern.ReflectliteValue.parts x >>= fun q => g p q) ∧
    ∀ dst a fl src b fb, g (some (dst, a, fl)) (some (src, b, fb)) = (do
      if fl / Extern.ReflectliteValue.flagAddr % 2 == 0 then unsupported (.noEntry "extern/(internal/reflectlite.Value).Set.unaddressable")
      let val ← loadVar src b
      if ← Extern.Rtype.directlyAssignable dst src then storeVar dst a val
      else if ← Extern.Rtype.implements dst src then
        if (← Extern.Rtype.kind src) == 20 then
          match val with
          | .nilIface => unsupported (.noEntry "extern/reflectlite: a nil value of one interface type handed on as a value of another")
          | _ => storeVar dst a val
        else storeVar dst a (.iface src val)
      else panicString ("reflectlite.Set: value of type " ++ (← Extern.Rtype.spelt src) ++ " is not assignable to type " ++ (← Extern.Rtype.spelt dst))
      pure (.tuple #[])) := by
  refine ⟨_, rfl, fun dst a fl src b fb => rfl⟩

/-- Where a Value of internal/reflectlite leads. -/
theorem rvParts_ok {x : SV} {y : Value} {r : TypeId × Nat × Nat × Nat} (h : rvParts E x = some r) (hv : VR ν x y) :
    ∃ b, ν r.2.1 = some b ∧ ∀ w, (Extern.ReflectliteValue.partsAny y).run E.P w = .ok (some (r.1, ⟨b.1, r.2.2.1, none⟩, r.2.2.2)) w := by
  unfold rvParts at h
  split at h
  · rename_i hh i off f
    revert h
    cases hf : decide (f = 0)
    · intro h
      simp only [cond_false] at h
      obtain ⟨t, ht, rfl⟩ := Option.map_eq_some_iff.1 h
      obtain ⟨a, rfl, ha⟩ := VR.agg_iff.1 hv
      obtain ⟨y1, ys, rfl, h1, ha⟩ := ha.cons_inv
      obtain ⟨y2, ys, rfl, h2, ha⟩ := ha.cons_inv
      obtain ⟨y3, ys, rfl, h3, ha⟩ := ha.cons_inv
      obtain rfl := ha.nil_inv
      obtain rfl := VR.v_iff.1 h1
      obtain ⟨b, hb, rfl⟩ := VR.ptr_iff.1 h2
      obtain rfl := VR.v_iff.1 h3
      have hf : f ≠ 0 := of_decide_eq_false hf
      refine ⟨b, hb, fun w => ?_⟩
      rw [show ([y1, Value.pointer (some ⟨b.1, off, none⟩), Value.int .u64 f] : List Value).toArray = #[y1, .pointer (some ⟨b.1, off, none⟩), .int .u64 f] from rfl, partsAny_eq _ _ _ hf]
      simp [pureRun_ok ht w]
    · intro h; cases h
  · cases h

theorem rvParts'_ok {x : SV} {y : Value} {r : TypeId × Nat × Nat × Nat} (h : rvParts' E x = some r) (hv : VR ν x y) :
    ∃ b, ν r.2.1 = some b ∧ ∀ w, (Extern.ReflectliteValue.parts y).run E.P w = .ok (some (r.1, ⟨b.1, r.2.2.1, none⟩, r.2.2.2)) w := by
  unfold rvParts' at h
  obtain ⟨q, hq, h⟩ := Option.bind_eq_some_iff.1 h
  obtain ⟨u, hu, rfl⟩ := Option.map_eq_some_iff.1 h
  obtain ⟨b, hb, hrun⟩ := rvParts_ok hq hv
  exact ⟨b, hb, fun w => by simp [Extern.ReflectliteValue.parts, hrun w, pureRun_ok hu w]⟩

theorem rvMake_ok {t : TypeId} {i off fl : Nat} {x : SV} {b : Nat × Nat} (h : rvMake E t i off fl = some x) (hb : ν i = some b) :
    ∃ y, VR ν x y ∧ ∀ w, (Extern.ReflectliteValue.mk t ⟨b.1, off, none⟩ fl).run E.P w = .ok y w := by
  unfold rvMake at h
  obtain ⟨hd, hh, h⟩ := Option.bind_eq_some_iff.1 h
  obtain ⟨k, hk, rfl⟩ := Option.map_eq_some_iff.1 h
  refine ⟨.agg [hd, .pointer (some ⟨b.1, off, none⟩), .int .u64 (Int.ofNat (k + 128 + fl))].toArray, VR.agg_iff.2 ⟨_, rfl, VRL.cons (VR.v_iff.2 rfl) (VRL.cons (VR.ptr_iff.2 ⟨b, hb, rfl⟩) (VRL.cons (VR.v_iff.2 rfl) VRL.nil))⟩, fun w => ?_⟩
  simp [Extern.ReflectliteValue.mk, pureRun_ok hh w, pureRun_ok hk w, Extern.ReflectliteValue.flagIndir]

theorem beq22 {n : Nat} (h : Nat.beq (n % 32) 22 = true) : n % 32 = 22 := Nat.eq_of_beq_eq_true h

/-- What a load through a place comes to. -/
theorem sLoad_at {t : TypeId} {i off : Nat} {x : SV} {b : Nat × Nat} (h : sLoad E t (.ptr i off) s = some (x, s')) (hr : HR ν M w0 s w) (hb : ν i = some b) :
    s.Same s' ∧ (s'.ob → s.ob ∧ ∃ y, (loadVar t ⟨b.1, off, none⟩).run E.P w = .ok y w ∧ VR ν x y) := by
  obtain ⟨h1, h2⟩ := sLoad_ok h hr (VR.ptr_iff.2 ⟨b, hb, rfl⟩)
  refine ⟨h1, fun ob => ?_⟩
  obtain ⟨o, y, hy, hv⟩ := h2 ob
  refine ⟨o, y, ?_, hv⟩
  simpa [Instr.loadAt, Instr.sureAddr] using hy

theorem digits_size : ∀ (n t : Nat) (acc : Array Value), (Extern.BytealgMakeNoZero.digits n t acc).size = acc.size + n
  | 0, _, _ => rfl
  | n + 1, t, acc => by rw [Extern.BytealgMakeNoZero.digits, digits_size n]; simp; omega
theorem junks (ν : Val) : ∀ (n : Nat) (l : List Value), l.length = n → VRL ν (List.replicate n .junk) l
  | 0, l, h => by rw [List.length_eq_zero_iff.1 h]; exact VRL.nil
  | n + 1, y :: l, h => VRL.cons (by rw [VR]; trivial) (junks ν n l (by simpa using h))
  | _ + 1, [], h => by simp at h
def mkTail (n : Int) (elem : TypeId) : Sem Value := do
  if n < 0 || n > 2 ^ 48 then runtimePanic (.error "makeslice: len out of range")
  let cap ← choose (.appendCap n.toNat 0 elem)
  askRoom cap
  let bytes ← choose (.extern "internal/bytealg.MakeNoZero.bytes" 0)
  let a ← newRow elem (Extern.BytealgMakeNoZero.digits cap bytes #[])
  pure (.slice (some a) n.toNat cap)
theorem makeNoZero_eq (ps : Array TypeId) (t : TypeId) (n : Int) : ∃ g : TypeDesc → Sem Value, Extern.BytealgMakeNoZero.makeNoZero ps #[t] #[.int .i64 n] = (underlying t >>= g) ∧ ∀ e, g (.slice e) = mkTail n e := ⟨_, rfl, fun _ => rfl⟩
theorem makeNoZero_ok {ps : Array TypeId} {t elem : TypeId} {n : Int} {i : Nat} {s1 : SH} (ht : tdesc E t = some (.slice elem)) (hn : 0 ≤ n ∧ n ≤ 2 ^ 40)
    (h : sNew (.row (List.replicate n.toNat .junk) elem (0, 0) (some 1)) s = some (i, s1)) (hr : HR ν M w0 s w) :
    ∃ ν' w' y, ν.Le ν' ∧ (Extern.BytealgMakeNoZero.makeNoZero ps #[t] #[.int .i64 n]).run E.P w = .ok y w' ∧ VR ν' (.sl i 0 n.toNat none) y ∧ HR ν' M w0 s1 w' ∧ s1.ob = s.ob := by
  generalize hcap : (Question.appendCap n.toNat 0 elem).cut (w.tape w.drawn (.appendCap n.toNat 0 elem)) = cap
  have hle : n.toNat ≤ cap := by rw [← hcap]; simp [Question.cut]
  have hch : (choose (.appendCap n.toNat 0 elem)).run E.P w = .ok cap { w with drawn := w.drawn + 1 } := by
    rw [run_choose, show (Question.appendCap n.toNat 0 elem).forced = false from rfl, hcap]; rfl
  have hch2 : ∃ b k, (choose (.extern "internal/bytealg.MakeNoZero.bytes" 0)).run E.P { w with drawn := w.drawn + 1 } = .ok b { w with drawn := k } := by
    rw [run_choose]
    cases (Question.extern "internal/bytealg.MakeNoZero.bytes" 0).forced
    · exact ⟨_, w.drawn + 2, rfl⟩
    · exact ⟨_, w.drawn + 1, rfl⟩
  obtain ⟨bs, k, hch2⟩ := hch2
  generalize hd : Extern.BytealgMakeNoZero.digits cap bs #[] = ds
  have hds : ds.size = cap := by rw [← hd, digits_size]; simp
  have hlen : ds.toList.length = cap := by simpa using hds
  obtain ⟨hob, ν', hle', hi, hr'⟩ := sNew_ok h (hr.drawn k) cap (r := .cells ds elem)
    (fun ν' hle' hi' => ⟨ds.toList.take n.toNat, ds.toList.drop n.toNat, by rw [List.take_append_drop]; simp, junks ν' n.toNat _ (by rw [List.length_take]; omega), by
      rw [List.take_append_drop, List.length_replicate]
      refine ⟨by omega, _, hi', by simpa using hlen⟩⟩)
  refine ⟨ν', _, _, hle', ?_, VR.sl_iff.2 ⟨_, hi, by simpa using hle, rfl⟩, hr', hob⟩
  have hneg : ¬ (n < 0 ∨ n > 2 ^ 48) := by omega
  obtain ⟨g, hg1, hg2⟩ := makeNoZero_eq ps t n
  rw [hg1]
  simp only [Sem.run_bind, run_underlying ht, Result.andThen_ok, hg2]
  unfold mkTail
  rw [if_neg (by simp; omega)]
  simp only [Sem.run_bind, Sem.run_pure, hch, hch2, Result.andThen_ok, run_askRoom, hd, newRow, run_newObj]
  rfl
theorem sExt_ok {k : ExtK} {e : Array Value → Sem Value} (he : extFn k = some e) {args : List SV} {x : SV} {a : List Value} (h : sExt E k args s = some (x, s')) (hr : HR ν M w0 s w) (ha : VRL ν args a) (ob : s'.ob) :
    ∃ ν' w' y, ν.Le ν' ∧ (e a.toArray).run E.P w = .ok y w' ∧ VR ν' x y ∧ HR ν' M w0 s' w' := by
  unfold sExt at h
  split at h
  · -- same
    cases he
    cases h
    obtain ⟨y, ys, rfl, hy, hys⟩ := ha.cons_inv
    obtain rfl := hys.nil_inv
    exact ⟨ν, w, y, Val.Le.refl _, rfl, hy, hr⟩
  · -- pure
    cases he
    obtain ⟨l, hl, h⟩ := Option.bind_eq_some_iff.1 h
    obtain ⟨y, hy, h⟩ := Option.map_eq_some_iff.1 h
    cases h
    rw [plains_ok hl ha]
    exact ⟨ν, w, y, Val.Le.refl _, pureRun_ok hy w, VR.lift y, hr⟩
  · -- MakeNoZero
    cases he
    obtain ⟨y, ys, rfl, hy, hys⟩ := ha.cons_inv
    obtain rfl := hys.nil_inv
    obtain rfl := VR.v_iff.1 hy
    split at h
    · rename_i elem ht
      rename_i n _
      cases hd : decide (0 ≤ n ∧ n ≤ (2 : Int) ^ 40)
      · rw [hd] at h; cases h
      · rw [hd] at h
        simp only [cond_true] at h
        obtain ⟨⟨i, s1⟩, h1, h⟩ := Option.map_eq_some_iff.1 h
        cases h
        obtain ⟨ν', w', y, g1, g2, g3, g4, _⟩ := makeNoZero_ok (E := E) ht (of_decide_eq_true hd) h1 hr
        exact ⟨ν', w', y, g1, g2, g3, g4⟩
    · cases h
  · -- maps.clone
    cases he
    rename_i t i
    obtain ⟨y, ys, rfl, hy, hys⟩ := ha.cons_inv
    obtain rfl := hys.nil_inv
    obtain ⟨v, rfl, hv⟩ := VR.iface_iff.1 hy
    obtain ⟨b, hb, rfl⟩ := VR.map_iff.1 hv
    split at h
    · rename_i es clock wr hlook
      obtain ⟨⟨j, s1⟩, hn, h⟩ := Option.map_eq_some_iff.1 h
      cases h
      obtain ⟨_, _, b', o, hb', ho, hor, _⟩ := hr.look hlook
      rw [hb] at hb'; cases hb'
      obtain ⟨l, rfl, hl⟩ := hor
      obtain ⟨_, ν', hle, hi, hr'⟩ := sNew_ok hn hr 0 (r := .map l.toArray clock) (fun ν' hle _ => ⟨l, rfl, hl.mono hle⟩)
      refine ⟨ν', _, .iface t (.map (some w.heap.size)), hle, ?_, VR.iface_iff.2 ⟨_, rfl, VR.map_iff.2 ⟨_, hi, rfl⟩⟩, hr'⟩
      rw [show ([Value.iface t (.map (some b.1))] : List Value).toArray = #[.iface t (.map (some b.1))] from rfl, clone_eq]
      simp [run_getObj (P := E.P) ho (by intro c e f; exact fun h => by cases h)]
    · cases h
  · -- TypeOf
    cases he
    obtain ⟨y, ys, rfl, hy, hys⟩ := ha.cons_inv
    obtain rfl := hys.nil_inv
    obtain ⟨v, rfl, hv⟩ := VR.iface_iff.1 hy
    obtain ⟨y, hy, h⟩ := Option.map_eq_some_iff.1 h
    cases h
    exact ⟨ν, w, y, Val.Le.refl _, pureRun_ok hy w, VR.lift y, hr⟩
  · cases he
    obtain ⟨y, ys, rfl, hy, hys⟩ := ha.cons_inv
    obtain rfl := hys.nil_inv
    obtain rfl := VR.v_iff.1 hy
    cases h
    exact ⟨ν, w, _, Val.Le.refl _, rfl, VR.v_iff.2 rfl, hr⟩
  · -- ValueOf
    cases he
    rename_i t x0
    obtain ⟨y, ys, rfl, hy, hys⟩ := ha.cons_inv
    obtain rfl := hys.nil_inv
    obtain ⟨v, rfl, hv⟩ := VR.iface_iff.1 hy
    unfold sValueOf at h
    obtain ⟨⟨p, s1⟩, hp, h⟩ := Option.bind_eq_some_iff.1 h
    obtain ⟨_, ν', w', pv, hle, hrun, hpv, hr'⟩ := sBox_ok (E := E) hp hr hv
    dsimp only at h
    split at h
    · rename_i i
      obtain ⟨x1, hx1, h⟩ := Option.map_eq_some_iff.1 h
      cases h
      obtain ⟨b, hb, rfl⟩ := VR.ptr_iff.1 hpv
      obtain ⟨y, hy, hmk⟩ := rvMake_ok hx1 hb
      refine ⟨ν', w', y, hle, ?_, hy, hr'⟩
      have hbox : ∃ ad : Addr, (newVar t v).run E.P w = .ok ad w' ∧ Value.pointer (some ad) = .pointer (some ⟨b.1, 0, none⟩) := by
        simp only [Instr.box, Sem.run_bind] at hrun
        cases hnv : (newVar t v).run E.P w with
        | ok ad w2 =>
          rw [hnv] at hrun
          simp only [Result.andThen_ok, Sem.run_pure, Result.ok.injEq] at hrun
          obtain ⟨h1, rfl⟩ := hrun
          exact ⟨ad, rfl, h1⟩
        | _ => rw [hnv] at hrun; cases hrun
      obtain ⟨ad, hnv, had⟩ := hbox
      cases had
      simp [Extern.ReflectliteValue.unpack, hnv, hmk]
    · cases h
  · -- Value.Type
    cases he
    obtain ⟨y, ys, rfl, hy, hys⟩ := ha.cons_inv
    obtain rfl := hys.nil_inv
    obtain ⟨r, hr1, h⟩ := Option.bind_eq_some_iff.1 h
    obtain ⟨z, hz, h⟩ := Option.map_eq_some_iff.1 h
    cases h
    obtain ⟨b, hb, hp⟩ := rvParts_ok hr1 hy
    refine ⟨ν, w, z, Val.Le.refl _, ?_, VR.lift z, hr⟩
    rw [show ([y] : List Value).toArray = #[y] from rfl, methodAny_eq]
    simp [hp w, pureRun_ok hz w]
  · -- Value.IsNil
    cases he
    obtain ⟨y, ys, rfl, hy, hys⟩ := ha.cons_inv
    obtain rfl := hys.nil_inv
    obtain ⟨r, hr1, h⟩ := Option.bind_eq_some_iff.1 h
    obtain ⟨b, hb, hp⟩ := rvParts'_ok hr1 hy
    unfold sIsNil at h
    revert h
    cases hk : Nat.beq (r.2.2.2 % 32) 22
    · intro h; cases h
    · intro h
      simp only [cond_true] at h
      have hk := beq22 hk
      obtain ⟨⟨p, s1⟩, hl, h⟩ := Option.bind_eq_some_iff.1 h
      obtain ⟨hsame, hob⟩ := sLoad_at hl hr hb
      dsimp only at h
      split at h
      · cases h
        obtain ⟨_, y1, hy1, hv1⟩ := hob ob
        obtain ⟨c, _, rfl⟩ := VR.ptr_iff.1 hv1
        refine ⟨ν, w, .bool false, Val.Le.refl _, ?_, VR.v_iff.2 rfl, hr.same hsame⟩
        rw [show ([y] : List Value).toArray = #[y] from rfl, method_eq]
        simp [hp w, Extern.ReflectliteValue.isNil, hk, hy1]
      · cases h
        obtain ⟨_, y1, hy1, hv1⟩ := hob ob
        obtain rfl := VR.v_iff.1 hv1
        refine ⟨ν, w, .bool true, Val.Le.refl _, ?_, VR.v_iff.2 rfl, hr.same hsame⟩
        rw [show ([y] : List Value).toArray = #[y] from rfl, method_eq]
        simp [hp w, Extern.ReflectliteValue.isNil, hk, hy1]
      · cases h
  · -- Value.Elem
    cases he
    obtain ⟨y, ys, rfl, hy, hys⟩ := ha.cons_inv
    obtain rfl := hys.nil_inv
    obtain ⟨r, hr1, h⟩ := Option.bind_eq_some_iff.1 h
    obtain ⟨b, hb, hp⟩ := rvParts'_ok hr1 hy
    unfold sRElem at h
    revert h
    cases hk : Nat.beq (r.2.2.2 % 32) 22
    · intro h; cases h
    · intro h
      simp only [cond_true] at h
      have hk := beq22 hk
      cases hoe : pureRun E.P (Extern.Rtype.elem? r.1) with
      | none => rw [hoe] at h; cases h
      | some oe =>
      rw [hoe] at h
      cases oe with
      | none => cases h
      | some e =>
      simp only [Option.bind_some] at h
      obtain ⟨⟨p, s1⟩, hl, h⟩ := Option.bind_eq_some_iff.1 h
      obtain ⟨hsame, hob⟩ := sLoad_at hl hr hb
      dsimp only at h
      split at h
      · rename_i j o
        obtain ⟨x1, hx1, h⟩ := Option.map_eq_some_iff.1 h
        cases h
        obtain ⟨_, y1, hy1, hv1⟩ := hob ob
        obtain ⟨c, hc, rfl⟩ := VR.ptr_iff.1 hv1
        obtain ⟨y2, hy2, hmk⟩ := rvMake_ok hx1 hc
        refine ⟨ν, w, y2, Val.Le.refl _, ?_, hy2, hr.same hsame⟩
        rw [show ([y] : List Value).toArray = #[y] from rfl, method_eq]
        simp [hp w, Extern.ReflectliteValue.elem, hk, hy1, pureRun_ok hoe w, Extern.ReflectliteValue.flagAddr, hmk w]
      · cases h
  · -- Value.Set
    cases he
    obtain ⟨y, ys, rfl, hy, hys⟩ := ha.cons_inv
    obtain ⟨y2, ys, rfl, hy2, hys⟩ := hys.cons_inv
    obtain rfl := hys.nil_inv
    obtain ⟨r, hr1, h⟩ := Option.bind_eq_some_iff.1 h
    obtain ⟨q, hq1, h⟩ := Option.bind_eq_some_iff.1 h
    obtain ⟨b, hb, hp⟩ := rvParts'_ok hr1 hy
    obtain ⟨c, hc, hpq⟩ := rvParts'_ok hq1 hy2
    unfold sRSet at h
    revert h
    cases hk : Nat.beq (r.2.2.2 / 256 % 2) 0
    · intro h
      simp only [cond_false] at h
      have hk : r.2.2.2 / 256 % 2 ≠ 0 := fun e => by rw [e] at hk; cases hk
      obtain ⟨⟨p, s1⟩, hl, h⟩ := Option.bind_eq_some_iff.1 h
      obtain ⟨hsame, hob⟩ := sLoad_at hl hr hc
      obtain ⟨d, hd, h⟩ := Option.bind_eq_some_iff.1 h
      cases d
      · cases h
      · obtain ⟨s2, hst, h⟩ := Option.map_eq_some_iff.1 h
        cases h
        have ob1 : s1.ob := sStore_ob hst ob
        obtain ⟨_, y1, hy1, hv1⟩ := hob ob1
        obtain ⟨_, hgood⟩ := sStore_ok hst (hr.same hsame) (VR.ptr_iff.2 ⟨b, hb, rfl⟩ : VR ν (.ptr r.2.1 r.2.2.1) _) hv1 ob
        obtain ⟨ν', w', hle, hrun, hr'⟩ := hgood
        refine ⟨ν', w', .tuple #[], hle, ?_, VR.v_iff.2 rfl, hr'⟩
        have hrun : (storeVar r.1 ⟨b.1, r.2.2.1, none⟩ y1).run E.P w = .ok () w' := by
          simpa [Instr.storeAt, Instr.sureAddr] using hrun
        obtain ⟨g, hg1, hg2⟩ := set_eq y y2
        rw [show ([y, y2] : List Value).toArray = #[y, y2] from rfl, hg1]
        simp [hp w, hpq w, hg2, Extern.ReflectliteValue.flagAddr, hk, hy1, pureRun_ok hd w, hrun]
    · intro h; cases h
  · cases h

/-- The functions without a body, one by one. -/
def ExtRow (P : Program) (r : FuncId × ExtK) : Prop :=
  ∃ fn e, P.funcs[r.1]? = some fn ∧ (fn.name == "runtime.NumGoroutine") = false ∧ fn.body.isNone = true ∧ Extern.findNext fn = none ∧ extFn r.2 = some e ∧ Extern.find fn = some e

theorem ExtOK.of (l : List (FuncId × ExtK)) (hE : E.ext = fun f => l.lookup f) (h : ∀ r ∈ l, ExtRow E.P r) : ExtOK E := by
  intro f k hk args x s s' hx ν M w0 w a hr ha ob
  refine ⟨sExt_mono hx ob, ?_⟩
  rw [hE] at hk
  have hm : (f, k) ∈ l := by
    have : ∀ (l : List (FuncId × ExtK)), l.lookup f = some k → (f, k) ∈ l := by
      intro l
      induction l with
      | nil => intro h; cases h
      | cons r l ih =>
        intro h
        obtain ⟨g, k'⟩ := r
        rw [List.lookup_cons] at h
        split at h
        · rename_i e
          cases h
          have e : f = g := by simpa using e
          rw [e]; exact List.mem_cons_self
        · exact List.mem_cons_of_mem _ (ih h)
    exact this l hk
  obtain ⟨fn, e, h1, h2, h3, h4, h5, h6⟩ := h _ hm
  obtain ⟨ν', w', y, hle, hrun, hv, hr'⟩ := sExt_ok h5 hx hr ha ob
  exact ⟨ν', w', y, hle, by rw [run_callFunc_extern h1 h2 h3 h4 h6, hrun]; rfl, hv, hr'⟩

end
end Go.Rx
set_option linter.unusedVariables false
set_option linter.unusedSimpArgs false
namespace Go.Rx
open Go.RowKit (Below)
section
variable {E : Env} {ν : Val} {M : Own} {w0 w : World} {s s' : SH}

/-! ### the memory in which a call begins: package variables that are told -/

def layGo (T : Tr (Option (SO × Bool))) (i : Nat) : List (Nat × List SV) → Tr (Option (SO × Bool))
  | [] => T
  | x :: xs => layGo (T.set i (some (.look x.2, false))) (i + 1) xs

def laidMem (d : Nat) (l : List (Nat × List SV)) : SH := { d, H := layGo (Tr.mk none d) 0 l, nx := l.length, obl := [], dc := 0 }

theorem layGo_ok (d : Nat) : ∀ (l : List (Nat × List SV)) (i : Nat) (T : Tr (Option (SO × Bool))), Tr.Full d T → i + l.length ≤ 2 ^ d →
    Tr.Full d (layGo T i l) ∧ ∀ t, t < 2 ^ d → (layGo T i l).get t = if i ≤ t then ((l[t - i]?).map fun x => some (SO.look x.2, false)).getD (T.get t) else T.get t
  | [], i, T, h, _ => ⟨h, fun t _ => by simp [layGo]⟩
  | x :: xs, i, T, h, hl => by
    simp only [List.length_cons] at hl
    obtain ⟨h1, h2⟩ := layGo_ok d xs (i + 1) (T.set i (some (.look x.2, false))) (h.set _ _) (by omega)
    refine ⟨h1, fun t ht => ?_⟩
    rw [layGo, h2 t ht, Tr.get_set h (by omega) ht]
    by_cases e1 : i + 1 ≤ t
    · rw [if_pos e1, if_neg (show ¬ t = i by omega), if_pos (show i ≤ t by omega)]
      have : t - i = (t - (i + 1)) + 1 := by omega
      rw [this, List.getElem?_cons_succ]
    · rw [if_neg e1]
      by_cases e2 : t = i
      · subst e2; simp
      · rw [if_neg e2, if_neg (show ¬ i ≤ t by omega)]

/-- A package variable holds what is told of it. -/
def Told (w : World) (r : Nat × List SV) : Prop :=
  ∃ (ys : List Value) (c : Array Value) (e : TypeId) (fz : Nat × Nat), w.heap[r.1]? = some (.cells c e fz) ∧ (∀ ν, VRL ν r.2 ys) ∧ ∀ (k : Nat) (y : Value), ys[k]? = some y → c[k]? = some y

def laidVal (l : List (Nat × List SV)) : Val := fun i => (l[i]?).map fun x => (x.1, 0)
def laidOwn (l : List (Nat × List SV)) : Own := Own.just fun b => ∃ r ∈ l, r.1 = b

theorem laid_HR {d : Nat} {l : List (Nat × List SV)} (hd : l.length ≤ 2 ^ d) (hn : (l.map (·.1)).Nodup) (ht : ∀ r ∈ l, Told w r) : HR (laidVal l) (laidOwn l) w (laidMem d l) w := by
  obtain ⟨hf, hg⟩ := layGo_ok d l 0 (Tr.mk none d) (Tr.full_mk _ _) (by omega)
  have hget : ∀ t, t < 2 ^ d → (laidMem d l).H.get t = (l[t]?).map fun x => (SO.look x.2, false) := by
    intro t ht
    show (layGo (Tr.mk none d) 0 l).get t = _
    rw [hg t ht, if_pos (Nat.zero_le _), Tr.get_mk, Nat.sub_zero]
    cases l[t]? <;> rfl
  have hx : ∀ i, i < 2 ^ d → ∀ x, (laidMem d l).H.get i = some x → ∃ r, l[i]? = some r ∧ r ∈ l ∧ x = (SO.look r.2, false) := by
    intro i hi x hx
    rw [hget i hi] at hx
    obtain ⟨r, hr, rfl⟩ := Option.map_eq_some_iff.1 hx
    exact ⟨r, hr, List.mem_of_getElem? hr, rfl⟩
  refine ⟨hf, fun i hi => ?_, fun i hi => ?_, fun i hi x hxx => ?_, fun i j hi hj hgi hgj b c hb hc e => ?_, Nat.le_refl _, fun _ _ _ => rfl, fun i hi x hxx _ b hb => ?_, rfl, rfl, rfl⟩
  · have hi : 2 ^ d ≤ i := hi
    simp only [laidVal]; rw [List.getElem?_eq_none (by omega)]; rfl
  · have hi : l.length ≤ i := hi
    simp only [laidVal]; rw [List.getElem?_eq_none hi]; rfl
  · obtain ⟨r, hr, hm, rfl⟩ := hx i hi x hxx
    obtain ⟨ys, c, e, fz, h1, h2, h3⟩ := ht r hm
    exact ⟨(r.1, 0), _, by simp [laidVal, hr], h1, ⟨ys, c, e, fz, rfl, h2 _, h3⟩, fun h => by cases h⟩
  · simp only [laidVal, Option.map_eq_some_iff] at hb hc
    obtain ⟨r, hr, rfl⟩ := hb
    obtain ⟨q, hq, rfl⟩ := hc
    obtain ⟨hi', hr⟩ := List.getElem?_eq_some_iff.1 hr
    obtain ⟨hj', hq⟩ := List.getElem?_eq_some_iff.1 hq
    refine (List.getElem_inj (h₀ := by simpa using hi') (h₁ := by simpa using hj') hn).1 ?_
    simp only [List.getElem_map, hr, hq]; exact e
  · obtain ⟨r, hr, hm, rfl⟩ := hx i hi x hxx
    simp only [laidVal, hr, Option.map_some, Option.some.injEq] at hb
    subst hb
    exact ⟨r, hm, rfl⟩

theorem laid_GR {l : List (Nat × List SV)} (hG : E.G = (l.map (·.1)).zipIdx) : GR (laidVal l) E := by
  intro g i h
  rw [hG] at h
  have hm : (g, i) ∈ (l.map (·.1)).zipIdx := by
    have : ∀ (l : List (Nat × Nat)), l.lookup g = some i → (g, i) ∈ l := by
      intro l
      induction l with
      | nil => intro h; cases h
      | cons r l ih =>
        intro h
        obtain ⟨g', k'⟩ := r
        rw [List.lookup_cons] at h
        split at h
        · rename_i e
          cases h
          have e : g = g' := by simpa using e
          rw [e]; exact List.mem_cons_self
        · exact List.mem_cons_of_mem _ (ih h)
    exact this _ h
  have := List.mem_zipIdx hm
  obtain ⟨_, hlt, e⟩ := this
  simp only [Nat.zero_add, List.length_map] at hlt
  refine ⟨0, ?_⟩
  simp only [laidVal]
  have hi : i < l.length := by simpa using hlt
  rw [List.getElem?_eq_getElem hi]
  simp only [Option.map_some, Option.some.injEq, Prod.mk.injEq, and_true]
  simpa using e.symm

/-! ### a law -/

/-- Each way ends with 'true', and what is owed there. -/
def verdict (E : Env) (f : FuncId) : List SM → Prop
  | [] => True
  | S :: r => (match endS E f S with | some (.v (.bool true), s') => s'.ob | _ => False) ∧ verdict E f r

def verdictO (E : Env) (f : FuncId) : Option (List SM) → Prop
  | some Ls => verdict E f Ls
  | none => False

theorem verdict_mem {f : FuncId} : ∀ {Ls : List SM}, verdict E f Ls → ∀ S ∈ Ls, ∃ s', endS E f S = some (.v (.bool true), s') ∧ s'.ob
  | [], _, _, h => by cases h
  | T :: r, ⟨h, k⟩, S, hS => by
    rcases List.mem_cons.1 hS with rfl | hS
    · split at h
      · rename_i s' he; exact ⟨s', he, h⟩
      · exact h.elim
    · exact verdict_mem k S hS

/-- The whole run of a function. -/
def runS (E : Env) (f : FuncId) (args : List SV) (s0 : SH) (n : Nat) : Option (List SM) := (enterS E f args s0).bind fun S0 => run E SM.over n [S0] []

theorem calls_true {r : Nat → Prop} (K : Facts E (Own.just r) w) {f : FuncId} {args : List SV} {a : List Value} {s0 : SH} {n : Nat} (hv : verdictO E f (runS E f args s0 n))
    (hr : HR ν (Own.just r) w s0 w) (hro : ∀ b, r b → b < w.heap.size) (hg : GR ν E) (ha : VRL ν args a) :
    Calls E.P f a.toArray w fun e w' => e = .returned (.bool true) ∧ Below w.heap.size w w' := by
  unfold runS at hv
  cases hS : enterS E f args s0 with
  | none => rw [hS] at hv; exact hv.elim
  | some S0 =>
  rw [hS] at hv
  simp only [Option.bind_some] at hv
  cases hrun : run E SM.over n [S0] [] with
  | none => rw [hrun] at hv; exact hv.elim
  | some Ls =>
  rw [hrun] at hv
  refine calls_ok (M := Own.just r) K hS hrun hr hro (fun _ h => h) hg ha fun S' hS' => ?_
  obtain ⟨s', he, hob⟩ := verdict_mem hv S' hS'
  refine ⟨_, s', he, hob, fun ν' w' v _ hv hr' _ => ⟨?_, hr'.below⟩⟩
  rw [VR.v_iff.1 hv]

/-- The same, package variables told. -/
theorem calls_laid {l : List (Nat × List SV)} (K : Facts E (laidOwn l) w) {f : FuncId} {a : List Value} {d n : Nat} (hG : E.G = (l.map (·.1)).zipIdx) (hd : l.length ≤ 2 ^ d) (hn : (l.map (·.1)).Nodup) (ht : ∀ r ∈ l, Told w r)
    (hv : verdictO E f (runS E f (a.map .v) (laidMem d l) n)) : Calls E.P f a.toArray w fun e w' => e = .returned (.bool true) ∧ Below w.heap.size w w' := by
  refine calls_true K hv (laid_HR hd hn ht) (fun b hb => ?_) (laid_GR hG) (VRL.lits _ a)
  obtain ⟨r, hr, rfl⟩ := hb
  obtain ⟨_, _, _, _, h, _⟩ := ht r hr
  exact (Array.getElem?_eq_some_iff.1 h).1

theorem Facts.of (mixed : E.P.follows .mixedOrders = true) (calls : (E.P.funcs.all fun fn => fn.body.isNone || fn.name != "runtime.NumGoroutine") = true) (ext : ExtOK E) (sums : E.sums = fun _ => none) (qs : QOK E M w0) : Facts E M w0 :=
  ⟨mixed, fun f fn hf hb => by
    have := Array.all_eq_true'.1 calls fn (Array.mem_of_getElem? hf)
    cases h : fn.body with
    | none => exact absurd h hb
    | some c => (rw [h] at this; simpa using this), ext, fun f g h => (by rw [sums] at h; cases h), qs⟩

theorem Facts.of' (mixed : E.P.follows .mixedOrders = true) (calls : (E.P.funcs.all fun fn => fn.body.isNone || fn.name != "runtime.NumGoroutine") = true) (ext : ExtOK E) (sums : SumsOK E M w0) (qs : QOK E M w0) : Facts E M w0 :=
  ⟨mixed, fun f fn hf hb => by
    have := Array.all_eq_true'.1 calls fn (Array.mem_of_getElem? hf)
    cases h : fn.body with
    | none => exact absurd h hb
    | some c => (rw [h] at this; simpa using this), ext, sums, qs⟩

end
end Go.Rx
set_option linter.unusedVariables false
set_option linter.unusedSimpArgs false
namespace Go.Rx
open Go.ChangeShapes Go.WideShapes Go.ChangeAt Go.RowKit

theorem and_intro {a b : Bool} (ha : a = true) (hb : b = true) : (a && b) = true := by rw [ha, hb]; rfl

section
variable {P : Program} {w : World} {r : Reach} {base : Nat} {u : TypeId} {v : Value}

theorem cell_int {k : IntKind} (hu : P.underlying u = some (.int k)) (h : Cell.okWide P w r base u v) : ∃ n, v = .int k n ∧ k.has n := by
  simp only [Cell.okWide, hu] at h
  cases v <;> simp_all [Cell.ok]
theorem cell_string (hu : P.underlying u = some .string) (h : Cell.okWide P w r base u v) : ∃ s, v = .string s := by
  simp only [Cell.okWide, hu] at h
  cases v <;> simp_all [Cell.ok]
theorem cell_bool (hu : P.underlying u = some .bool) (h : Cell.okWide P w r base u v) : ∃ b, v = .bool b := by
  simp only [Cell.okWide, hu] at h
  cases v <;> simp_all [Cell.ok]
theorem cell_slice {e : TypeId} (hu : P.underlying u = some (.slice e)) (h : Cell.okWide P w r base u v) : ∃ a l c, v = .slice a l c ∧ l ≤ c ∧ (c : Int) ≤ IntKind.i64.max := by
  simp only [Cell.okWide, hu] at h
  cases v with
  | slice a l c =>
    cases a with
    | none =>
      rcases l with _ | l <;> rcases c with _ | c <;> first | (exact ⟨none, 0, 0, rfl, Nat.le_refl _, by decide⟩) | (simp [Cell.ok, hu] at h)
    | some a => exact ⟨some a, l, c, rfl, by simp_all [Cell.ok], by simp_all [Cell.ok]⟩
  | _ => simp_all [Cell.ok]

def CellsOK (P : Program) (w : World) (r : Reach) (base : Nat) : List TypeId → List Value → Prop
  | [], vs => vs = []
  | u :: us, vs => ∃ v rest, vs = v :: rest ∧ Cell.okWide P w r base u v ∧ CellsOK P w r base us rest

theorem cellsOK_of : ∀ (ts : List TypeId) (cs : List Value), cs.length = ts.length → (∀ (i : Nat) u v, ts[i]? = some u → cs[i]? = some v → Cell.okWide P w r base u v) → CellsOK P w r base ts cs
  | [], cs, hl, _ => List.length_eq_zero_iff.1 hl
  | u :: us, cs, hl, h => by
    match cs, hl with
    | c :: cs, hl => exact ⟨c, cs, rfl, h 0 u c rfl rfl, cellsOK_of us cs (by simpa using hl) fun i u v hu hv => h (i + 1) u v (by simpa using hu) (by simpa using hv)⟩

theorem okWide_cells {t : TypeId} {fs : Array Field} {ts : List TypeId} (ht : P.underlying t = some (.struct fs)) (hts : P.cellTypes P.depth t = some ts) (hn : P.cellsOf t = ts.length) (h : Value.okWide P w r base t v) :
    ∃ cs : List Value, v = .agg cs.toArray ∧ CellsOK P w r base ts cs := by
  simp only [Value.okWide, ht] at h
  obtain ⟨cs, rfl, hsz, ts', hts', _, hc⟩ := h
  rw [hts] at hts'; cases hts'
  refine ⟨cs.toList, by simp, cellsOK_of ts cs.toList (by simpa using hsz.trans hn) fun i u v hu hv => ?_⟩
  have hlt : i < ts.length := (List.getElem?_eq_some_iff.1 hu).1
  obtain ⟨u', hu', hok⟩ := hc i v (by simpa using hv)
  rw [Nat.mod_eq_of_lt hlt, hu] at hu'; cases hu'
  exact hok
end

section
variable {H : Type} {enc : TypeId × Value → H} {P : Program} {W W' : World}

/-- All arguments read behind the call as they did before. -/
theorem trodAll_below (hl : laidOutB P = true) (hb : Below W.heap.size W W') : ∀ {ts : List TypeId} {vs : List Value} {ds : List (DataW H)} {ps : List MemPlace}, DataW.TrodAll enc P W 0 (fun _ => true) true ts vs ds ps →
    (ts.all fun t => P.readableRec t && decide (t < P.types.size)) = true → (∀ x ∈ ps, x.block < W.heap.size) → DataW.TrodAll enc P W' 0 (fun b => decide (b < W.heap.size)) true ts vs ds ps
  | [], vs, ds, ps, h, _, _ => by
    obtain ⟨rfl, rfl, rfl⟩ := trodAll_nil h
    exact trodAll_mk0
  | t :: ts, vs, ds, ps, h, hk, hlt => by
    obtain ⟨v, vs', d, ds', p, p', rfl, rfl, rfl, h0, r0⟩ := trodAll_cons h
    rw [List.all_cons, Bool.and_eq_true, Bool.and_eq_true] at hk
    exact trodAll_cons_mk (Below.trod hl hk.1.1 (of_decide_eq_true hk.1.2) h0 hb fun x hx => hlt x (List.mem_append_left _ hx)) (trodAll_below hl hb r0 hk.2 fun x hx => hlt x (List.mem_append_right _ hx))
end

/-- What the condition on a type's handle gives: the variable's one cell. -/
theorem told_handle {P : Program} {W : World} {l : List (String × DataW Unit)} (h : handlesMet P l W) {v : String} {d : DataW Unit} {name : List UInt8} (hm : (v, d) ∈ l) (hf : d.funcsIn?.isNone = true) (hn : d.handleName? = some name)
    {g : Nat} (hg : P.globalNamed v = some g) {u ty : TypeId} {hd : Value} (hu : (P.cutTypes.find? (·.1 == "internal/reflectlite.rtype")).map (·.2) = some u)
    (hrow : ((List.range P.types.size).filter fun t => P.rowNamed t name) = [ty]) (hh : typeHandle P ty = hd) : Told W (g, [.iface u (.v (.agg #[hd]))]) := by
  have h1 := h _ hm
  dsimp only at h1
  split at h1
  · rename_i f e; rw [e] at hf; cases hf
  · obtain ⟨name', u', ty', e1, e2, e3, e4, e5⟩ := h1
    rw [hn] at e1; cases e1
    rw [hu] at e2; cases e2
    have hm2 : ty' ∈ (List.range P.types.size).filter fun t => P.rowNamed t name := List.mem_filter.2 ⟨List.mem_range.2 e3, e4⟩
    rw [hrow] at hm2
    obtain rfl := List.mem_singleton.1 hm2
    simp only [World.var?, hg, Option.bind_some] at e5
    split at e5
    · rename_i cs e fz hheap
      cases e5
      refine ⟨[.iface u (.agg #[hd])], _, e, fz, hheap, fun ν => VRL.cons (VR.iface_iff.2 ⟨_, rfl, VR.v_iff.2 rfl⟩) VRL.nil, fun k y hk => ?_⟩
      rw [hh]
      match k, hk with
      | 0, hk => simpa using hk
    · cases e5

/-- The handles' part of the condition. -/
theorem laidMetH_handles {P : Program} {l : List (String × DataW Unit)} {w : World} (h : laidMetH P l w) : handlesMet P (l.filter fun x => x.2.handleName?.isSome) w := by
  unfold laidMetH at h
  split at h
  · rename_i e; rw [e]; intro x hx; cases hx
  · rename_i h0 hs e; rw [e]; exact h.2

theorem laidVars_mem {P : Program} {w : World} {n : String} {d : DataW Unit} : ∀ {l : List (String × DataW Unit)} {ps : List MemPlace}, DataW.LaidVars P w l ps → (n, d) ∈ l →
    ∃ g t cs fuel p, P.globalNamed n = some g ∧ (P.globals[g]?).map (·.type) = some t ∧ w.var? P n = some cs ∧ DataW.trod (fun _ => ()) P w 0 (fun _ => true) false fuel t cs.toList = some (d, p)
  | [], _, _, h => by cases h
  | (n', d') :: l, ps, hl, h => by
    obtain ⟨g, t, cs, fuel, p, q, h1, h2, h3, h4, h5, _⟩ := hl
    rcases List.mem_cons.1 h with e | h
    · cases e; exact ⟨g, t, cs, fuel, p, h1, h2, h3, h4⟩
    · exact laidVars_mem h5 h

theorem laidMetH_plain' {P : Program} {l : List (String × DataW Unit)} {w : World} (h : laidMetH P l w) : laidMet P (l.filter fun x => x.2.handleName?.isNone) w := by
  unfold laidMetH at h
  split at h
  · rename_i e
    have : (l.filter fun x => x.2.handleName?.isNone) = l := by
      refine List.filter_eq_self.2 fun x hx => ?_
      cases hn : x.2.handleName? with
      | none => rfl
      | some s =>
        have hm : x ∈ l.filter fun x => x.2.handleName?.isSome := List.mem_filter.2 ⟨hx, by rw [hn]; rfl⟩
        rw [e] at hm; cases hm
    rw [this]; exact h
  · exact h.1

/-- What the condition gives of a table of integers. -/
theorem told_ints {P : Program} {W : World} {l : List (String × DataW Unit)} (h : laidMetH P l W) {v : String} {k : IntKind} {zs : List Int} (hm : (v, (DataW.agg (zs.map fun n => .lit (.int k n)) : DataW Unit)) ∈ l.filter fun x => x.2.handleName?.isNone)
    {g : Nat} (hg : P.globalNamed v = some g) {t e : TypeId} (ht : (P.globals[g]?).map (·.type) = some t) {len : Nat} (hu : P.underlying t = some (.array len e)) (he : P.underlying e = some (.int k)) (hc : P.cellsOf e = 1) (hlen : zs.length = len) :
    Told W (g, zs.map fun n => .v (.int k n)) := by
  obtain ⟨ps, hl, _, _⟩ := laidMetH_plain' h
  obtain ⟨g', t', cs, fuel, p, h1, h2, h3, hd⟩ := laidVars_mem hl hm
  rw [hg] at h1; cases h1
  rw [ht] at h2; cases h2
  obtain ⟨xs, m, _, ex, _, hl2, hel⟩ := DataW.trod_array hu hd
  have hvar := h3
  simp only [World.var?, hg, Option.bind_some] at h3
  split at h3
  · rename_i cs' ty fz hheap
    cases h3
    refine ⟨zs.map fun n => .int k n, cs, ty, fz, hheap, fun ν => ?_, fun r y hy => ?_⟩
    · have := VRL.lits ν (zs.map fun n => Value.int k n)
      rw [List.map_map] at this; exact this
    · obtain ⟨hr, rfl⟩ := List.getElem?_eq_some_iff.1 hy
      have hr' : r < zs.length := by simpa using hr
      have hE := hel r (by omega)
      rw [hc, Nat.mul_one, List.getElem?_eq_getElem (by omega)] at hE
      obtain ⟨z, e1, e2, _⟩ := DataW.trod_int he hE
      have e3 : (xs.map (·.1)) = zs.map fun n => .lit (.int k n) := (DataW.agg.inj (Prod.mk.inj ex).1).symm
      have e4 : (xs.map (·.1))[r]? = (zs.map fun n => (DataW.lit (.int k n) : DataW Unit))[r]? := by rw [e3]
      rw [List.getElem?_map, List.getElem?_map, List.getElem?_eq_getElem (by omega : r < xs.length), List.getElem?_eq_getElem hr', e2] at e4
      have hz : z = zs[r] := by simpa using e4
      have h0 : ((cs.toList.drop r).take 1)[0]? = some (.int k z) := by rw [e1]; rfl
      rw [hz] at h0
      simpa using h0
  · cases h3

end Go.Rx
set_option linter.unusedVariables false
set_option linter.unusedSimpArgs false
namespace Go.Rx
open Go.RowKit (Below)

/-- So many turns of a run: the ways that are left, and those that have stopped. -/
def runK (E : Env) (stop : SM → Bool) : Nat → List SM → List SM → Option (List SM × List SM)
  | 0, w, d => some (w, d)
  | _ + 1, [], d => some ([], d)
  | n + 1, S :: w, d => bif stop S then runK E stop n w (S :: d) else match step1 E S with
    | none => none
    | some l => runK E stop n (l ++ w) d

theorem run_nil {E : Env} {stop : SM → Bool} {n : Nat} {d : List SM} : run E stop n [] d = some d := by
  cases n <;> rfl

/-- A run goes on from where its first turns led. -/
theorem runK_run {E : Env} {stop : SM → Bool} : ∀ {n : Nat} {w d w' d' : List SM}, runK E stop n w d = some (w', d') → ∀ {m : Nat} {Ls : List SM}, run E stop m w' d' = some Ls → run E stop (n + m) w d = some Ls
  | 0, w, d, w', d', h, m, Ls, k => by cases h; rw [Nat.zero_add]; exact k
  | n + 1, [], d, w', d', h, m, Ls, k => by
    cases h
    rw [run_nil] at k ⊢; exact k
  | n + 1, S :: w, d, w', d', h, m, Ls, k => by
    rw [Nat.add_right_comm]
    unfold runK at h
    unfold run
    cases hs : stop S
    · rw [hs] at h
      simp only [cond_false] at h ⊢
      split at h
      · cases h
      · rename_i l hl
        have := runK_run h k
        rw [hl]
        split
        · rename_i e; cases e
        · rename_i S' e; cases e; exact this
        · rename_i l' _ e; cases e; exact this
    · rw [hs] at h
      simp only [cond_true] at h ⊢
      exact runK_run h k

/-- One stage behind the other. -/
theorem runK_trans {E : Env} {stop : SM → Bool} : ∀ {n : Nat} {w d w' d' : List SM}, runK E stop n w d = some (w', d') → ∀ {m : Nat} {r : List SM × List SM}, runK E stop m w' d' = some r → runK E stop (n + m) w d = some r
  | 0, w, d, w', d', h, m, r, k => by cases h; rw [Nat.zero_add]; exact k
  | n + 1, [], d, w', d', h, m, r, k => by
    cases h
    have e : ∀ m, runK E stop m [] d = some ([], d) := by intro m; cases m <;> rfl
    rw [e] at k ⊢; exact k
  | n + 1, S :: w, d, w', d', h, m, r, k => by
    rw [Nat.add_right_comm]
    unfold runK at h ⊢
    cases hs : stop S
    · rw [hs] at h
      simp only [cond_false] at h ⊢
      split at h
      · cases h
      · rename_i l hl
        exact runK_trans h k
    · rw [hs] at h
      simp only [cond_true] at h ⊢
      exact runK_trans h k

/-- The whole run out of its stages. -/
theorem runS_of {E : Env} {f : FuncId} {args : List SV} {s0 : SH} {S0 : SM} {n : Nat} {d : List SM} (h0 : enterS E f args s0 = some S0) (h : runK E SM.over n [S0] [] = some ([], d)) : runS E f args s0 n = some d := by
  unfold runS
  rw [h0]
  have := runK_run h (m := 0) (Ls := d) (by rw [run_nil])
  simpa using this

/-! ### how a stage is written down -/

def Tr.fill {α : Type} (T : Tr α) (i : Nat) : List α → Tr α
  | [] => T
  | x :: xs => Tr.fill (T.set i x) (i + 1) xs

/-- Temporaries, one by one. -/
def tmOf (nt d : Nat) (l : List SV) : STm := { nt, d, T := Tr.fill (Tr.mk (.v undef) d) 0 l }

/-- A memory, object by object. -/
def memOf (d nx dc : Nat) (l : List (Option (SO × Bool))) : SH := { d, H := Tr.fill (Tr.mk none d) 0 l, nx, obl := [], dc }

/-- A part of a code: which child, and so on. -/
def codeAt : Code → List Nat → Code
  | c, [] => c
  | .seq a _, 0 :: p => codeAt a p
  | .seq _ b, _ :: p => codeAt b p
  | .cond _ a _, 0 :: p => codeAt a p
  | .cond _ _ b, _ :: p => codeAt b p
  | .block _ c, _ :: p => codeAt c p
  | .loop c, _ :: p => codeAt c p
  | .scope c, _ :: p => codeAt c p
  | .rangeFunc _ _ a _, 0 :: p => codeAt a p
  | .rangeFunc _ _ _ b, _ :: p => codeAt b p
  | c, _ => c

def bodyAt (P : Program) (f : FuncId) (p : List Nat) : Code :=
  match P.funcs[f]? with
  | some fn => match fn.body with
    | some c => codeAt c p
    | none => .skip
  | none => .skip

def opsOf : Code → Array Oper
  | .region _ ops _ => ops
  | _ => #[]

/-! ### a call that is told to come back with 'true' -/

theorem Told.keep {ν : Val} {l : List (Nat × List SV)} {W w : World} {s : SH} (h : HR ν (laidOwn l) W s w) {r : Nat × List SV} (t : Told W r) : Told w r := by
  obtain ⟨ys, c, e, fz, h1, h2, h3⟩ := t
  refine ⟨ys, c, e, fz, ?_, h2, h3⟩
  rw [h.frame _ (Array.getElem?_eq_some_iff.1 h1).1 (fun h => h), h1]

/-- What is told of one function without arguments. -/
def qTrue (LF : FuncId) : FuncId → Option (List SV → Option (List SV)) := fun f => bif Nat.beq f LF then some (fun args => match args with | [] => some [SV.v (.bool true)] | _ => none) else none

theorem QOK.one {E : Env} {LF : FuncId} {l : List (Nat × List SV)} {W : World} (hq : E.qs = qTrue LF) {fn : Func} (hf : E.P.funcs[LF]? = some fn) (hb : fn.body.isSome = true) (hn : (fn.name == "runtime.NumGoroutine") = false)
    (hc : ∀ w, (∀ r ∈ l, Told w r) → Calls E.P LF #[] w fun e w' => e = .returned (.bool true) ∧ Below w.heap.size w w') (ht : ∀ r ∈ l, Told W r) : QOK E (laidOwn l) W := by
  intro f g hg args L hL
  rw [hq] at hg
  unfold qTrue at hg
  cases hfe : Nat.beq f LF
  · rw [hfe] at hg; cases hg
  · rw [hfe] at hg
    obtain rfl := Nat.eq_of_beq_eq_true hfe
    cases hg
    match args, hL with
    | [], hL =>
      cases hL
      refine ⟨by simp, fun ν s w a hr hgr ha => ?_⟩
      obtain rfl := ha.nil_inv
      refine ⟨run_callFunc hf (by intro e; rw [e] at hb; cases hb) (by intro e; rw [e] at hn; simp at hn), ?_⟩
      exact (hc w fun r hr' => (ht r hr').keep hr).mono fun e w' ⟨he, hbel⟩ => ⟨hbel, _, List.mem_singleton.2 rfl, _, he, VR.v_iff.2 rfl⟩
    | _ :: _, hL => cases hL

end Go.Rx
