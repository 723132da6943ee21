/- The symbolic executor 'Rx', part YB: a step. By an AI agent. -/
import Derived.Test.YtjhmpmhkppglnaaGreatRyA
set_option linter.unusedVariables false
set_option linter.unusedSimpArgs false
namespace Go.Rx
section
variable {E : Env} {ν : Val} {M : Own} {w0 w : World} {s s' : SH} {hid : List Nat}
variable {F : SF} {fr : Frame} {callers : List SF} {cs cs0 : List Frame} {Ls : List SM} {m : Machine}

theorem DefsR.append : ∀ {l : List SDef} {ds : List Deferred} {m : List SDef} {es : List Deferred}, DefsR ν l ds → DefsR ν m es → DefsR ν (l ++ m) (ds ++ es)
  | [], _, _, _, h, k => by have h : _ = [] := h; rw [h]; exact k
  | _ :: _, _, _, _, ⟨z, zs, e, hz, hs⟩, k => by rw [e]; exact ⟨z, zs ++ _, rfl, hz, DefsR.append hs k⟩

/-- A frame that has run to its end. -/
theorem ret_ok (K : Facts E M w0) (hb : FrB ν F fr) (hret : F.ret = true) (hmode : fr.mode = .returning) (ht : TmR ν F.tm fr.tmps) (hr : HR ν M w0 s w) (hg : GR ν E) (hc : CallersR E ν M w0 cs0 [] F.kind callers cs)
    (h : retS E F callers s = some Ls) : Out E M w0 cs0 ν s.ob (lone fr cs w) Ls := by
  unfold retS at h
  have hd := hb.defers
  split at h
  · -- a deferred call
    rename_i g capt args ds e
    rw [e] at hd
    obtain ⟨z, zs, hfd, ⟨c', a', rfl, hcv, hav⟩, hds⟩ := hd
    cases hG : enterF E g (args ++ capt) .deferred with
    | none => rw [hG] at h; cases h
    | some G =>
    rw [hG] at h
    cases h
    refine .one fun ob => ?_
    obtain ⟨htop, hkind, fn, hfn, hbody⟩ := enterF_ok hG (hav.append hcv) _
    have hcall : (invoke (.fn (.func g) c'.toArray) a'.toArray).run E.P w = .ok (.enter g (a' ++ c').toArray) w := by
      have := run_callFunc (a := (a' ++ c').toArray) (w := w) hfn hbody (K.calls g fn hfn hbody)
      simpa [invoke] using this
    refine ⟨ob, ν, _, Val.Le.refl _, .one (Go.step_defer (by rw [hmode]; exact fun h => (by cases h)) hfd rfl hcall), ⟨_, _, w, _, rfl, hr, hg, htop, ?_⟩⟩
    show CallersR E ν M w0 cs0 [] G.kind ({ F with defers := ds } :: callers) _
    rw [hkind]
    exact .ret ⟨⟨hb.fn, hds, hb.kind, hb.ro⟩, hret, hmode, ht⟩ hc
  · cases h
  · -- the calls that a loop has put off
    rename_i i ds e
    rw [e] at hd
    obtain ⟨z, zs, hfd, ⟨b, hbi, rfl⟩, hds⟩ := hd
    split at h
    · rename_i l hlook
      cases h
      obtain ⟨_, _, b', o, hb', ho, hor, _⟩ := hr.look hlook
      rw [hbi] at hb'; cases hb'
      obtain ⟨es, rfl, hes⟩ := hor
      have hrun : (Instr.takeDeferred b.1).run E.P w = .ok es { w with heap := w.heap.setIfInBounds b.1 (.deferred none) } := by
        simp only [Instr.takeDeferred, Sem.run_bind, run_getObj (P := E.P) ho (by intro c e f; exact fun h => by cases h), Result.andThen_ok, run_setObj (P := E.P) ho (by intro c e f; exact fun h => by cases h), Sem.run_pure]
      have hr' : HR ν M w0 (s.put i (.dfr none)) { w with heap := w.heap.setIfInBounds b.1 (.deferred none) } := hr.put hlook hbi rfl rfl rfl rfl rfl
      have hstep : step E.P (lone fr cs w) = .next (lone { fr with defers := es ++ zs } cs { w with heap := w.heap.setIfInBounds b.1 (.deferred none) }) :=
        step_lone_go (by simp [stepG, unwind, hmode, hfd, Sem.runT_eq, hrun])
      exact .one fun ob => ⟨ob, ν, _, Val.Le.refl _, .one hstep, ⟨_, _, _, _, rfl, hr', hg, ⟨⟨hb.fn, hes.append hds, hb.kind, hb.ro⟩, fun h => (by
        have h : F.ret = false := h
        rw [hret] at h; cases h), fun _ => ⟨hmode, ht⟩⟩, hc⟩⟩
    · cases h
  · -- the end
    rename_i e
    rw [e] at hd
    have hfd : fr.defers = [] := hd
    split at h
    · rename_i fn hfn
      split at h
      · rename_i x s1 hres
        obtain ⟨hsame, hob⟩ := results_ok (E := E) ht hr hres
        unfold returned at h
        split at h
        · rename_i c rest
          split at h
          · rename_i hk
            obtain ⟨c1, s2, hfin, rfl⟩ := map_finish h
            rw [hk] at hc
            cases hc with
            | wait hw htail =>
            refine .one fun ob => ?_
            obtain ⟨ob0, v, hrun, hv⟩ := hob (finish_mono hw hfin ob)
            obtain ⟨_, hMR⟩ := finish_MR hw (hr.same hsame) hg hv hfin htail ob
            exact ⟨ob0, ν, _, Val.Le.refl _, .one (step_leave_returned ⟨hmode, hfd, by rw [hb.kind, hk], fn, by rw [hb.fn]; exact hfn, hrun⟩), hMR⟩
          · rename_i hk
            cases h
            rw [hk] at hc
            cases hc with
            | ret hw htail =>
            rename_i c' cs'
            refine .one fun ob => ?_
            obtain ⟨ob0, v, hrun, hv⟩ := hob ob
            have hstep := step_going_returned (P := E.P) (fr := fr) (c := c') (cs := cs') (w := w) (v := v) (by rw [hb.kind, hk]) ⟨hmode, hfd, fn, by rw [hb.fn]; exact hfn, hrun⟩
            have hset : ({ c' with mode := settle c'.mode } : Frame) = c' := by
              have := hw.mode
              cases c'; simp only at this; subst this; rfl
            rw [hset] at hstep
            exact ⟨ob0, ν, _, Val.Le.refl _, .one hstep, ⟨_, _, w, _, rfl, hr.same hsame, hg, ⟨hw.base, fun h => (by rw [hw.ret] at h; cases h), fun _ => ⟨hw.mode, hw.tm⟩⟩, htail⟩⟩
          · cases h
        · cases h
      · cases h
    · cases h

/-- The machine begins a range over a function. -/
theorem range_does {f : Operand} {params : Array Tmp} {assign body : Code} {k' : List Item} {l : Nat} {mark : List Deferred} {w1 : World} (hmode : fr.mode = .run) (htodo : fr.todo = .code (.rangeFunc f params assign body) :: k')
    (hrun : (Instr.enterLoop fr.fn fr.tmps params assign body fr.roundOf).run E.P w = .ok (l, mark) w1) :
    Does E.P (lone fr cs w) { fr with todo := .inRangeFunc l :: k', defers := mark ++ fr.defers } cs (do let d ← Deferred.ofValue (ev fr.tmps f) #[.func (.yield l) #[] #[]]; invoke d.target d.args) w1 := by
  have hev : fr.eval f = ev fr.tmps f := by cases f <;> rfl
  have hg : (do let d ← resolve ({ fr with todo := .inRangeFunc l :: k', defers := mark ++ fr.defers } : Frame).eval { callee := .value f, args := #[.const (.func (.yield l) #[] #[])], argTypes := #[] } 0; invoke d.target d.args : Sem Next) =
      (do let d ← Deferred.ofValue (ev fr.tmps f) #[.func (.yield l) #[] #[]]; invoke d.target d.args) := by
    have h2 : ({ fr with todo := .inRangeFunc l :: k', defers := mark ++ fr.defers } : Frame).eval = fr.eval := by funext x; cases x <;> rfl
    simp only [resolve, h2, hev]
    simp [Frame.eval]
  have key : (stepG E.P true { frame := fr, callers := cs, status := .running, dying := none } w).bare =
      (stepG.apply E.P true { fr with todo := .inRangeFunc l :: k', defers := mark ++ fr.defers } cs none (do let d ← Deferred.ofValue (ev fr.tmps f) #[.func (.yield l) #[] #[]]; invoke d.target d.args) w1).bare := by
    rw [← hg]
    simp only [stepG, stepG.exec, hmode, htodo, Sem.runT_eq, hrun, GStep.bare_after]
  refine ⟨fun y w' hr => .one (step_lone_go ?_), fun w' hr => .one (step_lone_go ?_), fun g a w' hr => .one (step_lone_go ?_), fun l' g t as bd w' hr => .one (step_lone_go ?_)⟩ <;>
  · rw [key]; simp [stepG.apply, Sem.runT_eq, hr]

theorem range_ok (K : Facts E M w0) {f : Operand} {params : Array Tmp} {assign body : Code} {k : List SI} {k' : List Item} (hb : FrB ν F fr) (hret : F.ret = false) (hmode : fr.mode = .run) (ht : TmR ν F.tm fr.tmps)
    (hk : KsR ν k k') (htodo : fr.todo = .code (.rangeFunc f params assign body) :: k') (hr : HR ν M w0 s w) (hg : GR ν E) (hc : CallersR E ν M w0 cs0 [] F.kind callers cs)
    (h : rangeS E F callers s f params assign body k = some Ls) : Out E M w0 cs0 ν s.ob (lone fr cs w) Ls := by
  have noDefer : ∀ {fv : SV} {args : List SV} {n : SNext}, callFn fv args = some n → ∀ d, n ≠ .defer d := by
    intro fv args n hn d e
    subst e
    unfold callFn at hn
    split at hn <;> cases hn
  unfold rangeS at h
  have hro := hb.ro
  split at h
  · -- a loop in a loop's body
    rename_i l e
    rw [e] at hro
    obtain ⟨bl, hbl, hrou⟩ := hro
    split at h
    · rename_i d wr hlook
      obtain ⟨⟨i, s1⟩, hn, h⟩ := Option.bind_eq_some_iff.1 h
      obtain ⟨n, hcall, h⟩ := Option.bind_eq_some_iff.1 h
      obtain ⟨_, _, b', o, hb', ho, hor, _⟩ := hr.look hlook
      rw [hbl] at hb'; cases hb'
      obtain ⟨t0, bd, hbd, _, rfl⟩ := hor
      obtain ⟨hob, ν', hle, hi, hr'⟩ := sNew_ok hn hr 0 (r := .loop { state := .ready, pending := none, fn := F.fn, tmps := fr.tmps, params, assign, body, defers := bd.1 })
        (fun ν' hle _ => ⟨fr.tmps, bd, hle _ _ hbd, ht.mono hle, by simp⟩)
      have hrun : (Instr.enterLoop fr.fn fr.tmps params assign body fr.roundOf).run E.P w = .ok (w.heap.size, []) { w with heap := w.heap.push (.loop { state := .ready, pending := none, fn := F.fn, tmps := fr.tmps, params, assign, body, defers := bd.1 }) } := by
        rw [hrou, hb.fn]
        simp [Instr.enterLoop, run_getLoop ho]
      have D := range_does (cs := cs) hmode htodo hrun
      have hwait : WaitF E ν' M w0 [] { F with todo := .inRF i :: k } { fr with todo := .inRangeFunc w.heap.size :: k', defers := [] ++ fr.defers } :=
        ⟨⟨hb.fn, hb.defers.mono hle, hb.kind, hb.ro.mono hle⟩, hret, hmode, .plain (ht.mono hle) (.cons (.inRF hi) (hk.mono hle))⟩
      have hgood : s1.ob → s.ob ∧ OpGood E _ ν' M w0 _ n s1 := fun ob => ⟨by rw [← hob]; exact ob,
        callFn_ok (E := E) hcall (((ht.mono hle).opd (hg.mono hle)) f) (VRL.cons (VR.yield_iff.2 ⟨_, hi, rfl⟩) VRL.nil) hr'⟩
      obtain ⟨S', hm, hS⟩ := after_ok K (fun _ => D) hwait (hc.mono hle) (hg.mono hle) h (noDefer hcall) hgood
      exact ⟨S', hm, fun ob => let ⟨o0, ν2, m', hle2, st, mr⟩ := hS ob; ⟨o0, ν2, m', hle.trans hle2, st, mr⟩⟩
    · cases h
  · rename_i e
    rw [e] at hro
    have hrou : fr.roundOf = none := hro
    obtain ⟨⟨d, s1⟩, hn1, h⟩ := Option.bind_eq_some_iff.1 h
    obtain ⟨⟨i, s2⟩, hn2, h⟩ := Option.bind_eq_some_iff.1 h
    obtain ⟨n, hcall, h⟩ := Option.bind_eq_some_iff.1 h
    obtain ⟨hob1, ν1, hle1, hi1, hr1⟩ := sNew_ok hn1 hr 0 (r := .deferred (some [])) (fun ν' hle _ => ⟨[], rfl, rfl⟩)
    obtain ⟨hob2, ν2, hle2, hi2, hr2⟩ := sNew_ok hn2 hr1 0 (r := .loop { state := .ready, pending := none, fn := F.fn, tmps := fr.tmps, params, assign, body, defers := w.heap.size })
      (fun ν' hle _ => ⟨fr.tmps, (w.heap.size, 0), hle _ _ hi1, (ht.mono hle1).mono hle, by simp⟩)
    have hle := hle1.trans hle2
    have hrun : (Instr.enterLoop fr.fn fr.tmps params assign body fr.roundOf).run E.P w = .ok (w.heap.size + 1, [{ target := .collected w.heap.size, args := #[] }])
        { w with heap := (w.heap.push (.deferred (some []))).push (.loop { state := .ready, pending := none, fn := F.fn, tmps := fr.tmps, params, assign, body, defers := w.heap.size }) } := by
      rw [hrou, hb.fn]
      simp [Instr.enterLoop]
      rfl
    have D := range_does (cs := cs) hmode htodo hrun
    have hi2' : ν2 i = some (w.heap.size + 1, 0) := by simpa using hi2
    have hwait : WaitF E ν2 M w0 [] { F with todo := .inRF i :: k, defers := .coll d :: F.defers } { fr with todo := .inRangeFunc (w.heap.size + 1) :: k', defers := [{ target := .collected w.heap.size, args := #[] }] ++ fr.defers } :=
      ⟨⟨hb.fn, ⟨_, _, rfl, ⟨_, hle2 _ _ hi1, rfl⟩, hb.defers.mono hle⟩, hb.kind, hb.ro.mono hle⟩, hret, hmode, .plain (ht.mono hle) (.cons (.inRF hi2') (hk.mono hle))⟩
    have hgood : s2.ob → s.ob ∧ OpGood E _ ν2 M w0 _ n s2 := fun ob => ⟨by rw [← hob1, ← hob2]; exact ob,
      callFn_ok (E := E) hcall (((ht.mono hle).opd (hg.mono hle)) f) (VRL.cons (VR.yield_iff.2 ⟨_, hi2', rfl⟩) VRL.nil) hr2⟩
    obtain ⟨S', hm, hS⟩ := after_ok K (fun _ => D) hwait (hc.mono hle) (hg.mono hle) h (noDefer hcall) hgood
    exact ⟨S', hm, fun ob => let ⟨o0, ν3, m', hle3, st, mr⟩ := hS ob; ⟨o0, ν3, m', hle.trans hle3, st, mr⟩⟩
end
end Go.Rx
