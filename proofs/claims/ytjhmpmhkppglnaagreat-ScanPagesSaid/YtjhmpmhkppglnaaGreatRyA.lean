/- The symbolic executor 'Rx', part YA: the ends of frames. By an AI agent. -/
import Derived.Test.YtjhmpmhkppglnaaGreatRxZ
import Derived.Defers
set_option linter.unusedVariables false
set_option linter.unusedSimpArgs false
namespace Go.Rx
section
variable {E : Env} {ν : Val} {M : Own} {w0 w : World} {s s' : SH} {hid : List Nat}

theorem eq_atR {fr : Frame} (h : fr.mode = .run) : fr = fr.atR ⟨fr.tmps, fr.defers⟩ fr.todo := by
  cases fr; simp only at h; subst h; rfl

/-- What a step comes to. -/
def Out (E : Env) (M : Own) (w0 : World) (cs0 : List Frame) (ν : Val) (ob : Prop) (m : Machine) (Ls : List SM) : Prop :=
  ∃ S' ∈ Ls, S'.mem.ob → ob ∧ ∃ ν' m', ν.Le ν' ∧ Steps E.P m m' ∧ MR E M w0 cs0 ν' S' m'

theorem Out.one {cs0 : List Frame} {ob : Prop} {m : Machine} {S' : SM} (h : S'.mem.ob → ob ∧ ∃ ν' m', ν.Le ν' ∧ Steps E.P m m' ∧ MR E M w0 cs0 ν' S' m') : Out E M w0 cs0 ν ob m [S'] :=
  ⟨S', List.mem_singleton.2 rfl, h⟩

section
variable {F : SF} {fr : Frame} {callers : List SF} {cs cs0 : List Frame} {Ls : List SM} {m : Machine}

theorem MR.to {k : List SI} {k' : List Item} (hr : HR ν M w0 s w) (hg : GR ν E) (hb : FrB ν F fr) (hret : F.ret = false) (ht : TmR ν F.tm fr.tmps) (hc : CallersR E ν M w0 cs0 [] F.kind callers cs) (hk : KsR ν k k') :
    MR E M w0 cs0 ν { top := { F with todo := k }, callers, mem := s } (lone (fr.atR ⟨fr.tmps, fr.defers⟩ k') cs w) :=
  ⟨_, _, w, _, rfl, hr, hg, ⟨⟨hb.fn, hb.defers, hb.kind, hb.ro⟩, fun _ => ⟨rfl, .plain ht hk⟩, fun h => by
    have h : F.ret = true := h
    rw [hret] at h; cases h⟩, hc⟩

theorem exitTo_ok {k : List SI} {k' : List Item} (hk : KsR ν k k') (id : Nat) :
    (∀ x, exitToS id k = some x → ∃ y, exitTo id k' = some y ∧ KsR ν x y) ∧ (exitToS id k = none → exitTo id k' = none) := by
  induction hk with
  | nil => exact ⟨fun x h => (by cases h), fun _ => rfl⟩
  | cons hx hk ih =>
    cases hx with
    | inBlock id' =>
      simp only [exitToS, exitTo]
      cases hb : (id' == id)
      · simp only [cond_false, if_false, Bool.false_eq_true]; exact ih
      · simp only [cond_true, if_true]
        exact ⟨fun x h => by cases h; exact ⟨_, rfl, hk⟩, fun h => by cases h⟩
    | _ => exact ih

theorem gotoIn_ok {k : List SI} {k' : List Item} (hk : KsR ν k k') (l : Nat) :
    (∀ x, gotoInS l k = some x → ∃ y, gotoIn l k' = some y ∧ KsR ν x y) ∧ (gotoInS l k = none → gotoIn l k' = none) := by
  induction hk with
  | nil => exact ⟨fun x h => (by cases h), fun _ => rfl⟩
  | cons hx hk ih =>
    cases hx with
    | inScope body =>
      simp only [gotoInS, gotoIn]
      cases hb : findLabel body l with
      | some rest => exact ⟨fun x h => by cases h; exact ⟨_, rfl, .cons (.code rest) (.cons (.inScope body) hk)⟩, fun h => by cases h⟩
      | none => exact ih
    | _ => exact ih

/-- The end of a frame's code, or a jump out of it. -/
theorem leave_ok {jump : Option Code} (hb : FrB ν F fr) (hret : F.ret = false) (hmode : fr.mode = .run) (ht : TmR ν F.tm fr.tmps) (hr : HR ν M w0 s w) (hg : GR ν E) (hc : CallersR E ν M w0 cs0 [] F.kind callers cs)
    (h : leaveS E F callers s jump = some Ls)
    (hnone : fr.roundOf = none → (jump = none ∨ jump = some .ret) → step E.P m = .next (lone { fr with mode := .returning } cs w))
    (hround : ∀ l v w' c cs', fr.roundOf = some l → fr.kind = .normal → cs = c :: cs' → (Instr.endRound l jump).run E.P w = .ok v w' → step E.P m = .next (lone (c.finish v) cs' w')) :
    Out E M w0 cs0 ν s.ob m Ls := by
  unfold leaveS at h
  have hro := hb.ro
  split at h
  · rename_i e
    rw [e] at hro
    have key : (jump = none ∨ jump = some .ret) → some [({ top := { F with ret := true }, callers, mem := s } : SM)] = some Ls → Out E M w0 cs0 ν s.ob m Ls := by
      intro hj h
      cases h
      exact .one fun ob => ⟨ob, ν, _, Val.Le.refl _, .one (hnone hro hj), ⟨_, _, w, _, rfl, hr, hg, ⟨⟨hb.fn, hb.defers, hb.kind, hb.ro⟩, fun h => (by cases h), fun _ => ⟨rfl, ht⟩⟩, hc⟩⟩
    split at h
    · exact key (.inl rfl) h
    · exact key (.inr rfl) h
    · cases h
  · rename_i i e
    rw [e] at hro
    obtain ⟨b, hbi, hrou⟩ := hro
    split at h
    · rename_i st p fn tm params assign body df hlook
      split at h
      · rename_i c rest
        split at h
        · rename_i hk
          rw [hk] at hc
          cases hc with
          | wait hw htail =>
          rename_i c' cs'
          obtain ⟨_, _, b', o, hb', ho, hor, hown⟩ := hr.look hlook
          rw [hbi] at hb'; cases hb'
          obtain ⟨t, b2, hb2, htm, rfl⟩ := hor
          have hrun : (Instr.endRound b.1 jump).run E.P w = .ok (.bool jump.isNone)
              { w with heap := w.heap.setIfInBounds b.1 (.loop { state := if jump.isNone then .ready else .done, pending := jump, fn, tmps := t, params := params.toArray, assign, body, defers := b2.1 }) } := by
            simp only [Instr.endRound, Sem.run_bind, run_getLoop ho, Result.andThen_ok, run_setObj ho (by intro c e f; exact fun h => by cases h), Sem.run_pure]
          have hr' : HR ν M w0 (s.put i (.loop (if jump.isNone then .ready else .done) jump fn tm params assign body df)) _ := hr.put hlook hbi ⟨t, b2, hb2, htm, rfl⟩ rfl rfl rfl rfl (w' := { w with heap := w.heap.setIfInBounds b.1 (.loop { state := if jump.isNone then .ready else .done, pending := jump, fn, tmps := t, params := params.toArray, assign, body, defers := b2.1 }) })
          obtain ⟨c1, s2, hfin, rfl⟩ := map_finish h
          refine .one fun ob => ?_
          obtain ⟨ob1, hMR⟩ := finish_MR hw hr' hg (VR.v_iff.2 rfl) hfin htail ob
          exact ⟨ob1, ν, _, Val.Le.refl _, .one (hround _ _ _ _ _ hrou (by rw [hb.kind, hk]) rfl hrun), hMR⟩
        · cases h
      · cases h
    · cases h

/-! ### results -/

theorem sLoad_ptr {t : TypeId} {a : SV} {r : SV × SH} (h : sLoad E t a s = some r) : ∃ i off, a = .ptr i off := by
  unfold sLoad at h
  split at h
  · unfold sLoadQ at h
    split at h
    · exact ⟨_, _, rfl⟩
    · cases h
  unfold sLoad0 at h
  split at h
  · exact ⟨_, _, rfl⟩
  · exact ⟨_, _, rfl⟩
  · cases h

def resF (tmps : Array Value) : ResultVar → Sem Value
  | .tmp t => pure (tmps.getD t undef)
  | .cell a t => do loadVar t (← asAddr (tmps.getD a undef))

theorem results_eq (fn : Func) (tmps : Array Value) : results fn tmps = (fn.results.mapM (resF tmps) >>= fun vs => pure (if h : vs.size = 1 then vs[0] else .tuple vs)) := by
  unfold results
  congr 2

theorem results_go {tm : STm} {tmps : Array Value} (ht : TmR ν tm tmps) : ∀ {l : List ResultVar} {s s' : SH} {r : List SV}, HR ν M w0 s w → resultsS.go E tm l s = some (r, s') →
    s.Same s' ∧ (s'.ob → s.ob ∧ ∃ vs, (l.mapM (resF tmps)).run E.P w = .ok vs w ∧ VRL ν r vs)
  | [], s, s', r, hr, h => by
    cases h
    exact ⟨.refl _, fun ob => ⟨ob, [], rfl, VRL.nil⟩⟩
  | .tmp t :: l, s, s', r, hr, h => by
    unfold resultsS.go at h
    cases hg : resultsS.go E tm l s with
    | none => rw [hg] at h; cases h
    | some q =>
    obtain ⟨r1, s1⟩ := q
    rw [hg] at h; cases h
    obtain ⟨hsame, hob⟩ := results_go ht hr hg
    refine ⟨hsame, fun ob => ?_⟩
    obtain ⟨ob0, vs, hrun, hv⟩ := hob ob
    refine ⟨ob0, tmps.getD t undef :: vs, ?_, VRL.cons (ht.at t) hv⟩
    simp only [List.mapM_cons, resF, Sem.run_bind, Sem.run_pure, Result.andThen_ok, hrun]
  | .cell a t :: l, s, s', r, hr, h => by
    unfold resultsS.go at h
    cases hl : sLoad E t (tm.get a) s with
    | none => rw [hl] at h; cases h
    | some q0 =>
    obtain ⟨x, s1⟩ := q0
    rw [hl] at h
    simp only at h
    cases hg : resultsS.go E tm l s1 with
    | none => rw [hg] at h; cases h
    | some q =>
    obtain ⟨r1, s2⟩ := q
    rw [hg] at h; cases h
    have hva := ht.at a
    obtain ⟨i, off, hp⟩ := sLoad_ptr hl
    obtain ⟨hs1, hob1⟩ := sLoad_ok hl hr hva
    obtain ⟨hs2, hob2⟩ := results_go ht (hr.same hs1) hg
    refine ⟨hs1.trans hs2, fun ob => ?_⟩
    obtain ⟨ob1, vs, hrun, hv⟩ := hob2 ob
    obtain ⟨ob0, y, hy, hvy⟩ := hob1 ob1
    refine ⟨ob0, y :: vs, ?_, VRL.cons hvy hv⟩
    rw [hp] at hva
    obtain ⟨b, hb, hpt⟩ := VR.ptr_iff.1 hva
    have hy' : ((do loadVar t (← asAddr (tmps.getD a undef))) : Sem Value).run E.P w = .ok y w := by
      rw [hpt] at hy ⊢
      exact hy
    simp only [List.mapM_cons, resF, Sem.run_bind, Sem.run_pure, Result.andThen_ok, hrun] at hy' ⊢
    rw [hy']; simp only [Result.andThen_ok, hrun]

theorem results_ok {fn : Func} {tm : STm} {tmps : Array Value} {x : SV} (ht : TmR ν tm tmps) (hr : HR ν M w0 s w) (h : resultsS E fn tm s = some (x, s')) :
    s.Same s' ∧ (s'.ob → s.ob ∧ ∃ v, (results fn tmps).run E.P w = .ok v w ∧ VR ν x v) := by
  unfold resultsS at h
  cases hg : resultsS.go E tm fn.results.toList s with
  | none => rw [hg] at h; cases h
  | some q =>
  obtain ⟨l, s1⟩ := q
  rw [hg] at h
  simp only [Option.bind_some] at h
  obtain ⟨hsame, hob⟩ := results_go ht hr hg
  have hres : ∀ vs, (fn.results.toList.mapM (resF tmps)).run E.P w = .ok vs w →
      (results fn tmps).run E.P w = .ok (if h : vs.toArray.size = 1 then vs.toArray[0] else .tuple vs.toArray) w := by
    intro vs hv
    rw [results_eq, Array.mapM_eq_mapM_toList]
    simp only [Sem.run_bind, Sem.run_map, hv, Result.andThen_ok, Sem.run_pure]
  split at h
  · rename_i y
    cases h
    refine ⟨hsame, fun ob => ?_⟩
    obtain ⟨ob0, vs, hrun, hv⟩ := hob ob
    obtain ⟨v, vs', rfl, h1, h2⟩ := hv.cons_inv
    obtain rfl := h2.nil_inv
    exact ⟨ob0, v, by rw [hres _ hrun]; rfl, h1⟩
  · rename_i hne
    cases h
    refine ⟨hsame, fun ob => ?_⟩
    obtain ⟨ob0, vs, hrun, hv⟩ := hob ob
    refine ⟨ob0, .tuple vs.toArray, ?_, VR.tup_iff.2 ⟨vs, rfl, hv⟩⟩
    rw [hres _ hrun, dif_neg]
    intro h1
    have hlen := hv.length
    have h1 : vs.length = 1 := by simpa using h1
    rw [h1] at hlen
    obtain ⟨y, e⟩ := List.length_eq_one_iff.1 hlen.symm
    exact hne y e
end
end
end Go.Rx
