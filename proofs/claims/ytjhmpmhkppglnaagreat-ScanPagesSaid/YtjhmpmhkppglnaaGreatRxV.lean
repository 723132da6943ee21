/- The symbolic executor 'Rx', part V: frames and machines. By an AI agent. -/
import Derived.Test.YtjhmpmhkppglnaaGreatRxU
set_option linter.unusedVariables false
set_option linter.unusedSimpArgs false
namespace Go.Rx
section
variable {E : Env} {ν : Val} {M : Own} {w0 w : World} {s s' : SH}

/-! ### steps of the machine at an operation -/

section
variable {P : Program} {b : Frame} {a : Act} {k : List Item} {cs : List Frame} {ops : Array Oper} {i : Nat} {rest : List Nat} {o : Oper} {w' : World}

theorem step_value {y : Value} (ho : ops[i]? = some o) (hw : Region.wanted o (yielded ops a.tmps) = true) (hr : (o.semAt b.roundOf a.eval).run P w = .ok (.value y) w') :
    step P (lone (b.atR a (.inRegion ops (i :: rest) :: k)) cs w) = .next (lone (b.atR (a.put o.dst y) (.inRegion ops rest :: k)) cs w') := by
  have hfin := Frame.finish_atR b a ops i rest k y
  rw [ho] at hfin
  refine step_lone_go ?_
  rw [stepGR_op ho hw]
  simp [stepG.apply, hr, hfin]

theorem step_skip' (ho : ops[i]? = some o) (hw : Region.wanted o (yielded ops a.tmps) = true) (hr : (o.semAt b.roundOf a.eval).run P w = .ok .skip w') :
    step P (lone (b.atR a (.inRegion ops (i :: rest) :: k)) cs w) = .next (lone (b.atR (a.put o.dst undef) (.inRegion ops rest :: k)) cs w') := by
  have hfin := Frame.finish_atR b a ops i rest k undef
  rw [ho] at hfin
  refine step_lone_go ?_
  rw [stepGR_op ho hw]
  simp [stepG.apply, hr, hfin]

theorem step_enter {f : FuncId} {args : Array Value} (ho : ops[i]? = some o) (hw : Region.wanted o (yielded ops a.tmps) = true) (hr : (o.semAt b.roundOf a.eval).run P w = .ok (.enter f args) w') :
    step P (lone (b.atR a (.inRegion ops (i :: rest) :: k)) cs w) = .next (lone (Frame.enter P f args .normal) (b.atR a (.inRegion ops (i :: rest) :: k) :: cs) w') := by
  refine step_lone_go ?_
  rw [stepGR_op ho hw]
  simp [stepG.apply, hr, Frame.atR]

theorem step_round {l : Nat} {f : FuncId} {tmps : Array Value} {assign body : Code} (ho : ops[i]? = some o) (hw : Region.wanted o (yielded ops a.tmps) = true)
    (hr : (o.semAt b.roundOf a.eval).run P w = .ok (.round l f tmps assign body) w') :
    step P (lone (b.atR a (.inRegion ops (i :: rest) :: k)) cs w) = .next (lone (Frame.round l f tmps assign body .normal) (b.atR a (.inRegion ops (i :: rest) :: k) :: cs) w') := by
  refine step_lone_go ?_
  rw [stepGR_op ho hw]
  simp [stepG.apply, hr]

theorem step_defer {d : Deferred} (ho : ops[i]? = some o) (hw : Region.wanted o (yielded ops a.tmps) = true) (hr : (o.semAt b.roundOf a.eval).run P w = .ok (.defer d) w') :
    step P (lone (b.atR a (.inRegion ops (i :: rest) :: k)) cs w) = .next (lone (b.atR ({ a with defers := d :: a.defers }.put o.dst undef) (.inRegion ops rest :: k)) cs w') := by
  have hfin := Frame.finish_atR b { a with defers := d :: a.defers } ops i rest k undef
  rw [ho] at hfin
  refine step_lone_go ?_
  rw [stepGR_op ho hw]
  simp only [stepG.apply, Sem.runT_eq, hr, if_true, GStep.bare_after]
  exact congrArg (fun fr => GStep.go { frame := fr, callers := cs, status := .running, dying := none } w') hfin
end

/-! ### what a frame stands for -/

/-- Items but for a region that draws its order. -/
inductive KR (ν : Val) : SI → Item → Prop
  | code (c : Code) : KR ν (.code c) (.code c)
  | inBlock (id : Nat) : KR ν (.inBlock id) (.inBlock id)
  | inLoop (c : Code) : KR ν (.inLoop c) (.inLoop c)
  | inScope (c : Code) : KR ν (.inScope c) (.inScope c)
  | reg (ops : Array Oper) (is : List Nat) : KR ν (.reg ops is) (.inRegion ops is)
  | inRF {i : Nat} {b : Nat × Nat} (h : ν i = some b) : KR ν (.inRF i) (.inRangeFunc b.1)
  | endRF {i : Nat} {b : Nat × Nat} (h : ν i = some b) : KR ν (.endRF i) (.endRangeFunc b.1)
  | beginRound : KR ν .beginRound .beginRound

inductive KsR (ν : Val) : List SI → List Item → Prop
  | nil : KsR ν [] []
  | cons {x : SI} {y : Item} {xs : List SI} {ys : List Item} (h : KR ν x y) (t : KsR ν xs ys) : KsR ν (x :: xs) (y :: ys)

theorem KR.mono {ν' : Val} (h : ν.Le ν') {x : SI} {y : Item} : KR ν x y → KR ν' x y
  | .code c => .code c
  | .inBlock c => .inBlock c
  | .inLoop c => .inLoop c
  | .inScope c => .inScope c
  | .reg a b => .reg a b
  | .inRF e => .inRF (h _ _ e)
  | .endRF e => .endRF (h _ _ e)
  | .beginRound => .beginRound

theorem KsR.mono {ν' : Val} (h : ν.Le ν') {x : List SI} {y : List Item} (k : KsR ν x y) : KsR ν' x y := by
  induction k with
  | nil => exact .nil
  | cons hx _ ih => exact .cons (hx.mono h) ih

/-- The values of operands, temporaries given. -/
def ev (a : Array Value) : Operand → Value := Act.eval { tmps := a, defers := [] }

theorem Act.eval_ev (a : Act) : a.eval = ev a.tmps := by funext x; cases x <;> rfl

def GR (ν : Val) (E : Env) : Prop := ∀ g i, E.G.lookup g = some i → ∃ c, ν i = some (g, c)
theorem GR.mono {ν' : Val} (h : ν.Le ν') (k : GR ν E) : GR ν' E := fun g i e => let ⟨c, hc⟩ := k g i e; ⟨c, h _ _ hc⟩

theorem TmR.opd {tm : STm} {a : Array Value} (h : TmR ν tm a) (hg : GR ν E) : OpdR E ν tm (ev a) := by
  intro x
  cases x with
  | tmp t => exact h.at t
  | const v => exact VR.v_iff.2 rfl
  | global g =>
    simp only [evalOpd]
    cases hl : E.G.lookup g with
    | none => exact VR.v_iff.2 rfl
    | some i => obtain ⟨c, hc⟩ := hg g i hl; exact VR.ptr_iff.2 ⟨(g, c), hc, rfl⟩
  | func f => exact VR.v_iff.2 rfl

theorem getD_set_other {a : Array Value} {d t : Nat} {y : Value} (h : t ≠ d) : (a.setIfInBounds d y).getD t undef = a.getD t undef := by
  rw [Array.getD_eq_getD_getElem?, Array.getD_eq_getD_getElem?, Array.getElem?_setIfInBounds, if_neg (fun e => h e.symm)]
theorem getD_set_self {a : Array Value} {d : Nat} {y : Value} (h : d < a.size) : (a.setIfInBounds d y).getD d undef = y := by
  rw [Array.getD_eq_getD_getElem?, Array.getElem?_setIfInBounds, if_pos rfl, if_pos h]; rfl

def putA (a : Array Value) (o : Oper) (y : Value) : Array Value := match o.dst with | some d => a.setIfInBounds d y | none => a

theorem putA_act (a : Act) (o : Oper) (y : Value) : (a.put o.dst y).tmps = putA a.tmps o y := by
  unfold Act.put putA; cases o.dst <;> rfl
theorem putA_defers (a : Act) (o : Oper) (y : Value) : (a.put o.dst y).defers = a.defers := by
  unfold Act.put; cases o.dst <;> rfl

theorem TmR.putDst {tm : STm} {a : Array Value} (h : TmR ν tm a) (o : Oper) {x : SV} {y : Value} (hx : VR ν x y) : TmR ν (Go.Rx.putDst tm o x) (putA a o y) := by
  unfold Go.Rx.putDst putA
  cases o.dst with
  | none => exact h
  | some d => exact h.set d hx

/-- That an operation which went ahead comes to what is noted. -/
def Runs (E : Env) (ops : Array Oper) (o : Oper) (a : Array Value) (w : World) : Prop :=
  (Region.wanted o (yielded ops a) = true → ∃ y, (execOp (ev a) o).run E.P w = .ok (.value y) w ∧ ∀ d, o.dst = some d → y = a.getD d undef) ∧
  (Region.wanted o (yielded ops a) = false → ∀ d, o.dst = some d → undef = a.getD d undef)

/-- A block of ours that nothing told stands for. -/
def Hidden (M : Own) (w0 : World) (B : Nat) (r : Obj) : Prop := w0.heap[B]? = some r ∧ ¬ M B ∧ ¬ M.r B ∧ M.h B

/-- An allocation that the machine has carried out ahead of its turn here. -/
def LagOK (E : Env) (M : Own) (w0 : World) (ops : Array Oper) (a : Array Value) (q : Nat × Nat) : Prop :=
  ∃ o d so r, ops[q.1]? = some o ∧ late E ops (Region.before ops) a.size q.1 = true ∧ o.dst = some d ∧ lateSO E o.op = some so ∧ (∀ ν i, OR ν i so r) ∧ Hidden M w0 q.2 r ∧ a.getD d undef = .pointer (some ⟨q.2, 0, none⟩)

/-- A region that draws its order, on its way: a: the machine's temporaries; z: those that it would have had all that went ahead been carried out; lag: the allocations that the machine has carried out ahead of their turn here, and their blocks. -/
structure Drw (E : Env) (ν : Val) (M : Own) (w0 : World) (ops : Array Oper) (rem pend : List Nat) (lag : List (Nat × Nat)) (L : List Nat) (tm : STm) (a z : Array Value) : Prop where
  nodup : L.Nodup
  ord : L.Pairwise fun i j => ((Region.before ops).getD i 0).testBit j = false
  irr : ∀ i ∈ L, ((Region.before ops).getD i 0).testBit i = false
  lt : ∀ i ∈ L, i < ops.size
  remL : ∀ i ∈ rem, i ∈ L ∨ i ∈ lag.map (·.1)
  sub : ∀ i ∈ L, i ∈ rem ∨ i ∈ pend
  disj : ∀ i ∈ rem, i ∉ pend
  free : ∀ p ∈ pend, free ops (Region.before ops) p = true
  preds : ∀ p ∈ pend, ∀ j ∈ rem, ((Region.before ops).getD p 0).testBit j = false
  tm : TmR ν tm z
  size : a.size = z.size
  agree : ∀ t, (∀ p ∈ L, p ∈ pend → ∀ o, ops[p]? = some o → o.dst ≠ some t) → (∀ q ∈ lag, ∀ o, ops[q.1]? = some o → o.dst ≠ some t) → a.getD t undef = z.getD t undef
  pure : ∀ p ∈ pend, ∀ o, ops[p]? = some o → looks o.op = false → ∀ w, Runs E ops o z w
  lagrem : ∀ q ∈ lag, q.1 ∈ rem
  lagL : ∀ q ∈ lag, q.1 ∉ L
  lagirr : ∀ q ∈ lag, ((Region.before ops).getD q.1 0).testBit q.1 = false
  lagged : ∀ q ∈ lag, LagOK E M w0 ops a q
  lagnd : (lag.map (·.1)).Nodup
  lagord : ∀ q ∈ lag, ∀ p ∈ L, ((Region.before ops).getD q.1 0).testBit p = false

/-- What went ahead is so in this world. -/
def Stab (E : Env) (ops : Array Oper) (pend : List Nat) (z : Array Value) (w : World) : Prop := ∀ p ∈ pend, ∀ o, ops[p]? = some o → Runs E ops o z w

/-- .. in each world that the memory may stand for. -/
def StabS (E : Env) (ν : Val) (s : SH) (ops : Array Oper) (pend : List Nat) (z : Array Value) : Prop := ∀ M w0 w, HR ν M w0 s w → Stab E ops pend z w

theorem StabS.same {ops : Array Oper} {pend : List Nat} {z : Array Value} (h : StabS E ν s ops pend z) (e : s.Same s') : StabS E ν s' ops pend z := fun M w0 w hr => h M w0 w (hr.same e.symm)

theorem Drw.mono {ν' : Val} (h : ν.Le ν') {ops : Array Oper} {rem pend L : List Nat} {lag : List (Nat × Nat)} {tm : STm} {a z : Array Value} (d : Drw E ν M w0 ops rem pend lag L tm a z) : Drw E ν' M w0 ops rem pend lag L tm a z :=
  ⟨d.nodup, d.ord, d.irr, d.lt, d.remL, d.sub, d.disj, d.free, d.preds, d.tm.mono h, d.size, d.agree, d.pure, d.lagrem, d.lagL, d.lagirr, d.lagged, d.lagnd, d.lagord⟩

theorem LagOK.rebase {M' : Own} {w0' : World} {ops : Array Oper} {a : Array Value} {q : Nat × Nat} (h : LagOK E M w0 ops a q) (k : ∀ r, Hidden M w0 q.2 r → Hidden M' w0' q.2 r) : LagOK E M' w0' ops a q := by
  obtain ⟨o, d, so, r, h1, h2, h3, h4, h5, h6, h7⟩ := h
  exact ⟨o, d, so, r, h1, h2, h3, h4, h5, k r h6, h7⟩

theorem Drw.rebase {M' : Own} {w0' : World} {ops : Array Oper} {rem pend L : List Nat} {lag : List (Nat × Nat)} {tm : STm} {a z : Array Value} (d : Drw E ν M w0 ops rem pend lag L tm a z)
    (k : ∀ q ∈ lag, ∀ r, Hidden M w0 q.2 r → Hidden M' w0' q.2 r) : Drw E ν M' w0' ops rem pend lag L tm a z :=
  ⟨d.nodup, d.ord, d.irr, d.lt, d.remL, d.sub, d.disj, d.free, d.preds, d.tm, d.size, d.agree, d.pure, d.lagrem, d.lagL, d.lagirr, fun q hq => (d.lagged q hq).rebase (k q hq), d.lagnd, d.lagord⟩

/-- What 'late' says. -/
theorem late_ok {ops : Array Oper} {bf : Array Nat} {nt i : Nat} (h : late E ops bf nt i = true) : ∃ o so d, ops[i]? = some o ∧ lateSO E o.op = some so ∧ o.guard = none ∧ o.dst = some d ∧ d < nt ∧
    ∀ j q, j ≠ i → ops[j]? = some q → (bf.getD j 0).testBit i = true ∨ ((∀ x ∈ q.op.operands, x ≠ .tmp d) ∧ q.dst ≠ some d ∧ d ∉ guardSlot ops q) := by
  unfold late at h
  cases ho : ops[i]? with
  | none => rw [ho] at h; cases h
  | some o =>
    rw [ho] at h
    simp only [Bool.and_eq_true] at h
    obtain ⟨⟨h1, h2⟩, h3⟩ := h
    obtain ⟨so, hso⟩ := Option.isSome_iff_exists.1 h1
    cases hd : o.dst with
    | none => rw [hd] at h3; cases h3
    | some d =>
      rw [hd] at h3
      simp only [Bool.and_eq_true, List.all_eq_true] at h3
      obtain ⟨h3, h5⟩ := h3
      refine ⟨o, so, d, rfl, hso, by simpa using h2, hd, blt_iff.1 h3, fun j q hne hq => ?_⟩
      have hj : j < ops.size := (Array.getElem?_eq_some_iff.1 hq).1
      have h6 := h5 j (List.mem_range.2 hj)
      rw [hq] at h6
      simp only [Bool.or_eq_true, Bool.not_eq_true', Bool.or_eq_false_iff] at h6
      rcases h6 with (h6 | h6) | ⟨h6, h7⟩
      · exact absurd (Nat.eq_of_beq_eq_true h6) hne
      · exact .inl h6
      · refine .inr ⟨fun x hx e => ?_, fun e => ?_, fun hm => ?_⟩
        · subst e
          have : d ∈ namesOf q := List.mem_append_right _ (List.mem_filterMap.2 ⟨_, by simpa using hx, rfl⟩)
          rw [← List.contains_iff_mem] at this
          rw [this] at h6; cases h6
        · have : d ∈ namesOf q := List.mem_append_left _ (by simp [e])
          rw [← List.contains_iff_mem] at this
          rw [this] at h6; cases h6
        · rw [← List.contains_iff_mem] at hm
          rw [hm] at h7; cases h7

/-- What an allocation does, and what the executor says of it. -/
theorem lateSO_ok {op : Op} {so : SO} (h : lateSO E op = some so) : ∃ t r, op = .alloc t ∧ (∀ ν i, OR ν i so r) ∧ (∀ c e f, r = .cells c e f → True) ∧
    (∀ (ρ : Operand → Value) (o : Oper), o.op = op → ∀ w, (execOp ρ o).run E.P w = .ok (.value (.pointer (some ⟨w.heap.size, 0, none⟩))) { w with heap := w.heap.push r }) ∧
    (∀ (tm : STm) (o : Oper) (s : SH), o.op = op → sOp E tm o s = (sNew so s).map fun p => [(.val (.ptr p.1 0), p.2)]) := by
  unfold lateSO at h
  split at h
  · rename_i t
    obtain ⟨info, hi, h⟩ := Option.bind_eq_some_iff.1 h
    obtain ⟨z, hz, h⟩ := Option.bind_eq_some_iff.1 h
    obtain ⟨l, hl, rfl⟩ := Option.map_eq_some_iff.1 h
    refine ⟨t, .cells z.cells t, rfl, fun ν i => ?_, fun _ _ _ _ => trivial, fun ρ o ho w => ?_, fun tm o s ho => ?_⟩
    · have hcl := SV.cells_ok hl (VR.v_iff.2 rfl : VR ν (.v z) z)
      exact ⟨z.cells.toList, [], by simp, hcl, by simpa [ExtR] using hcl.length⟩
    · obtain ⟨dst, op, type, pos, aft, guard⟩ := o
      dsimp only at ho
      subst ho
      simp [execOp, Instr.alloc, run_zeroValue hi hz, newVar, newRow]
    · obtain ⟨dst, op, type, pos, aft, guard⟩ := o
      dsimp only at ho
      subst ho
      simp only [sOp, sAlloc, hi, hz, sBox, hl, Option.bind_eq_bind, Option.bind_some]
      cases sNew (.row l t (0, 0) none) s with
      | none => rfl
      | some p => rfl
  · cases h

/-- What 'free' says. -/
theorem free_ok {ops : Array Oper} {bf : Array Nat} {i : Nat} (h : free ops bf i = true) : ∃ o, ops[i]? = some o ∧ floats o.op = true ∧
    ∀ d, o.dst = some d → (∀ x ∈ o.op.operands, x ≠ .tmp d) ∧ (d ∉ guardSlot ops o) ∧
      ∀ j q, j ≠ i → ops[j]? = some q → (bf.getD j 0).testBit i = true ∨ ((∀ x ∈ q.op.operands, x ≠ .tmp d) ∧ q.dst ≠ some d ∧ d ∉ guardSlot ops q) := by
  unfold free at h
  cases ho : ops[i]? with
  | none => rw [ho] at h; cases h
  | some o =>
    rw [ho] at h
    simp only [Bool.and_eq_true] at h
    obtain ⟨h1, h2⟩ := h
    refine ⟨o, rfl, h1, fun d hd => ?_⟩
    rw [hd] at h2
    simp only [Bool.and_eq_true, Bool.not_eq_true', Bool.or_eq_false_iff, List.all_eq_true] at h2
    obtain ⟨⟨h3, h4⟩, h5⟩ := h2
    refine ⟨fun x hx e => ?_, fun hm => ?_, fun j q hne hq => ?_⟩
    · subst e
      have : d ∈ tmpsOf o := List.mem_filterMap.2 ⟨_, by simpa using hx, rfl⟩
      rw [← List.contains_iff_mem] at this
      rw [this] at h3; cases h3
    · rw [← List.contains_iff_mem] at hm
      rw [hm] at h4; cases h4
    · have hj : j < ops.size := (Array.getElem?_eq_some_iff.1 hq).1
      have h6 := h5 j (List.mem_range.2 hj)
      rw [hq] at h6
      simp only [Bool.or_eq_true, Bool.not_eq_true', Bool.or_eq_false_iff] at h6
      rcases h6 with (h6 | h6) | ⟨h6, h7⟩
      · exact absurd (Nat.eq_of_beq_eq_true h6) hne
      · exact .inl h6
      · refine .inr ⟨fun x hx e => ?_, fun e => ?_, fun hm => ?_⟩
        · subst e
          have : d ∈ namesOf q := List.mem_append_right _ (List.mem_filterMap.2 ⟨_, by simpa using hx, rfl⟩)
          rw [← List.contains_iff_mem] at this
          rw [this] at h6; cases h6
        · have : d ∈ namesOf q := List.mem_append_left _ (by simp [e])
          rw [← List.contains_iff_mem] at this
          rw [this] at h6; cases h6
        · rw [← List.contains_iff_mem] at hm
          rw [hm] at h7; cases h7

end
end Go.Rx
