/- The symbolic executor 'Rx', part V: frames and machines. By an AI agent. -/
import Derived.Test.YtiggmgcnjmalfaaGreatDoorRxP
set_option linter.unusedVariables false
set_option linter.unusedSimpArgs false
namespace Go.Rx
section
variable {E : Env} {ν : Val} {M : Own} {w0 w : World} {s s' : SH}

/-! ### steps of the machine at an operation -/

section
variable {P : Program} {b : Frame} {a : Act} {k : List Item} {cs : List Frame} {ops : Array Oper} {i : Nat} {rest : List Nat} {o : Oper} {w' : World}

theorem step_value {y : Value} (ho : ops[i]? = some o) (hw : Region.wanted o (yielded ops a.tmps) = true) (hr : (o.semAt b.roundOf a.eval).run P w = .ok (.value y) w') :
    step P (lone (b.atR a (.inRegion ops (i :: rest) :: k)) cs w) = .next (lone (b.atR (a.put o.dst y) (.inRegion ops rest :: k)) cs w') := by
  have hfin := Frame.finish_atR b a ops i rest k y
  rw [ho] at hfin
  refine step_lone_go ?_
  rw [stepGR_op ho hw]
  simp [stepG.apply, hr, hfin]

theorem step_skip' (ho : ops[i]? = some o) (hw : Region.wanted o (yielded ops a.tmps) = true) (hr : (o.semAt b.roundOf a.eval).run P w = .ok .skip w') :
    step P (lone (b.atR a (.inRegion ops (i :: rest) :: k)) cs w) = .next (lone (b.atR (a.put o.dst undef) (.inRegion ops rest :: k)) cs w') := by
  have hfin := Frame.finish_atR b a ops i rest k undef
  rw [ho] at hfin
  refine step_lone_go ?_
  rw [stepGR_op ho hw]
  simp [stepG.apply, hr, hfin]

theorem step_enter {f : FuncId} {args : Array Value} (ho : ops[i]? = some o) (hw : Region.wanted o (yielded ops a.tmps) = true) (hr : (o.semAt b.roundOf a.eval).run P w = .ok (.enter f args) w') :
    step P (lone (b.atR a (.inRegion ops (i :: rest) :: k)) cs w) = .next (lone (Frame.enter P f args .normal) (b.atR a (.inRegion ops (i :: rest) :: k) :: cs) w') := by
  refine step_lone_go ?_
  rw [stepGR_op ho hw]
  simp [stepG.apply, hr, Frame.atR]

theorem step_round {l : Nat} {f : FuncId} {tmps : Array Value} {assign body : Code} (ho : ops[i]? = some o) (hw : Region.wanted o (yielded ops a.tmps) = true)
    (hr : (o.semAt b.roundOf a.eval).run P w = .ok (.round l f tmps assign body) w') :
    step P (lone (b.atR a (.inRegion ops (i :: rest) :: k)) cs w) = .next (lone (Frame.round l f tmps assign body .normal) (b.atR a (.inRegion ops (i :: rest) :: k) :: cs) w') := by
  refine step_lone_go ?_
  rw [stepGR_op ho hw]
  simp [stepG.apply, hr]

theorem step_defer {d : Deferred} (ho : ops[i]? = some o) (hw : Region.wanted o (yielded ops a.tmps) = true) (hr : (o.semAt b.roundOf a.eval).run P w = .ok (.defer d) w') :
    step P (lone (b.atR a (.inRegion ops (i :: rest) :: k)) cs w) = .next (lone (b.atR ({ a with defers := d :: a.defers }.put o.dst undef) (.inRegion ops rest :: k)) cs w') := by
  have hfin := Frame.finish_atR b { a with defers := d :: a.defers } ops i rest k undef
  rw [ho] at hfin
  refine step_lone_go ?_
  rw [stepGR_op ho hw]
  simp only [stepG.apply, Sem.runT_eq, hr, if_true, GStep.bare_after]
  exact congrArg (fun fr => GStep.go { frame := fr, callers := cs, status := .running, dying := none } w') hfin
end

/-! ### what a frame stands for -/

/-- Items but for a region that draws its order. -/
inductive KR (ν : Val) : SI → Item → Prop
  | code (c : Code) : KR ν (.code c) (.code c)
  | inBlock (id : Nat) : KR ν (.inBlock id) (.inBlock id)
  | inLoop (c : Code) : KR ν (.inLoop c) (.inLoop c)
  | inScope (c : Code) : KR ν (.inScope c) (.inScope c)
  | reg (ops : Array Oper) (is : List Nat) : KR ν (.reg ops is) (.inRegion ops is)
  | inRF {i : Nat} {b : Nat × Nat} (h : ν i = some b) : KR ν (.inRF i) (.inRangeFunc b.1)
  | endRF {i : Nat} {b : Nat × Nat} (h : ν i = some b) : KR ν (.endRF i) (.endRangeFunc b.1)
  | beginRound : KR ν .beginRound .beginRound

inductive KsR (ν : Val) : List SI → List Item → Prop
  | nil : KsR ν [] []
  | cons {x : SI} {y : Item} {xs : List SI} {ys : List Item} (h : KR ν x y) (t : KsR ν xs ys) : KsR ν (x :: xs) (y :: ys)

theorem KR.mono {ν' : Val} (h : ν.Le ν') {x : SI} {y : Item} : KR ν x y → KR ν' x y
  | .code c => .code c
  | .inBlock c => .inBlock c
  | .inLoop c => .inLoop c
  | .inScope c => .inScope c
  | .reg a b => .reg a b
  | .inRF e => .inRF (h _ _ e)
  | .endRF e => .endRF (h _ _ e)
  | .beginRound => .beginRound

theorem KsR.mono {ν' : Val} (h : ν.Le ν') {x : List SI} {y : List Item} (k : KsR ν x y) : KsR ν' x y := by
  induction k with
  | nil => exact .nil
  | cons hx _ ih => exact .cons (hx.mono h) ih

/-- The values of operands, temporaries given. -/
def ev (a : Array Value) : Operand → Value := Act.eval { tmps := a, defers := [] }

theorem Act.eval_ev (a : Act) : a.eval = ev a.tmps := by funext x; cases x <;> rfl

def GR (ν : Val) (E : Env) : Prop := ∀ g i, E.G.lookup g = some i → ∃ c, ν i = some (g, c)
theorem GR.mono {ν' : Val} (h : ν.Le ν') (k : GR ν E) : GR ν' E := fun g i e => let ⟨c, hc⟩ := k g i e; ⟨c, h _ _ hc⟩

theorem TmR.opd {tm : STm} {a : Array Value} (h : TmR ν tm a) (hg : GR ν E) : OpdR E ν tm (ev a) := by
  intro x
  cases x with
  | tmp t => exact h.at t
  | const v => exact VR.v_iff.2 rfl
  | global g =>
    simp only [evalOpd]
    cases hl : E.G.lookup g with
    | none => exact VR.v_iff.2 rfl
    | some i => obtain ⟨c, hc⟩ := hg g i hl; exact VR.ptr_iff.2 ⟨(g, c), hc, rfl⟩
  | func f => exact VR.v_iff.2 rfl

theorem getD_set_other {a : Array Value} {d t : Nat} {y : Value} (h : t ≠ d) : (a.setIfInBounds d y).getD t undef = a.getD t undef := by
  rw [Array.getD_eq_getD_getElem?, Array.getD_eq_getD_getElem?, Array.getElem?_setIfInBounds, if_neg (fun e => h e.symm)]
theorem getD_set_self {a : Array Value} {d : Nat} {y : Value} (h : d < a.size) : (a.setIfInBounds d y).getD d undef = y := by
  rw [Array.getD_eq_getD_getElem?, Array.getElem?_setIfInBounds, if_pos rfl, if_pos h]; rfl

def putA (a : Array Value) (o : Oper) (y : Value) : Array Value := match o.dst with | some d => a.setIfInBounds d y | none => a

theorem putA_act (a : Act) (o : Oper) (y : Value) : (a.put o.dst y).tmps = putA a.tmps o y := by
  unfold Act.put putA; cases o.dst <;> rfl
theorem putA_defers (a : Act) (o : Oper) (y : Value) : (a.put o.dst y).defers = a.defers := by
  unfold Act.put; cases o.dst <;> rfl

theorem TmR.putDst {tm : STm} {a : Array Value} (h : TmR ν tm a) (o : Oper) {x : SV} {y : Value} (hx : VR ν x y) : TmR ν (Go.Rx.putDst tm o x) (putA a o y) := by
  unfold Go.Rx.putDst putA
  cases o.dst with
  | none => exact h
  | some d => exact h.set d hx

/-- That an operation which went ahead comes to what is noted. -/
def Runs (E : Env) (ops : Array Oper) (o : Oper) (a : Array Value) (w : World) : Prop :=
  (Region.wanted o (yielded ops a) = true → ∃ y, (execOp (ev a) o).run E.P w = .ok (.value y) w ∧ ∀ d, o.dst = some d → y = a.getD d undef) ∧
  (Region.wanted o (yielded ops a) = false → ∀ d, o.dst = some d → undef = a.getD d undef)

/-- A block of ours that nothing told stands for. -/
def Hidden (M : Own) (w0 : World) (B : Nat) (r : Obj) : Prop := w0.heap[B]? = some r ∧ ¬ M B ∧ ¬ M.r B ∧ M.h B

/-- An allocation that the machine has carried out ahead of its turn here. -/
def LagOK (E : Env) (M : Own) (w0 : World) (ops : Array Oper) (a : Array Value) (q : Nat × Nat) : Prop :=
  ∃ o d so r, ops[q.1]? = some o ∧ late E ops (Region.before ops) a.size q.1 = true ∧ o.dst = some d ∧ lateSO E o.op = some so ∧ (∀ ν i, OR ν i so r) ∧ Hidden M w0 q.2 r ∧ a.getD d undef = .pointer (some ⟨q.2, 0, none⟩)

/-- A region that draws its order, on its way: a: the machine's temporaries; z: those that it would have had all that went ahead been carried out; lag: the allocations that the machine has carried out ahead of their turn here, and their blocks. -/
structure Drw (E : Env) (ν : Val) (M : Own) (w0 : World) (ops : Array Oper) (rem pend : List Nat) (lag : List (Nat × Nat)) (L : List Nat) (tm : STm) (a z : Array Value) : Prop where
  nodup : L.Nodup
  ord : L.Pairwise fun i j => ((Region.before ops).getD i 0).testBit j = false
  irr : ∀ i ∈ L, ((Region.before ops).getD i 0).testBit i = false
  lt : ∀ i ∈ L, i < ops.size
  remL : ∀ i ∈ rem, i ∈ L ∨ i ∈ lag.map (·.1)
  sub : ∀ i ∈ L, i ∈ rem ∨ i ∈ pend
  disj : ∀ i ∈ rem, i ∉ pend
  free : ∀ p ∈ pend, free ops (Region.before ops) p = true
  preds : ∀ p ∈ pend, ∀ j ∈ rem, ((Region.before ops).getD p 0).testBit j = false
  tm : TmR ν tm z
  size : a.size = z.size
  agree : ∀ t, (∀ p ∈ L, p ∈ pend → ∀ o, ops[p]? = some o → o.dst ≠ some t) → (∀ q ∈ lag, ∀ o, ops[q.1]? = some o → o.dst ≠ some t) → a.getD t undef = z.getD t undef
  pure : ∀ p ∈ pend, ∀ o, ops[p]? = some o → looks o.op = false → ∀ w, Runs E ops o z w
  lagrem : ∀ q ∈ lag, q.1 ∈ rem
  lagL : ∀ q ∈ lag, q.1 ∉ L
  lagirr : ∀ q ∈ lag, ((Region.before ops).getD q.1 0).testBit q.1 = false
  lagged : ∀ q ∈ lag, LagOK E M w0 ops a q
  lagnd : (lag.map (·.1)).Nodup
  lagord : ∀ q ∈ lag, ∀ p ∈ L, ((Region.before ops).getD q.1 0).testBit p = false

/-- What went ahead is so in this world. -/
def Stab (E : Env) (ops : Array Oper) (pend : List Nat) (z : Array Value) (w : World) : Prop := ∀ p ∈ pend, ∀ o, ops[p]? = some o → Runs E ops o z w

/-- .. in each world that the memory may stand for. -/
def StabS (E : Env) (ν : Val) (s : SH) (ops : Array Oper) (pend : List Nat) (z : Array Value) : Prop := ∀ M w0 w, HR ν M w0 s w → Stab E ops pend z w

theorem StabS.same {ops : Array Oper} {pend : List Nat} {z : Array Value} (h : StabS E ν s ops pend z) (e : s.Same s') : StabS E ν s' ops pend z := fun M w0 w hr => h M w0 w (hr.same e.symm)

theorem Drw.mono {ν' : Val} (h : ν.Le ν') {ops : Array Oper} {rem pend L : List Nat} {lag : List (Nat × Nat)} {tm : STm} {a z : Array Value} (d : Drw E ν M w0 ops rem pend lag L tm a z) : Drw E ν' M w0 ops rem pend lag L tm a z :=
  ⟨d.nodup, d.ord, d.irr, d.lt, d.remL, d.sub, d.disj, d.free, d.preds, d.tm.mono h, d.size, d.agree, d.pure, d.lagrem, d.lagL, d.lagirr, d.lagged, d.lagnd, d.lagord⟩

theorem LagOK.rebase {M' : Own} {w0' : World} {ops : Array Oper} {a : Array Value} {q : Nat × Nat} (h : LagOK E M w0 ops a q) (k : ∀ r, Hidden M w0 q.2 r → Hidden M' w0' q.2 r) : LagOK E M' w0' ops a q := by
  obtain ⟨o, d, so, r, h1, h2, h3, h4, h5, h6, h7⟩ := h
  exact ⟨o, d, so, r, h1, h2, h3, h4, h5, k r h6, h7⟩

theorem Drw.rebase {M' : Own} {w0' : World} {ops : Array Oper} {rem pend L : List Nat} {lag : List (Nat × Nat)} {tm : STm} {a z : Array Value} (d : Drw E ν M w0 ops rem pend lag L tm a z)
    (k : ∀ q ∈ lag, ∀ r, Hidden M w0 q.2 r → Hidden M' w0' q.2 r) : Drw E ν M' w0' ops rem pend lag L tm a z :=
  ⟨d.nodup, d.ord, d.irr, d.lt, d.remL, d.sub, d.disj, d.free, d.preds, d.tm, d.size, d.agree, d.pure, d.lagrem, d.lagL, d.lagirr, fun q hq => (d.lagged q hq).rebase (k q hq), d.lagnd, d.lagord⟩

/-- What 'late' says. -/
theorem late_ok {ops : Array Oper} {bf : Array Nat} {nt i : Nat} (h : late E ops bf nt i = true) : ∃ o so d, ops[i]? = some o ∧ lateSO E o.op = some so ∧ o.guard = none ∧ o.dst = some d ∧ d < nt ∧
    ∀ j q, j ≠ i → ops[j]? = some q → (bf.getD j 0).testBit i = true ∨ ((∀ x ∈ q.op.operands, x ≠ .tmp d) ∧ q.dst ≠ some d ∧ d ∉ guardSlot ops q) := by
  unfold late at h
  cases ho : ops[i]? with
  | none => rw [ho] at h; cases h
  | some o =>
    rw [ho] at h
    simp only [Bool.and_eq_true] at h
    obtain ⟨⟨h1, h2⟩, h3⟩ := h
    obtain ⟨so, hso⟩ := Option.isSome_iff_exists.1 h1
    cases hd : o.dst with
    | none => rw [hd] at h3; cases h3
    | some d =>
      rw [hd] at h3
      simp only [Bool.and_eq_true, List.all_eq_true] at h3
      obtain ⟨h3, h5⟩ := h3
      refine ⟨o, so, d, rfl, hso, by simpa using h2, hd, blt_iff.1 h3, fun j q hne hq => ?_⟩
      have hj : j < ops.size := (Array.getElem?_eq_some_iff.1 hq).1
      have h6 := h5 j (List.mem_range.2 hj)
      rw [hq] at h6
      simp only [Bool.or_eq_true, Bool.not_eq_true', Bool.or_eq_false_iff] at h6
      rcases h6 with (h6 | h6) | ⟨h6, h7⟩
      · exact absurd (Nat.eq_of_beq_eq_true h6) hne
      · exact .inl h6
      · refine .inr ⟨fun x hx e => ?_, fun e => ?_, fun hm => ?_⟩
        · subst e
          have : d ∈ namesOf q := List.mem_append_right _ (List.mem_filterMap.2 ⟨_, by simpa using hx, rfl⟩)
          rw [← List.contains_iff_mem] at this
          rw [this] at h6; cases h6
        · have : d ∈ namesOf q := List.mem_append_left _ (by simp [e])
          rw [← List.contains_iff_mem] at this
          rw [this] at h6; cases h6
        · rw [← List.contains_iff_mem] at hm
          rw [hm] at h7; cases h7

/-- What an allocation does, and what the executor says of it. -/
theorem lateSO_ok {op : Op} {so : SO} (h : lateSO E op = some so) : ∃ t r, op = .alloc t ∧ (∀ ν i, OR ν i so r) ∧ (∀ c e f, r = .cells c e f → True) ∧
    (∀ (ρ : Operand → Value) (o : Oper), o.op = op → ∀ w, (execOp ρ o).run E.P w = .ok (.value (.pointer (some ⟨w.heap.size, 0, none⟩))) { w with heap := w.heap.push r }) ∧
    (∀ (tm : STm) (o : Oper) (s : SH), o.op = op → sOp E tm o s = (sNew so s).map fun p => [(.val (.ptr p.1 0), p.2)]) := by
  unfold lateSO at h
  split at h
  · rename_i t
    obtain ⟨info, hi, h⟩ := Option.bind_eq_some_iff.1 h
    obtain ⟨z, hz, h⟩ := Option.bind_eq_some_iff.1 h
    obtain ⟨l, hl, rfl⟩ := Option.map_eq_some_iff.1 h
    refine ⟨t, .cells z.cells t, rfl, fun ν i => ?_, fun _ _ _ _ => trivial, fun ρ o ho w => ?_, fun tm o s ho => ?_⟩
    · have hcl := SV.cells_ok hl (VR.v_iff.2 rfl : VR ν (.v z) z)
      exact ⟨z.cells.toList, [], by simp, hcl, by simpa [ExtR] using hcl.length⟩
    · obtain ⟨dst, op, type, pos, aft, guard⟩ := o
      dsimp only at ho
      subst ho
      simp [execOp, Instr.alloc, run_zeroValue hi hz, newVar, newRow]
    · obtain ⟨dst, op, type, pos, aft, guard⟩ := o
      dsimp only at ho
      subst ho
      simp only [sOp, sAlloc, hi, hz, sBox, hl, Option.bind_eq_bind, Option.bind_some]
      cases sNew (.row l t (0, 0) none) s with
      | none => rfl
      | some p => rfl
  · cases h

/-- What 'free' says. -/
theorem free_ok {ops : Array Oper} {bf : Array Nat} {i : Nat} (h : free ops bf i = true) : ∃ o, ops[i]? = some o ∧ floats o.op = true ∧
    ∀ d, o.dst = some d → (∀ x ∈ o.op.operands, x ≠ .tmp d) ∧ (d ∉ guardSlot ops o) ∧
      ∀ j q, j ≠ i → ops[j]? = some q → (bf.getD j 0).testBit i = true ∨ ((∀ x ∈ q.op.operands, x ≠ .tmp d) ∧ q.dst ≠ some d ∧ d ∉ guardSlot ops q) := by
  unfold free at h
  cases ho : ops[i]? with
  | none => rw [ho] at h; cases h
  | some o =>
    rw [ho] at h
    simp only [Bool.and_eq_true] at h
    obtain ⟨h1, h2⟩ := h
    refine ⟨o, rfl, h1, fun d hd => ?_⟩
    rw [hd] at h2
    simp only [Bool.and_eq_true, Bool.not_eq_true', Bool.or_eq_false_iff, List.all_eq_true] at h2
    obtain ⟨⟨h3, h4⟩, h5⟩ := h2
    refine ⟨fun x hx e => ?_, fun hm => ?_, fun j q hne hq => ?_⟩
    · subst e
      have : d ∈ tmpsOf o := List.mem_filterMap.2 ⟨_, by simpa using hx, rfl⟩
      rw [← List.contains_iff_mem] at this
      rw [this] at h3; cases h3
    · rw [← List.contains_iff_mem] at hm
      rw [hm] at h4; cases h4
    · have hj : j < ops.size := (Array.getElem?_eq_some_iff.1 hq).1
      have h6 := h5 j (List.mem_range.2 hj)
      rw [hq] at h6
      simp only [Bool.or_eq_true, Bool.not_eq_true', Bool.or_eq_false_iff] at h6
      rcases h6 with (h6 | h6) | ⟨h6, h7⟩
      · exact absurd (Nat.eq_of_beq_eq_true h6) hne
      · exact .inl h6
      · refine .inr ⟨fun x hx e => ?_, fun e => ?_, fun hm => ?_⟩
        · subst e
          have : d ∈ namesOf q := List.mem_append_right _ (List.mem_filterMap.2 ⟨_, by simpa using hx, rfl⟩)
          rw [← List.contains_iff_mem] at this
          rw [this] at h6; cases h6
        · have : d ∈ namesOf q := List.mem_append_left _ (by simp [e])
          rw [← List.contains_iff_mem] at this
          rw [this] at h6; cases h6
        · rw [← List.contains_iff_mem] at hm
          rw [hm] at h7; cases h7

end
end Go.Rx
set_option linter.unusedVariables false
set_option linter.unusedSimpArgs false
namespace Go.Rx
section
variable {E : Env} {ν : Val} {M : Own} {w0 w : World} {s s' : SH}
variable {ops : Array Oper} {rem pend L : List Nat} {lag : List (Nat × Nat)} {tm : STm} {a z : Array Value}

/-- No allocation that was carried out ahead comes ahead of this operation. -/
def NoLag (ops : Array Oper) (lag : List (Nat × Nat)) (h : Nat) : Prop := ∀ q ∈ lag, ((Region.before ops).getD h 0).testBit q.1 = false

/-- The slot of such an allocation is named by no operation that does not come behind it. -/
theorem Drw.lagslot (d : Drw E ν M w0 ops rem pend lag L tm a z) {q : Nat × Nat} (hq : q ∈ lag) {o1 : Oper} (ho1 : ops[q.1]? = some o1) {t : Nat} (ht : o1.dst = some t) {h : Nat} (hne : h ≠ q.1) (hb : ((Region.before ops).getD h 0).testBit q.1 = false)
    {o : Oper} (ho : ops[h]? = some o) : (∀ x ∈ o.op.operands, x ≠ .tmp t) ∧ o.dst ≠ some t ∧ t ∉ guardSlot ops o := by
  obtain ⟨o2, d2, so, r, h1, h2, h3, _⟩ := d.lagged q hq
  obtain ⟨o3, so3, d3, h4, _, _, h5, _, h6⟩ := late_ok h2
  rw [ho1] at h1 h4; cases h1; cases h4
  rw [ht] at h5; cases h5
  rcases h6 h o hne ho with hx | hx
  · rw [hb] at hx; cases hx
  · exact hx

/-- What the next operation names, the machine has as it would. -/
theorem Drw.named {h : Nat} (d : Drw E ν M w0 ops rem pend lag (h :: L) tm a z) (hl : NoLag ops lag h) {o : Oper} (ho : ops[h]? = some o) {t : Nat} (ht : Operand.tmp t ∈ o.op.operands ∨ t ∈ guardSlot ops o) :
    a.getD t undef = z.getD t undef := by
  refine d.agree t (fun p hp hpp q hq e => ?_) (fun q hq o1 ho1 e => ?_)
  · obtain ⟨q', hq', _, hf⟩ := free_ok (d.free p hpp)
    rw [hq] at hq'; cases hq'
    obtain ⟨h1, h2, h3⟩ := hf t e
    by_cases hph : p = h
    · subst hph
      rw [hq] at ho; cases ho
      rcases ht with ht | ht
      · exact h1 _ ht rfl
      · exact h2 ht
    · rcases h3 h o (fun e => hph e.symm) ho with hb | ⟨h4, _, h6⟩
      · have hpL : p ∈ L := by
          rcases List.mem_cons.1 hp with e | e
          · exact absurd e hph
          · exact e
        have := (List.pairwise_cons.1 d.ord).1 p hpL
        rw [this] at hb; cases hb
      · rcases ht with ht | ht
        · exact h4 _ ht rfl
        · exact h6 ht
  · have hne : h ≠ q.1 := fun e => d.lagL q hq (e ▸ List.mem_cons_self)
    obtain ⟨h1, _, h3⟩ := d.lagslot hq ho1 e hne (hl q hq) ho
    rcases ht with ht | ht
    · exact h1 _ ht rfl
    · exact h3 ht

theorem Drw.opds {h : Nat} (d : Drw E ν M w0 ops rem pend lag (h :: L) tm a z) (hl : NoLag ops lag h) {o : Oper} (ho : ops[h]? = some o) : ∀ x ∈ o.op.operands, ev a x = ev z x := by
  intro x hx
  cases x with
  | tmp t => exact d.named hl ho (.inl hx)
  | const v => rfl
  | global g => rfl
  | func f => rfl

theorem getElem?_of_getD {a z : Array Value} (hs : a.size = z.size) {t : Nat} (h : a.getD t undef = z.getD t undef) : a[t]? = z[t]? := by
  by_cases ht : t < a.size
  · rw [Array.getElem?_eq_getElem ht, Array.getElem?_eq_getElem (by omega)]
    rw [Array.getD_eq_getD_getElem?, Array.getD_eq_getD_getElem?, Array.getElem?_eq_getElem ht, Array.getElem?_eq_getElem (by omega)] at h
    simpa using h
  · rw [Array.getElem?_eq_none (by omega), Array.getElem?_eq_none (by omega)]

theorem Drw.wanted {h : Nat} (d : Drw E ν M w0 ops rem pend lag (h :: L) tm a z) (hl : NoLag ops lag h) {o : Oper} (ho : ops[h]? = some o) : Region.wanted o (yielded ops a) = Region.wanted o (yielded ops z) := by
  unfold Region.wanted
  cases hg : o.guard with
  | none => rfl
  | some jw =>
    obtain ⟨j, want⟩ := jw
    simp only
    have : yielded ops a j = yielded ops z j := by
      unfold yielded
      cases hj : (ops[j]?).bind (·.dst) with
      | none => rfl
      | some t =>
        have ht : t ∈ guardSlot ops o := by
          unfold guardSlot
          rw [hg]
          simp [hj]
        simp only [Option.bind_some, getElem?_of_getD d.size (d.named hl ho (.inr ht))]
    rw [this]

theorem floats_no_select {o : Oper} (h : floats o.op = true) : (∀ cs b, o.op ≠ .select cs b) ∧ ∀ c, o.op ≠ .defer c := by
  constructor
  · intro cs b e; rw [e] at h; cases h
  · intro c e; rw [e] at h; cases h

theorem putA_size' {o : Oper} {y : Value} : (putA a o y).size = a.size := by unfold putA; cases o.dst <;> simp

/-- A slot that is put turns no other. -/
theorem LagOK.put {q : Nat × Nat} (h : LagOK E M w0 ops a q) {o : Oper} {y : Value} (hs : ∀ o1 t, ops[q.1]? = some o1 → o1.dst = some t → o.dst ≠ some t) : LagOK E M w0 ops (putA a o y) q := by
  obtain ⟨o1, d, so, r, h1, h2, h3, h4, h5, h6, h7⟩ := h
  refine ⟨o1, d, so, r, h1, by rw [putA_size']; exact h2, h3, h4, h5, h6, ?_⟩
  rw [← h7]
  unfold putA
  cases hd : o.dst with
  | none => rfl
  | some u => exact getD_set_other (fun e => hs o1 d h1 h3 (by rw [hd, e]))

/-- The machine carries out one that went ahead. -/
theorem Drw.pending {h : Nat} (d : Drw E ν M w0 ops rem pend lag (h :: L) tm a z) (hp : h ∈ pend) (hst : Stab E ops pend z w) {b : Frame} {df : List Deferred} {k : List Item} {cs : List Frame} :
    ∃ a', step E.P (lone (b.atR ⟨a, df⟩ (.inRegion ops (h :: L) :: k)) cs w) = .next (lone (b.atR ⟨a', df⟩ (.inRegion ops L :: k)) cs w) ∧ Drw E ν M w0 ops rem pend lag L tm a' z := by
  obtain ⟨o, ho, hfl, _⟩ := free_ok (d.free h hp)
  obtain ⟨hns, hnd⟩ := floats_no_select hfl
  have hruns := hst h hp o ho
  have hl : NoLag ops lag h := fun q hq => d.preds h hp q.1 (d.lagrem q hq)
  have hw := d.wanted hl ho
  have hnotrem : h ∉ rem := fun hr => d.disj h hr hp
  -- what is put, and that then the two agree off what is left
  have close : ∀ y, (∀ t, o.dst = some t → y = z.getD t undef) → Drw E ν M w0 ops rem pend lag L tm (putA a o y) z := by
    intro y hy
    refine ⟨(List.nodup_cons.1 d.nodup).2, (List.pairwise_cons.1 d.ord).2, fun i hi => d.irr i (List.mem_cons_of_mem _ hi), fun i hi => d.lt i (List.mem_cons_of_mem _ hi), fun i hi => ?_, fun i hi => d.sub i (List.mem_cons_of_mem _ hi),
      d.disj, d.free, d.preds, d.tm, ?_, fun t ht htl => ?_, d.pure, d.lagrem, fun q hq hm => d.lagL q hq (List.mem_cons_of_mem _ hm), d.lagirr, fun q hq => (d.lagged q hq).put fun o1 t h1 h2 => ?_, d.lagnd, fun q hq p hp => d.lagord q hq p (List.mem_cons_of_mem _ hp)⟩
    · rcases d.remL i hi with h1 | h1
      · rcases List.mem_cons.1 h1 with rfl | h1
        · exact absurd hi hnotrem
        · exact .inl h1
      · exact .inr h1
    · rw [putA_size']; exact d.size
    · unfold putA
      cases hd : o.dst with
      | none =>
        refine d.agree t (fun p hp' hpp q hq e => ?_) htl
        rcases List.mem_cons.1 hp' with rfl | h1
        · rw [ho] at hq; cases hq; rw [hd] at e; cases e
        · exact ht p h1 hpp q hq e
      | some u =>
        by_cases etu : t = u
        · subst etu
          by_cases hsz : t < a.size
          · rw [getD_set_self hsz]; exact hy t hd
          · have h1 : a.size ≤ t := Nat.not_lt.mp hsz
            have h2 : z.size ≤ t := by rw [← d.size]; exact h1
            have h3 : (a.setIfInBounds t y).size ≤ t := by simpa using h1
            rw [Array.getD_eq_getD_getElem?, Array.getElem?_eq_none h3, Array.getD_eq_getD_getElem?, Array.getElem?_eq_none h2]
        · rw [getD_set_other etu]
          refine d.agree t (fun p hp' hpp q hq e => ?_) htl
          rcases List.mem_cons.1 hp' with rfl | h1
          · rw [ho] at hq; cases hq; rw [hd] at e; exact etu (Option.some.inj e).symm
          · exact ht p h1 hpp q hq e
    · have hne : h ≠ q.1 := fun e => d.lagL q hq (e ▸ List.mem_cons_self)
      exact (d.lagslot hq h1 h2 hne (hl q hq) ho).2.1
  cases hwb : Region.wanted o (yielded ops z)
  · -- not wanted
    refine ⟨putA a o undef, ?_, close undef (hruns.2 hwb)⟩
    have hs := stepR_op_skip (P := E.P) (b := b) (a := ⟨a, df⟩) (k := k) (cs := cs) (w := w) (ops := ops) (i := h) (rest := L) (by rw [ho]; simp [hw, hwb])
    rw [hs, ho]
    congr 3
    unfold putA Act.put
    simp only [Option.bind_some]
    cases o.dst <;> rfl
  · obtain ⟨y, hrun, hy⟩ := hruns.1 hwb
    refine ⟨putA a o y, ?_, close y hy⟩
    have hc : execOp (ev a) o = execOp (ev z) o := Go.execOp_congr o hns (d.opds hl ho)
    have hs := step_value (P := E.P) (b := b) (a := ⟨a, df⟩) (k := k) (cs := cs) (w := w) (ops := ops) (i := h) (rest := L) (w' := w) ho (by simp only; rw [hw, hwb]) (by
      rw [Oper.semAt_eq _ _ _ hnd, Act.eval_ev]
      simp only; rw [hc]; exact hrun)
    rw [hs]
    congr 3
    unfold putA Act.put
    cases o.dst <;> rfl

theorem Stab.sub {pend' : List Nat} (h : Stab E ops pend z w) (hs : ∀ p ∈ pend', p ∈ pend) : Stab E ops pend' z w := fun p hp o ho => h p (hs p hp) o ho

/-! ### where the blocks are reckoned from -/

/-- (M1, w1) says no less than (M, w0). -/
structure Base (M : Own) (w0 : World) (M1 : Own) (w1 : World) : Prop where
  size : w0.heap.size ≤ w1.heap.size
  os : w1.os = w0.os
  tape : w1.tape = w0.tape
  output : w1.output = w0.output
  frame : ∀ b, b < w0.heap.size → ¬ M b → w1.heap[b]? = w0.heap[b]? ∧ ¬ M1 b
  own : ∀ b, w1.heap.size ≤ b ∨ M1 b → w0.heap.size ≤ b ∨ M b
  ro : ∀ b, M1.r b ↔ M.r b
  hid : ∀ b, M1.h b → w0.heap.size ≤ b ∨ M b
  rlt : ∀ b, M1.r b → b < w1.heap.size

theorem Base.refl (h : ∀ b, M.r b → b < w0.heap.size) (hh : ∀ b, ¬ M.h b) : Base M w0 M w0 :=
  ⟨Nat.le_refl _, rfl, rfl, rfl, fun _ _ h => ⟨rfl, h⟩, fun _ h => h, fun _ => Iff.rfl, fun b h => absurd h (hh b), h⟩

theorem HR.unbase {M1 : Own} {w1 : World} (B : Base M w0 M1 w1) (h : HR ν M1 w1 s w) : HR ν M w0 s w :=
  ⟨h.full, h.dom, h.fresh, fun i hi x hx => let ⟨b, o, h1, h2, h3, h4⟩ := h.obj i hi x hx; ⟨b, o, h1, h2, h3, fun e => B.own _ (h4 e)⟩, h.inj, Nat.le_trans B.size h.size,
    fun b hb hM => by rw [h.frame b (Nat.lt_of_lt_of_le hb B.size) (B.frame b hb hM).2, (B.frame b hb hM).1], fun i hi x hx e b hb => (B.ro _).1 (h.ro i hi x hx e b hb), h.os.trans B.os, h.tape.trans B.tape, h.output.trans B.output⟩

/-- A block is made that is hidden: from then on it is reckoned so. -/
def Own.hide (M1 : Own) (n B : Nat) : Own := ⟨fun b => (M1 b ∨ n ≤ b) ∧ b ≠ B, M1.r, fun b => M1.h b ∨ b = B⟩

theorem HR.hide {M1 : Own} {w1 : World} (h : HR ν M1 w1 s w) (r : Obj) : HR ν (M1.hide w1.heap.size w.heap.size) { w with heap := w.heap.push r } s { w with heap := w.heap.push r } := by
  refine ⟨h.full, h.dom, h.fresh, fun i hi x hx => ?_, h.inj, Nat.le_refl _, fun _ _ _ => rfl, h.ro, rfl, rfl, rfl⟩
  obtain ⟨b, o, h1, h2, h3, h4⟩ := h.obj i hi x hx
  have hlt : b.1 < w.heap.size := (Array.getElem?_eq_some_iff.1 h2).1
  refine ⟨b, o, h1, ?_, h3, fun e => .inr ⟨(h4 e).symm, by omega⟩⟩
  show (w.heap.push r)[b.1]? = some o
  rw [Array.getElem?_push, if_neg (by omega)]; exact h2

theorem Base.hide {M1 : Own} {w1 : World} (B : Base M w0 M1 w1) (h : HR ν M1 w1 s w) (r : Obj) : Base M w0 (M1.hide w1.heap.size w.heap.size) { w with heap := w.heap.push r } := by
  have hsz := h.size
  have hB := B.size
  refine ⟨by simp; omega, h.os.trans B.os, h.tape.trans B.tape, h.output.trans B.output, fun b hb hM => ?_, fun b hb => ?_, B.ro, fun b hb => ?_, fun b hb => ?_⟩
  · obtain ⟨h1, h2⟩ := B.frame b hb hM
    refine ⟨?_, fun hc => ?_⟩
    · show (w.heap.push r)[b]? = _
      rw [Array.getElem?_push, if_neg (by omega), h.frame b (by omega) h2, h1]
    · rcases hc.1 with hc | hc
      · exact h2 hc
      · omega
  · rcases hb with hb | hb
    · have hb : (w.heap.push r).size ≤ b := hb
      simp at hb; exact .inl (by omega)
    · exact B.own b hb.1.symm
  · rcases hb with hb | hb
    · exact B.hid b hb
    · exact .inl (by omega)
  · have := B.rlt b hb
    show b < (w.heap.push r).size
    simp; omega

theorem Hidden.hide {M1 : Own} {w1 : World} (h : HR ν M1 w1 s w) (r : Obj) {b : Nat} {r' : Obj} (k : Hidden M1 w1 b r') : Hidden (M1.hide w1.heap.size w.heap.size) { w with heap := w.heap.push r } b r' := by
  obtain ⟨k1, k2, k3, k4⟩ := k
  have hlt : b < w1.heap.size := (Array.getElem?_eq_some_iff.1 k1).1
  have hsz := h.size
  refine ⟨?_, fun hc => ?_, k3, .inl k4⟩
  · show (w.heap.push r)[b]? = some r'
    rw [Array.getElem?_push, if_neg (by omega), h.frame b hlt k2, k1]
  · rcases hc.1 with hc | hc
    · exact k2 hc
    · omega

theorem Hidden.self {M1 : Own} {w1 : World} (h : HR ν M1 w1 s w) (hr : ∀ b, M1.r b → b < w1.heap.size) (r : Obj) : Hidden (M1.hide w1.heap.size w.heap.size) { w with heap := w.heap.push r } w.heap.size r := by
  refine ⟨?_, fun hc => hc.2 rfl, fun hc => ?_, .inr rfl⟩
  · show (w.heap.push r)[w.heap.size]? = some r
    simp
  · have := hr _ hc; have := h.size; omega

/-- The machine carries out an allocation ahead of its turn here. -/
theorem Drw.lagNew (hok : edgesOk ops = true) {M1 : Own} {w1 : World} {h : Nat} (d : Drw E ν M1 w1 ops rem pend lag (h :: L) tm a z) (hr : HR ν M1 w1 s w) (hro : ∀ b, M1.r b → b < w1.heap.size) (hrem : h ∈ rem) (hlate : late E ops (Region.before ops) a.size h = true)
    {b : Frame} {df : List Deferred} {k : List Item} {cs : List Frame} :
    ∃ a' r, step E.P (lone (b.atR ⟨a, df⟩ (.inRegion ops (h :: L) :: k)) cs w) = .next (lone (b.atR ⟨a', df⟩ (.inRegion ops L :: k)) cs { w with heap := w.heap.push r }) ∧ a'.size = a.size ∧
      Drw E ν (M1.hide w1.heap.size w.heap.size) { w with heap := w.heap.push r } ops rem pend ((h, w.heap.size) :: lag) L tm a' z := by
  obtain ⟨o, so, t, ho, hso, hg, hd, hlt, hnames⟩ := late_ok hlate
  obtain ⟨ty, r, hop, hor, _, hrun, _⟩ := lateSO_ok hso
  have hrun := hrun (ev a) o rfl w
  have hnl : ∀ q ∈ lag, q.1 ≠ h := fun q hq e => d.lagL q hq (e ▸ List.mem_cons_self)
  refine ⟨a.setIfInBounds t (.pointer (some ⟨w.heap.size, 0, none⟩)), r, ?_, by simp, ?_⟩
  · have hs := step_value (P := E.P) (b := b) (a := ⟨a, df⟩) (k := k) (cs := cs) (w := w) (ops := ops) (i := h) (rest := L) (w' := { w with heap := w.heap.push r }) ho (by simp [Region.wanted, hg]) (by
      rw [Oper.semAt_eq _ _ _ (by intro c e; rw [hop] at e; cases e), Act.eval_ev]
      exact hrun)
    rw [hs]
    congr 3
    unfold Act.put
    rw [hd]
  · have hother : ∀ q ∈ lag, ∀ o1 t1, ops[q.1]? = some o1 → o1.dst = some t1 → t1 ≠ t := by
      intro q hq o1 t1 h1 h2 e
      subst e
      rcases hnames q.1 o1 (hnl q hq) h1 with hb | ⟨_, hb, _⟩
      · obtain ⟨o2, d2, so2, r2, g1, g2, g3, _⟩ := d.lagged q hq
        obtain ⟨o3, so3, d3, g4, _, _, g5, _, g6⟩ := late_ok g2
        rw [h1] at g1 g4; cases g1; cases g4
        rw [h2] at g5; cases g5
        rcases g6 h o (fun e => hnl q hq e.symm) ho with hb2 | ⟨_, hb2, _⟩
        · -- each comes ahead of the other
          have h3 := before_lt hok (Array.getElem?_eq_some_iff.1 h1).1 hb
          have h4 := before_lt hok (Array.getElem?_eq_some_iff.1 ho).1 hb2
          omega
        · exact hb2 hd
      · exact hb h2
    refine ⟨(List.nodup_cons.1 d.nodup).2, (List.pairwise_cons.1 d.ord).2, fun i hi => d.irr i (List.mem_cons_of_mem _ hi), fun i hi => d.lt i (List.mem_cons_of_mem _ hi), fun i hi => ?_, fun i hi => d.sub i (List.mem_cons_of_mem _ hi),
      d.disj, d.free, d.preds, d.tm, by simpa using d.size, fun u hu hul => ?_, d.pure, fun q hq => ?_, fun q hq hm => ?_, fun q hq => ?_, fun q hq => ?_, ?_, fun q hq p hp => ?_⟩
    · rcases d.remL i hi with h1 | h1
      · rcases List.mem_cons.1 h1 with e | h1
        · exact .inr (by rw [e]; exact List.mem_cons_self)
        · exact .inl h1
      · exact .inr (List.mem_cons_of_mem _ h1)
    · have hut : u ≠ t := fun e => hul (h, w.heap.size) List.mem_cons_self o ho (by rw [hd, e])
      rw [getD_set_other hut]
      refine d.agree u (fun p hp hpp q hq e => ?_) (fun q hq => hul q (List.mem_cons_of_mem _ hq))
      rcases List.mem_cons.1 hp with e1 | h1
      · subst e1; exact d.disj p hrem hpp
      · exact hu p h1 hpp q hq e
    · rcases List.mem_cons.1 hq with e | hq
      · rw [e]; exact hrem
      · exact d.lagrem q hq
    · rcases List.mem_cons.1 hq with e | hq
      · rw [e] at hm; exact (List.nodup_cons.1 d.nodup).1 hm
      · exact d.lagL q hq (List.mem_cons_of_mem _ hm)
    · rcases List.mem_cons.1 hq with e | hq
      · rw [e]; exact d.irr h List.mem_cons_self
      · exact d.lagirr q hq
    · rcases List.mem_cons.1 hq with e | hq
      · rw [e]
        exact ⟨o, t, so, r, ho, by simpa using hlate, hd, hso, hor, Hidden.self hr hro r, by rw [getD_set_self hlt]⟩
      · obtain ⟨o1, d1, so1, r1, g1, g2, g3, g4, g5, g6, g7⟩ := d.lagged q hq
        exact ⟨o1, d1, so1, r1, g1, by simpa using g2, g3, g4, g5, g6.hide hr r, by rw [getD_set_other (hother q hq o1 d1 g1 g3)]; exact g7⟩
    · rw [List.map_cons, List.nodup_cons]
      refine ⟨fun hm => ?_, d.lagnd⟩
      obtain ⟨q, hq, e⟩ := List.mem_map.1 hm
      exact hnl q hq e
    · rcases List.mem_cons.1 hq with e | hq
      · rw [e]; exact (List.pairwise_cons.1 d.ord).1 p hp
      · exact d.lagord q hq p (List.mem_cons_of_mem _ hp)

/-- The machine carries out what went ahead, and allocations, till the next that does not stands there. -/
theorem Drw.reach (hok : edgesOk ops = true) {e : Nat} (he : e ∈ rem) {n : Nat}
    (hun : ∀ j ∈ rem, j = e ∨ ((Region.before ops).getD j 0).testBit e = true ∨ late E ops (Region.before ops) n j = true ∨ (∃ i ∈ rem, i ≠ j ∧ ((Region.before ops).getD j 0).testBit i = true ∧ late E ops (Region.before ops) n i = false))
    (hst : StabS E ν s ops pend z) :
    ∀ {L : List Nat} {a : Array Value} {lag : List (Nat × Nat)} {M1 : Own} {w1 w : World}, a.size = n → Drw E ν M1 w1 ops rem pend lag L tm a z → HR ν M1 w1 s w → Base M w0 M1 w1 → e ∉ lag.map (·.1) → ∀ {b : Frame} {df : List Deferred} {k : List Item} {cs : List Frame},
    ∃ a' L' lag' M2 w2 w', Steps E.P (lone (b.atR ⟨a, df⟩ (.inRegion ops L :: k)) cs w) (lone (b.atR ⟨a', df⟩ (.inRegion ops (e :: L') :: k)) cs w') ∧ Drw E ν M2 w2 ops rem pend lag' (e :: L') tm a' z ∧ HR ν M2 w2 s w' ∧ Base M w0 M2 w2 ∧
      (∀ b r, Hidden M1 w1 b r → Hidden M2 w2 b r) ∧ (∃ l0, lag'.map (·.2) = l0 ++ lag.map (·.2) ∧ l0.Nodup ∧ ∀ B ∈ l0, w1.heap.size ≤ B) := by
  intro L
  induction L with
  | nil =>
    intro a lag M1 w1 w _ d _ _ hel b df k cs
    rcases d.remL e he with h | h
    · cases h
    · exact absurd h hel
  | cons h L ih =>
    intro a lag M1 w1 w hn d hr hB hel b df k cs
    by_cases hp : h ∈ pend
    · obtain ⟨a', hs, d'⟩ := d.pending hp (hst _ _ _ hr) (b := b) (df := df) (k := k) (cs := cs)
      obtain ⟨a'', L', lag', M2, w2, w', hs', d'', rest⟩ := ih (by rw [d'.size, ← d.size]; exact hn) d' hr hB hel (b := b) (df := df) (k := k) (cs := cs)
      exact ⟨a'', L', lag', M2, w2, w', .head hs hs', d'', rest⟩
    · have hrm : h ∈ rem := (d.sub h (List.mem_cons_self)).resolve_right hp
      by_cases hhe : h = e
      · subst hhe
        exact ⟨a, L, lag, M1, w1, w, Steps.refl _ _, d, hr, hB, fun _ _ h => h, [], rfl, List.nodup_nil, fun _ h => by cases h⟩
      · have hfalse : ∀ i ∈ rem, i ≠ h → ((Region.before ops).getD h 0).testBit i = true → i ∉ lag.map (·.1) → False := by
          intro i hi hne hb hni
          have hiL : i ∈ L := by
            rcases d.remL i hi with h1 | h1
            · rcases List.mem_cons.1 h1 with h1 | h1
              · exact absurd h1 hne
              · exact h1
            · exact absurd h1 hni
          have := (List.pairwise_cons.1 d.ord).1 i hiL
          rw [this] at hb; cases hb
        have hlate : late E ops (Region.before ops) a.size h = true := by
          rw [hn]
          rcases hun h hrm with h1 | h1 | h1 | ⟨i, hi, hne, hb, hnl⟩
          · exact absurd h1 hhe
          · exact (hfalse e he (fun e' => hhe e'.symm) h1 hel).elim
          · exact h1
          · refine (hfalse i hi hne hb fun hm => ?_).elim
            obtain ⟨q, hq, eq⟩ := List.mem_map.1 hm
            obtain ⟨_, _, _, _, _, g2, _⟩ := d.lagged q hq
            rw [eq, hn, hnl] at g2; cases g2
        obtain ⟨a', r, hs, hsz, d'⟩ := d.lagNew hok hr hB.rlt hrm hlate (b := b) (df := df) (k := k) (cs := cs)
        obtain ⟨a'', L', lag', M2, w2, w', hs', d'', hr'', hB'', hhid, l0, hl0, hnd, hge⟩ := ih (by rw [hsz]; exact hn) d' (hr.hide r) (hB.hide hr r) (by
          rw [List.map_cons, List.mem_cons]
          rintro (e1 | e1)
          · exact hhe e1.symm
          · exact hel e1) (b := b) (df := df) (k := k) (cs := cs)
        refine ⟨a'', L', lag', M2, w2, w', .head hs hs', d'', hr'', hB'', fun b r' hh => hhid b r' (hh.hide hr r), l0 ++ [w.heap.size], by rw [hl0]; simp, ?_, fun B hB' => ?_⟩
        · rw [List.nodup_append]
          refine ⟨hnd, by simp, fun x hx y hy => ?_⟩
          have := hge x hx
          have : (w.heap.push r).size ≤ x := this
          simp at this hy; omega
        · rcases List.mem_append.1 hB' with h1 | h1
          · have : (w.heap.push r).size ≤ B := hge B h1
            have := hr.size
            simp at *; omega
          · have := hr.size
            simp at h1; omega

/-- .. or till nothing is left. -/
theorem Drw.finish_all : ∀ {L : List Nat} {a : Array Value}, Drw E ν M w0 ops [] pend lag L tm a z → Stab E ops pend z w → ∀ {b : Frame} {df : List Deferred} {k : List Item} {cs : List Frame},
    ∃ a', Steps E.P (lone (b.atR ⟨a, df⟩ (.inRegion ops L :: k)) cs w) (lone (b.atR ⟨a', df⟩ k) cs w) ∧ TmR ν tm a' := by
  intro L
  induction L with
  | nil =>
    intro a d _ b df k cs
    refine ⟨a, .one stepR_region_end, ?_⟩
    have hall : ∀ t, a.getD t undef = z.getD t undef := fun t => d.agree t (by intro p hp; cases hp) (fun q hq => by cases d.lagrem q hq)
    have : a = z := by
      apply Array.ext_getElem?
      intro t
      exact getElem?_of_getD d.size (hall t)
    rw [this]; exact d.tm
  | cons h L ih =>
    intro a d hst b df k cs
    have hp : h ∈ pend := (d.sub h (List.mem_cons_self)).resolve_left (by simp)
    obtain ⟨a', hs, d'⟩ := d.pending hp hst (b := b) (df := df) (k := k) (cs := cs)
    obtain ⟨a'', hs', ht⟩ := ih d' hst (b := b) (df := df) (k := k) (cs := cs)
    exact ⟨a'', .head hs hs', ht⟩

end
end Go.Rx
set_option linter.unusedVariables false
set_option linter.unusedSimpArgs false
namespace Go.Rx
section
variable {E : Env} {ν : Val} {M : Own} {w0 w : World} {s s' : SH}
variable {ops : Array Oper} {rem pend L : List Nat} {lag : List (Nat × Nat)} {M1 : Own} {w1 : World} {tm : STm} {a z : Array Value}

theorem nbeq {i j : Nat} (h : i ≠ j) : (!Nat.beq i j) = true := by
  cases hb : Nat.beq i j
  · rfl
  · exact absurd (Nat.eq_of_beq_eq_true hb) h

theorem STm.get_lt {t : Nat} (h : Nat.blt t tm.nt = true) : tm.get t = tm.T.get t := by unfold STm.get; rw [h]; rfl

theorem wanted_ok {o : Oper} {b : Bool} (h : wanted ops tm o E s = some (b, s')) (ht : TmR ν tm a) : s.Same s' ∧ (s'.ob → s.ob ∧ Region.wanted o (yielded ops a) = b) := by
  unfold wanted at h
  unfold Region.wanted
  split at h
  · rename_i hg
    cases h
    rw [hg]
    exact ⟨.refl _, fun ob => ⟨ob, rfl⟩⟩
  · rename_i j want hg
    rw [hg]
    simp only
    split at h
    · rename_i d hd
      cases hb : Nat.blt d tm.nt
      · rw [hb] at h; cases h
      · rw [hb] at h
        simp only [cond_true] at h
        have hv := ht.at d
        have hlt : d < a.size := by rw [ht.size]; exact blt_iff.1 hb
        have hy : yielded ops a j = match a.getD d undef with | .bool b => some b | _ => none := by
          unfold yielded
          rw [hd]
          simp only [Option.bind_some, Array.getD_eq_getD_getElem?, Array.getElem?_eq_getElem hlt, Option.getD_some]
          cases a[d] <;> rfl
        split at h
        · rename_i t htm
          rw [htm] at hv
          rw [VR.v_iff.1 hv] at hy
          cases hdec : s.dec E t with
          | mk t' s1 =>
            rw [hdec] at h
            cases h
            obtain ⟨hsame, hob⟩ := SH.dec_ok hdec
            refine ⟨hsame, fun ob => ⟨(hob ob).1, ?_⟩⟩
            rw [hy, (hob ob).2]
            cases t' <;> cases want <;> rfl
        · rename_i vs htm
          rw [htm] at hv
          rw [VR.v_iff.1 hv] at hy
          cases h
          refine ⟨.refl _, fun ob => ⟨ob, ?_⟩⟩
          rw [hy]; cases want <;> rfl
        · cases h
    · cases h

/-- What is asked of a value that went ahead. -/
theorem sFree_ok {o : Oper} {x : SV} (hf : floats o.op = true) (h : sFree E ops tm o s = some (x, s')) (hr : HR ν M w0 s w) (hg : GR ν E) (ht : TmR ν tm z) :
    (∀ d, o.dst = some d → d < z.size) ∧ s.Same s' ∧ x.solid = true ∧ (s'.ob → s.ob ∧ ∃ y, VR ν x y ∧
      (Region.wanted o (yielded ops z) = true → (execOp (ev z) o).run E.P w = .ok (.value y) w ∧ (looks o.op = false → ∀ w, (execOp (ev z) o).run E.P w = .ok (.value y) w)) ∧
      (Region.wanted o (yielded ops z) = false → y = undef)) := by
  unfold sFree at h
  obtain ⟨u, h0, h⟩ := Option.bind_eq_some_iff.1 h
  have h0 := guard_ok h0
  refine ⟨fun d hd => ?_, ?_⟩
  · rw [hd] at h0; rw [ht.size]; exact blt_iff.1 h0
  cases hw : wanted ops tm o E s with
  | none => rw [hw] at h; cases h
  | some r =>
  obtain ⟨b, s1⟩ := r
  rw [hw] at h
  obtain ⟨hsame, hob⟩ := wanted_ok hw ht
  have h : (bif b then match sOpF E tm o s1 with
      | some [(.val x, s)] => bif x.solid then some (x, s) else none
      | _ => none
    else some (.v undef, s1)) = some (x, s') := h
  cases b
  · cases h
    exact ⟨hsame, rfl, fun ob => ⟨(hob ob).1, undef, VR.v_iff.2 rfl, fun hc => (by rw [(hob ob).2] at hc; cases hc), fun _ => rfl⟩⟩
  · simp only [cond_true] at h
    split at h
    · rename_i x1 s2 hop
      cases hs : x1.solid
      · rw [hs] at h; cases h
      · rw [hs] at h; cases h
        obtain ⟨hs2, hq⟩ := sQuiet_ok hf hop (hr.same hsame) (ht.opd hg)
        refine ⟨hsame.trans hs2, hs, fun ob => ?_⟩
        obtain ⟨ob1, ⟨y, hy, hv⟩, hall⟩ := hq ob
        refine ⟨(hob ob1).1, y, hv, fun _ => ⟨hy, fun hl w' => ?_⟩, fun hc => by rw [(hob ob1).2] at hc; cases hc⟩
        obtain ⟨y', hy', hv'⟩ := hall hl w'
        rw [VR.func1 x y y' hs hv hv']; exact hy'
    · cases h

theorem wanted_put {q : Oper} {d : Nat} {y : Value} (h : d ∉ guardSlot ops q) : Region.wanted q (yielded ops (z.setIfInBounds d y)) = Region.wanted q (yielded ops z) := by
  unfold Region.wanted
  cases hg : q.guard with
  | none => rfl
  | some jw =>
    obtain ⟨j, want⟩ := jw
    simp only
    have : yielded ops (z.setIfInBounds d y) j = yielded ops z j := by
      unfold yielded
      cases hj : (ops[j]?).bind (·.dst) with
      | none => rfl
      | some t =>
        have ht : t ∈ guardSlot ops q := by unfold guardSlot; rw [hg]; simp [hj]
        have hne : d ≠ t := fun e => h (e ▸ ht)
        simp only [Option.bind_some, Array.getElem?_setIfInBounds, if_neg hne]
    rw [this]

theorem execOp_put {q : Oper} {d : Nat} {y : Value} (hns : ∀ cs b, q.op ≠ .select cs b) (h : ∀ x ∈ q.op.operands, x ≠ .tmp d) : execOp (ev (z.setIfInBounds d y)) q = execOp (ev z) q := by
  refine Go.execOp_congr q hns fun x hx => ?_
  cases x with
  | tmp t => exact getD_set_other (fun e => h _ hx (by rw [e]))
  | const v => rfl
  | global g => rfl
  | func f => rfl

theorem Runs.put {q : Oper} {d : Nat} {y : Value} (r : Runs E ops q z w) (hns : ∀ cs b, q.op ≠ .select cs b) (h1 : ∀ x ∈ q.op.operands, x ≠ .tmp d) (h2 : q.dst ≠ some d) (h3 : d ∉ guardSlot ops q) :
    Runs E ops q (z.setIfInBounds d y) w := by
  unfold Runs at r ⊢
  rw [wanted_put h3, execOp_put hns h1]
  refine ⟨fun hw => ?_, fun hw t ht => ?_⟩
  · obtain ⟨v, hv, hd⟩ := r.1 hw
    refine ⟨v, hv, fun t ht => ?_⟩
    rw [getD_set_other (fun e => h2 (by rw [← e]; exact ht))]; exact hd t ht
  · rw [getD_set_other (fun e => h2 (by rw [← e]; exact ht))]; exact r.2 hw t ht

theorem Runs.putA {q o : Oper} {y : Value} (r : Runs E ops q z w) (hns : ∀ cs b, q.op ≠ .select cs b)
    (h : ∀ d, o.dst = some d → (∀ x ∈ q.op.operands, x ≠ .tmp d) ∧ q.dst ≠ some d ∧ d ∉ guardSlot ops q) : Runs E ops q (putA z o y) w := by
  unfold Go.Rx.putA
  cases hd : o.dst with
  | none => exact r
  | some d => obtain ⟨h1, h2, h3⟩ := h d hd; exact r.put hns h1 h2 h3

theorem putA_size {o : Oper} {y : Value} : (putA z o y).size = z.size := by unfold putA; cases o.dst <;> simp

/-- An operation goes ahead of its turn. -/
theorem Drw.float {i : Nat} {o : Oper} {x : SV} (d : Drw E ν M1 w1 ops rem pend lag L tm a z) (hst : StabS E ν s ops pend z) (hi : i ∈ rem) (hfree : Go.Rx.free ops (Region.before ops) i = true) (hready : ready (Region.before ops) rem i = true)
    (ho : ops[i]? = some o) (h : sFree E ops tm o s = some (x, s')) (hr : HR ν M w0 s w) (hg : GR ν E) :
    s.Same s' ∧ (s'.ob → s.ob ∧ ∃ z', Drw E ν M1 w1 ops (rem.filter fun j => !Nat.beq j i) (i :: pend) lag L (putDst tm o x) a z' ∧ StabS E ν s' ops (i :: pend) z') := by
  obtain ⟨o', ho', hfl, hfr⟩ := free_ok hfree
  rw [ho] at ho'; cases ho'
  have hil : ∀ q ∈ lag, q.1 ≠ i := by
    intro q hq e
    obtain ⟨o2, d2, so2, r2, g1, g2, g3, g4, _⟩ := d.lagged q hq
    rw [e, ho] at g1; cases g1
    obtain ⟨_, _, hop, _⟩ := lateSO_ok g4
    rw [hop] at hfl; cases hfl
  have hiL : i ∈ L := by
    rcases d.remL i hi with h1 | h1
    · exact h1
    · obtain ⟨q, hq, e⟩ := List.mem_map.1 h1
      exact absurd e (hil q hq)
  obtain ⟨hlt, hsame, hsol, hob⟩ := sFree_ok hfl h hr hg d.tm
  refine ⟨hsame, fun ob => ?_⟩
  obtain ⟨ob1, y, hv, hrun, hnot⟩ := hob ob
  refine ⟨ob1, putA z o y, ?_⟩
  have hself : ∀ (w' : World), (Region.wanted o (yielded ops z) = true → (execOp (ev z) o).run E.P w' = .ok (.value y) w') → Runs E ops o (putA z o y) w' := by
    intro w' hw'
    obtain ⟨hns, _⟩ := floats_no_select hfl
    unfold Runs
    have e1 : Region.wanted o (yielded ops (putA z o y)) = Region.wanted o (yielded ops z) := by
      unfold putA
      cases hd : o.dst with
      | none => rfl
      | some t => exact wanted_put (hfr t hd).2.1
    have e2 : execOp (ev (putA z o y)) o = execOp (ev z) o := by
      unfold putA
      cases hd : o.dst with
      | none => rfl
      | some t => exact execOp_put hns (hfr t hd).1
    have e3 : ∀ t, o.dst = some t → (putA z o y).getD t undef = y := by
      intro t ht
      unfold putA; rw [ht]; exact getD_set_self (hlt t ht)
    rw [e1, e2]
    exact ⟨fun hw => ⟨y, hw' hw, fun t ht => (e3 t ht).symm⟩, fun hw t ht => by rw [e3 t ht, hnot hw]⟩
  have hothers : ∀ p ∈ pend, ∀ q, ops[p]? = some q → ∀ w', Runs E ops q z w' → Runs E ops q (putA z o y) w' := by
    intro p hp q hq w' r
    obtain ⟨q', hq', hflq, _⟩ := free_ok (d.free p hp)
    rw [hq] at hq'; cases hq'
    refine r.putA (floats_no_select hflq).1 fun t ht => ?_
    have hne : p ≠ i := fun e => d.disj i hi (e ▸ hp)
    rcases (hfr t ht).2.2 p q hne hq with hb | hb
    · rw [d.preds p hp i hi] at hb; cases hb
    · exact hb
  constructor
  · refine ⟨d.nodup, d.ord, d.irr, d.lt, fun j hj => d.remL j (List.mem_filter.1 hj).1, fun j hj => ?_, fun j hj hm => ?_, fun p hp => ?_, fun p hp j hj => ?_, d.tm.putDst o hv, ?_, fun t ht htl => ?_, fun p hp q hq hl w' => ?_, fun q hq => List.mem_filter.2 ⟨d.lagrem q hq, nbeq (hil q hq)⟩, d.lagL, d.lagirr, d.lagged, d.lagnd, d.lagord⟩
    · rcases d.sub j hj with h1 | h1
      · by_cases e : j = i
        · exact .inr (e ▸ List.mem_cons_self)
        · exact .inl (List.mem_filter.2 ⟨h1, nbeq e⟩)
      · exact .inr (List.mem_cons_of_mem _ h1)
    · obtain ⟨h1, h2⟩ := List.mem_filter.1 hj
      rcases List.mem_cons.1 hm with e | e
      · rw [e] at h2; simp at h2
      · exact d.disj j h1 e
    · rcases List.mem_cons.1 hp with e | e
      · rw [e]; exact hfree
      · exact d.free p e
    · obtain ⟨h1, h2⟩ := List.mem_filter.1 hj
      rcases List.mem_cons.1 hp with e | e
      · subst e
        have := List.all_eq_true.1 hready j h1
        simpa using this
      · exact d.preds p e j h1
    · rw [putA_size]; exact d.size
    · have h1 : a.getD t undef = z.getD t undef := d.agree t (fun p hp hpp q hq => ht p hp (List.mem_cons_of_mem _ hpp) q hq) htl
      have h2 : o.dst ≠ some t := ht i hiL List.mem_cons_self o ho
      rw [h1]
      unfold putA
      cases hd : o.dst with
      | none => rfl
      | some u => rw [getD_set_other (fun e => h2 (by rw [hd, e]))]
    · rcases List.mem_cons.1 hp with e | e
      · subst e
        rw [ho] at hq; cases hq
        exact hself w' fun hw => (hrun hw).2 hl w'
      · exact hothers p e q hq w' (d.pure p e q hq hl w')
  · intro M' w0' w' hr' p hp q hq
    have hr' := hr'.same hsame.symm
    rcases List.mem_cons.1 hp with e | e
    · subst e
      rw [ho] at hq; cases hq
      obtain ⟨_, _, _, hob'⟩ := sFree_ok hfl h hr' hg d.tm
      obtain ⟨_, y', hv', hrun', _⟩ := hob' ob
      refine hself w' fun hw => ?_
      rw [VR.func1 x y y' hsol hv hv']
      exact (hrun' hw).1
    · exact hothers p e q hq w' (hst _ _ _ hr' p e q hq)

/-- An operation that does not go ahead stands next. -/
theorem Drw.narrow {e : Nat} (d : Drw E ν M1 w1 ops rem pend lag (e :: L) tm a z) (he : e ∈ rem) :
    Drw E ν M1 w1 ops (e :: rem.filter fun j => !Nat.beq j e) (pend.filter fun p => !(((Region.before ops).getD e 0).testBit p)) lag (e :: L) tm a z := by
  have hsub : ∀ p ∈ L, p ∈ pend → p ∈ pend.filter fun p => !(((Region.before ops).getD e 0).testBit p) := by
    intro p hp hpp
    refine List.mem_filter.2 ⟨hpp, ?_⟩
    rw [(List.pairwise_cons.1 d.ord).1 p hp]; rfl
  have hrem : ∀ i, i ∈ (e :: rem.filter fun j => !Nat.beq j e) ↔ i ∈ rem := by
    intro i
    rw [List.mem_cons, List.mem_filter]
    constructor
    · rintro (h | h)
      · exact h ▸ he
      · exact h.1
    · intro h
      by_cases hi : i = e
      · exact .inl hi
      · exact .inr ⟨h, nbeq hi⟩
  refine ⟨d.nodup, d.ord, d.irr, d.lt, fun i hi => d.remL i ((hrem i).1 hi), fun i hi => ?_, fun i hi hm => d.disj i ((hrem i).1 hi) (List.mem_filter.1 hm).1, fun p hp => d.free p (List.mem_filter.1 hp).1,
    fun p hp j hj => d.preds p (List.mem_filter.1 hp).1 j ((hrem j).1 hj), d.tm, d.size, fun t ht htl => d.agree t (fun p hp hpp q hq => ?_) htl, fun p hp => d.pure p (List.mem_filter.1 hp).1, fun q hq => (hrem q.1).2 (d.lagrem q hq), d.lagL, d.lagirr, d.lagged, d.lagnd, d.lagord⟩
  · rcases d.sub i hi with h | h
    · exact .inl ((hrem i).2 h)
    · rcases List.mem_cons.1 hi with h1 | h1
      · exact .inl (h1 ▸ List.mem_cons_self)
      · exact .inr (hsub i h1 h)
  · rcases List.mem_cons.1 hp with h1 | h1
    · exact absurd hpp (d.disj p (h1 ▸ he))
    · exact ht p hp (hsub p h1 hpp) q hq

theorem unnamed_ok {o : Oper} (h : unnamed ops pend o = true) {d : Nat} (hd : o.dst = some d) {p : Nat} (hp : p ∈ pend) {q : Oper} (hq : ops[p]? = some q) :
    (∀ x ∈ q.op.operands, x ≠ .tmp d) ∧ q.dst ≠ some d ∧ d ∉ guardSlot ops q := by
  unfold unnamed at h
  rw [hd] at h
  have h1 := List.all_eq_true.1 h p hp
  rw [hq] at h1
  simp only [Bool.not_eq_true', Bool.or_eq_false_iff] at h1
  obtain ⟨h2, h3⟩ := h1
  refine ⟨fun x hx e => ?_, fun e => ?_, fun hm => ?_⟩
  · subst e
    have : d ∈ namesOf q := List.mem_append_right _ (List.mem_filterMap.2 ⟨_, by simpa using hx, rfl⟩)
    rw [← List.contains_iff_mem] at this
    rw [this] at h2; cases h2
  · have : d ∈ namesOf q := List.mem_append_left _ (by simp [e])
    rw [← List.contains_iff_mem] at this
    rw [this] at h2; cases h2
  · rw [← List.contains_iff_mem] at hm
    rw [hm] at h3; cases h3

/-- That operation is done. -/
theorem Drw.done {e : Nat} {o : Oper} {x : SV} {y : Value} (d : Drw E ν M1 w1 ops (e :: rem) pend lag (e :: L) tm a z) (ho : ops[e]? = some o) (hn : (e :: rem).Nodup ∨ e ∉ rem) (hu : unnamed ops pend o = true) (hv : VR ν x y) (hnl : NoLag ops lag e) :
    Drw E ν M1 w1 ops rem pend lag L (putDst tm o x) (putA a o y) (putA z o y) := by
  have her : e ∉ rem := by rcases hn with h | h; exact (List.nodup_cons.1 h).1; exact h
  have hep : e ∉ pend := d.disj e List.mem_cons_self
  refine ⟨(List.nodup_cons.1 d.nodup).2, (List.pairwise_cons.1 d.ord).2, fun i hi => d.irr i (List.mem_cons_of_mem _ hi), fun i hi => d.lt i (List.mem_cons_of_mem _ hi), fun i hi => ?_, fun i hi => ?_,
    fun i hi => d.disj i (List.mem_cons_of_mem _ hi), d.free, fun p hp j hj => d.preds p hp j (List.mem_cons_of_mem _ hj), d.tm.putDst o hv, by rw [putA_size, putA_size]; exact d.size, fun t ht htl => ?_, fun p hp q hq hl w' => ?_, fun q hq => ?_, fun q hq hm => d.lagL q hq (List.mem_cons_of_mem _ hm), d.lagirr, fun q hq => (d.lagged q hq).put fun o1 t h1 h2 => ?_, d.lagnd, fun q hq p hp => d.lagord q hq p (List.mem_cons_of_mem _ hp)⟩
  · rcases d.remL i (List.mem_cons_of_mem _ hi) with h | h
    · rcases List.mem_cons.1 h with h | h
      · exact absurd (h ▸ hi) her
      · exact .inl h
    · exact .inr h
  · rcases d.sub i (List.mem_cons_of_mem _ hi) with h | h
    · rcases List.mem_cons.1 h with h1 | h1
      · exact absurd (h1 ▸ hi) (List.nodup_cons.1 d.nodup).1
      · exact .inl h1
    · exact .inr h
  · have hat : a.getD t undef = z.getD t undef := d.agree t (fun p hp hpp q hq => by
      rcases List.mem_cons.1 hp with h | h
      · exact absurd (h ▸ hpp) hep
      · exact ht p h hpp q hq) htl
    unfold putA
    cases hd : o.dst with
    | none => exact hat
    | some u =>
      simp only
      by_cases et : t = u
      · subst et
        by_cases hs : t < a.size
        · rw [getD_set_self hs, getD_set_self (by rw [← d.size]; exact hs)]
        · have h1 : a.size ≤ t := Nat.not_lt.mp hs
          have h2 : z.size ≤ t := by rw [← d.size]; exact h1
          rw [Array.getD_eq_getD_getElem?, Array.getElem?_eq_none (by simpa using h1), Array.getD_eq_getD_getElem?, Array.getElem?_eq_none (by simpa using h2)]
      · rw [getD_set_other et, getD_set_other et]; exact hat
  · obtain ⟨q', hq', hflq, _⟩ := free_ok (d.free p hp)
    rw [hq] at hq'; cases hq'
    exact (d.pure p hp q hq hl w').putA (floats_no_select hflq).1 fun t ht => unnamed_ok hu ht hp hq
  · rcases List.mem_cons.1 (d.lagrem q hq) with h | h
    · exact absurd (h ▸ List.mem_cons_self) (d.lagL q hq)
    · exact h
  · have hne : e ≠ q.1 := fun h => d.lagL q hq (h ▸ List.mem_cons_self)
    exact (d.lagslot hq h1 h2 hne (hnl q hq) ho).2.1

/-- A hidden block is hidden no more. -/
def Own.show (M : Own) (B : Nat) : Own := ⟨fun b => M b ∨ b = B, M.r, M.h⟩

theorem HR.show (h : HR ν M1 w1 s w) {B : Nat} {r : Obj} (hB : Hidden M1 w1 B r) (hroom : s.room = true) {so : SO} (hor : ∀ ν i, OR ν i so r) :
    ν.Le (ν.put s.nx (B, 0)) ∧ HR (ν.put s.nx (B, 0)) (M1.show B) w1 (s.new so) w := by
  obtain ⟨hB1, hB2, hB3, hB4⟩ := hB
  have hlt : B < w1.heap.size := (Array.getElem?_eq_some_iff.1 hB1).1
  have h' : HR ν (M1.show B) w1 s w := ⟨h.full, h.dom, h.fresh, fun i hi x hx => let ⟨b, o, h1, h2, h3, h4⟩ := h.obj i hi x hx; ⟨b, o, h1, h2, h3, fun e => (h4 e).imp id .inl⟩, h.inj, h.size, fun b hb hM => h.frame b hb fun hc => hM (.inl hc), h.ro, h.os, h.tape, h.output⟩
  refine h'.adopt hroom 0 (.inr (.inr rfl)) (fun j hj hn b hb e => ?_) (hor _ _) (by rw [h.frame B hlt hB2, hB1]) (fun _ _ => rfl) h.size rfl rfl rfl
  cases hx : s.H.get j with
  | none => exact hn hx
  | some x =>
    obtain ⟨b', o', h1, h2, _, h4⟩ := h.obj j hj x hx
    rw [hb] at h1; cases h1
    cases hf : x.2
    · exact hB3 (e ▸ h.ro j hj x hx hf b hb)
    · rcases h4 hf with h4 | h4
      · omega
      · exact hB2 (e ▸ h4)

theorem Base.show {M : Own} {w0 : World} (B : Base M w0 M1 w1) {b0 : Nat} {r : Obj} (hB : Hidden M1 w1 b0 r) : Base M w0 (M1.show b0) w1 := by
  refine ⟨B.size, B.os, B.tape, B.output, fun b hb hM => ⟨(B.frame b hb hM).1, fun hc => ?_⟩, fun b hb => ?_, B.ro, B.hid, B.rlt⟩
  · rcases hc with hc | hc
    · exact (B.frame b hb hM).2 hc
    · subst hc
      rcases B.hid b hB.2.2.2 with h | h
      · omega
      · exact hM h
  · rcases hb with hb | hb | hb
    · exact B.own b (.inl hb)
    · exact B.own b (.inr hb)
    · subst hb; exact B.hid b hB.2.2.2

theorem Hidden.show {b0 b : Nat} {r : Obj} (h : Hidden M1 w1 b r) (hne : b ≠ b0) : Hidden (M1.show b0) w1 b r :=
  ⟨h.1, fun hc => hc.elim h.2.1 hne, h.2.2.1, h.2.2.2⟩

/-- An allocation that the machine has carried out already. -/
theorem Drw.adopt {e B : Nat} {o : Oper} {i : Nat} {ν' : Val} (d : Drw E ν M1 w1 ops rem pend lag L tm a z) (hle : ν.Le ν') (he : (e, B) ∈ lag) (ho : ops[e]? = some o)
    (hu : unnamed ops (pend.filter fun p => !(((Region.before ops).getD e 0).testBit p)) o = true) (hi : ν' i = some (B, 0)) (hbl : ∀ q ∈ lag, q.1 ≠ e → q.2 ≠ B) :
    Drw E ν' (M1.show B) w1 ops (rem.filter fun j => !Nat.beq j e) (pend.filter fun p => !(((Region.before ops).getD e 0).testBit p)) (lag.filter fun q => !Nat.beq q.1 e) L (putDst tm o (.ptr i 0)) a (putA z o (.pointer (some ⟨B, 0, none⟩))) := by
  obtain ⟨o1, t, so, r, g1, g2, g3, g4, g5, g6, g7⟩ := d.lagged _ he
  rw [ho] at g1; cases g1
  have d' := d.mono hle
  have hlag : ∀ q, q ∈ lag.filter (fun q => !Nat.beq q.1 e) → q ∈ lag ∧ q.1 ≠ e := by
    intro q hq
    obtain ⟨h1, h2⟩ := List.mem_filter.1 hq
    exact ⟨h1, fun e' => by rw [e'] at h2; simp at h2⟩
  have hpf : ∀ p, p ∈ pend.filter (fun p => !(((Region.before ops).getD e 0).testBit p)) → p ∈ pend := fun p hp => (List.mem_filter.1 hp).1
  have hfp : ∀ p ∈ L, p ∈ pend → p ∈ pend.filter (fun p => !(((Region.before ops).getD e 0).testBit p)) := fun p hp hpp => List.mem_filter.2 ⟨hpp, by rw [d.lagord _ he p hp]; rfl⟩
  refine ⟨d.nodup, d.ord, d.irr, d.lt, fun j hj => ?_, fun j hj => ?_, fun j hj hm => d.disj j (List.mem_filter.1 hj).1 (hpf j hm), fun p hp => d.free p (hpf p hp), fun p hp j hj => d.preds p (hpf p hp) j (List.mem_filter.1 hj).1,
    d'.tm.putDst o (VR.ptr_iff.2 ⟨_, hi, rfl⟩), by rw [putA_size]; exact d.size, fun u hu hul => ?_, fun p hp q hq hl w' => ?_, fun q hq => ?_, fun q hq => d.lagL q (hlag q hq).1, fun q hq => d.lagirr q (hlag q hq).1, fun q hq => ?_, ?_, fun q hq => d.lagord q (hlag q hq).1⟩
  · obtain ⟨h1, h2⟩ := List.mem_filter.1 hj
    rcases d.remL j h1 with h | h
    · exact .inl h
    · obtain ⟨q, hq, e'⟩ := List.mem_map.1 h
      exact .inr (List.mem_map.2 ⟨q, List.mem_filter.2 ⟨hq, by rw [e']; exact h2⟩, e'⟩)
  · rcases d.sub j hj with h | h
    · refine .inl (List.mem_filter.2 ⟨h, nbeq fun e' => ?_⟩)
      exact d.lagL _ he (e' ▸ hj)
    · exact .inr (hfp j hj h)
  · unfold putA
    rw [g3]
    simp only
    by_cases et : u = t
    · subst et
      have hs : u < z.size := by
        rw [← d.size]
        refine Nat.not_le.1 fun hle => ?_
        rw [Array.getD_eq_getD_getElem?, Array.getElem?_eq_none hle] at g7
        cases g7
      rw [getD_set_self hs]; exact g7
    · rw [getD_set_other et]
      refine d.agree u (fun p hp hpp => hu p hp (hfp p hp hpp)) fun q hq o2 ho2 e2 => ?_
      by_cases hqe : q.1 = e
      · rw [hqe, ho] at ho2; cases ho2
        rw [g3] at e2; exact et (Option.some.inj e2).symm
      · exact hul q (List.mem_filter.2 ⟨hq, nbeq hqe⟩) o2 ho2 e2
  · obtain ⟨q', hq', hflq, _⟩ := free_ok (d.free p (hpf p hp))
    rw [hq] at hq'; cases hq'
    exact (d.pure p (hpf p hp) q hq hl w').putA (floats_no_select hflq).1 fun t ht => unnamed_ok hu ht hp hq
  · exact List.mem_filter.2 ⟨d.lagrem q (hlag q hq).1, nbeq (hlag q hq).2⟩
  · exact (d.lagged q (hlag q hq).1).rebase fun r h => h.show (hbl q (hlag q hq).1 (hlag q hq).2)
  · exact d.lagnd.sublist (List.Sublist.map _ List.filter_sublist)

/-- Recheck: what went ahead is so in this world. -/
theorem recheck_ok (hr : HR ν M w0 s w) (hg : GR ν E) (ht : TmR ν tm z) : ∀ {pend : List Nat} {s s' : SH}, HR ν M w0 s w → recheck E ops tm pend s = some s' → (∀ p ∈ pend, free ops (Region.before ops) p = true) →
    (∀ p ∈ pend, ∀ o, ops[p]? = some o → looks o.op = false → ∀ w, Runs E ops o z w) → s.Same s' ∧ (s'.ob → s.ob ∧ Stab E ops pend z w) := by
  intro pend
  induction pend with
  | nil => intro s s' hr h _ _; cases h; exact ⟨.refl _, fun ob => ⟨ob, by intro p hp; cases hp⟩⟩
  | cons p ps ih =>
    intro s s' hr h hf hp
    unfold recheck at h
    cases ho : ops[p]? with
    | none => rw [ho] at h; cases h
    | some o =>
      rw [ho] at h
      simp only at h
      cases hl : looks o.op
      · rw [hl] at h
        simp only [cond_false] at h
        obtain ⟨hsame, hob⟩ := ih hr h (fun q hq => hf q (List.mem_cons_of_mem _ hq)) (fun q hq => hp q (List.mem_cons_of_mem _ hq))
        refine ⟨hsame, fun ob => ⟨(hob ob).1, fun q hq o' ho' => ?_⟩⟩
        rcases List.mem_cons.1 hq with e | e
        · subst e
          rw [ho] at ho'; cases ho'
          exact hp q List.mem_cons_self o ho hl w
        · exact (hob ob).2 q e o' ho'
      · rw [hl] at h
        simp only [cond_true] at h
        cases h1 : sFree E ops tm o s with
        | none => rw [h1] at h; cases h
        | some r =>
        obtain ⟨x, s1⟩ := r
        rw [h1] at h
        cases hd : o.dst with
        | none => rw [hd] at h; cases h
        | some d =>
        rw [hd] at h
        have h : ((svEq E (tm.get d) x s1).bind fun s => recheck E ops tm ps s) = some s' := h
        cases h2 : svEq E (tm.get d) x s1 with
        | none => rw [h2] at h; cases h
        | some s2 =>
        rw [h2] at h
        have h : recheck E ops tm ps s2 = some s' := h
        obtain ⟨o', ho', hfl, _⟩ := free_ok (hf p List.mem_cons_self)
        rw [ho] at ho'; cases ho'
        obtain ⟨_, hsame1, hsol, hob1⟩ := sFree_ok hfl h1 hr hg ht
        obtain ⟨hsame2, hob2⟩ := svEq_ok h2
        obtain ⟨hsame3, hob3⟩ := ih (hr.same (hsame1.trans hsame2)) h (fun q hq => hf q (List.mem_cons_of_mem _ hq)) (fun q hq => hp q (List.mem_cons_of_mem _ hq))
        refine ⟨(hsame1.trans hsame2).trans hsame3, fun ob => ?_⟩
        obtain ⟨ob2, hst⟩ := hob3 ob
        obtain ⟨ob1, heq⟩ := hob2 ob2
        obtain ⟨ob0, y, hv, hrun, hnot⟩ := hob1 ob1
        refine ⟨ob0, fun q hq o' ho' => ?_⟩
        rcases List.mem_cons.1 hq with e | e
        · subst e
          rw [ho] at ho'; cases ho'
          have hvz := ht.at d
          rw [heq] at hvz
          have hyz : y = z.getD d undef := VR.func1 x _ _ hsol hv hvz
          refine ⟨fun hw => ⟨y, (hrun hw).1, fun t et => ?_⟩, fun hw t et => ?_⟩
          · rw [hd] at et; cases et; exact hyz
          · rw [hd] at et; cases et; rw [← hyz, hnot hw]
        · exact hst q e o' ho'

end
end Go.Rx
set_option linter.unusedVariables false
set_option linter.unusedSimpArgs false
namespace Go.Rx
section
variable {E : Env} {ν : Val} {M : Own} {w0 w : World} {s s' : SH}

def RoR (ν : Val) : Option Nat → Option Nat → Prop
  | none, r => r = none
  | some i, r => ∃ b, ν i = some b ∧ r = some b.1
theorem RoR.mono {ν' : Val} (h : ν.Le ν') : ∀ {x r : Option Nat}, RoR ν x r → RoR ν' x r
  | none, _, e => e
  | some _, _, ⟨b, hb, e⟩ => ⟨b, h _ _ hb, e⟩

/-- A frame that runs: its temporaries and what is to be done; hl: the hidden blocks of its region. -/
inductive RunR (E : Env) (ν : Val) (M : Own) (w0 : World) (s : SH) : List Nat → STm → List SI → Array Value → List Item → Prop
  | plain {tm : STm} {xs : List SI} {a : Array Value} {ys : List Item} (ht : TmR ν tm a) (hk : KsR ν xs ys) : RunR E ν M w0 s [] tm xs a ys
  | drw {ops : Array Oper} {rem pend L : List Nat} {lag : List (Nat × Nat)} {tm : STm} {a z : Array Value} {k : List SI} {k' : List Item} (hok : edgesOk ops = true) (hn : rem.Nodup) (d : Drw E ν M w0 ops rem pend lag L tm a z)
      (st : StabS E ν s ops pend z) (hk : KsR ν k k') : RunR E ν M w0 s (lag.map (·.2)) tm (.drw ops rem pend :: k) a (.inRegion ops L :: k')

/-- A frame that waits for a value. -/
inductive WaitR (E : Env) (ν : Val) (M : Own) (w0 : World) : List Nat → STm → List SI → Array Value → List Item → Prop
  | plain {tm : STm} {xs : List SI} {a : Array Value} {ys : List Item} (ht : TmR ν tm a) (hk : KsR ν xs ys) : WaitR E ν M w0 [] tm xs a ys
  | drw {ops : Array Oper} {e : Nat} {rem pend L : List Nat} {lag : List (Nat × Nat)} {tm : STm} {a z : Array Value} {k : List SI} {k' : List Item} (hok : edgesOk ops = true) (hn : (e :: rem).Nodup) (d : Drw E ν M w0 ops (e :: rem) pend lag (e :: L) tm a z)
      (hnl : NoLag ops lag e) (hk : KsR ν k k') : WaitR E ν M w0 (lag.map (·.2)) tm (.drw ops (e :: rem) pend :: k) a (.inRegion ops (e :: L) :: k')

theorem WaitR.mono {ν' : Val} (h : ν.Le ν') {hl : List Nat} {tm : STm} {xs : List SI} {a : Array Value} {ys : List Item} : WaitR E ν M w0 hl tm xs a ys → WaitR E ν' M w0 hl tm xs a ys
  | .plain ht hk => .plain (ht.mono h) (hk.mono h)
  | .drw hok hn d hnl hk => .drw hok hn (d.mono h) hnl (hk.mono h)

theorem WaitR.rebase {M' : Own} {w0' : World} {hl : List Nat} (k : ∀ b ∈ hl, ∀ r, Hidden M w0 b r → Hidden M' w0' b r) {tm : STm} {xs : List SI} {a : Array Value} {ys : List Item} : WaitR E ν M w0 hl tm xs a ys → WaitR E ν M' w0' hl tm xs a ys
  | .plain ht hk => .plain ht hk
  | .drw hok hn d hnl hk => .drw hok hn (d.rebase fun q hq r h => k _ (List.mem_map.2 ⟨q, hq, rfl⟩) r h) hnl hk

theorem WaitR.hidden {hl : List Nat} {tm : STm} {xs : List SI} {a : Array Value} {ys : List Item} (h : WaitR E ν M w0 hl tm xs a ys) : ∀ b ∈ hl, ∃ r, Hidden M w0 b r := by
  cases h with
  | plain ht hk => intro b hb; cases hb
  | drw hok hn d hnl hk =>
    intro b hb
    obtain ⟨q, hq, rfl⟩ := List.mem_map.1 hb
    obtain ⟨_, _, _, r, _, _, _, _, _, h, _⟩ := d.lagged q hq
    exact ⟨r, h⟩

structure FrB (ν : Val) (F : SF) (fr : Frame) : Prop where
  fn : fr.fn = F.fn
  defers : DefsR ν F.defers fr.defers
  kind : fr.kind = F.kind
  ro : RoR ν F.ro fr.roundOf
theorem FrB.mono {ν' : Val} (h : ν.Le ν') {F : SF} {fr : Frame} (b : FrB ν F fr) : FrB ν' F fr := ⟨b.fn, b.defers.mono h, b.kind, b.ro.mono h⟩

structure TopR (E : Env) (ν : Val) (M : Own) (w0 : World) (hl : List Nat) (s : SH) (F : SF) (fr : Frame) : Prop where
  base : FrB ν F fr
  run : F.ret = false → fr.mode = .run ∧ RunR E ν M w0 s hl F.tm F.todo fr.tmps fr.todo
  ret : F.ret = true → fr.mode = .returning ∧ TmR ν F.tm fr.tmps

structure WaitF (E : Env) (ν : Val) (M : Own) (w0 : World) (hl : List Nat) (F : SF) (fr : Frame) : Prop where
  base : FrB ν F fr
  ret : F.ret = false
  mode : fr.mode = .run
  todo : WaitR E ν M w0 hl F.tm F.todo fr.tmps fr.todo
theorem WaitF.mono {ν' : Val} (h : ν.Le ν') {hl : List Nat} {F : SF} {fr : Frame} (b : WaitF E ν M w0 hl F fr) : WaitF E ν' M w0 hl F fr := ⟨b.base.mono h, b.ret, b.mode, b.todo.mono h⟩

structure RetF (ν : Val) (F : SF) (fr : Frame) : Prop where
  base : FrB ν F fr
  ret : F.ret = true
  mode : fr.mode = .returning
  tm : TmR ν F.tm fr.tmps
theorem RetF.mono {ν' : Val} (h : ν.Le ν') {F : SF} {fr : Frame} (b : RetF ν F fr) : RetF ν' F fr := ⟨b.base.mono h, b.ret, b.mode, b.tm.mono h⟩

/-- The frames that wait. hl: the hidden blocks of the frames above. -/
inductive CallersR (E : Env) (ν : Val) (M : Own) (w0 : World) (cs0 : List Frame) : List Nat → CallKind → List SF → List Frame → Prop
  | nil {hl : List Nat} (hnd : hl.Nodup) : CallersR E ν M w0 cs0 hl .normal [] cs0
  | wait {hl hl1 : List Nat} {F : SF} {fr : Frame} {Fs : List SF} {frs : List Frame} (h : WaitF E ν M w0 hl1 F fr) (t : CallersR E ν M w0 cs0 (hl ++ hl1) F.kind Fs frs) : CallersR E ν M w0 cs0 hl .normal (F :: Fs) (fr :: frs)
  | ret {hl : List Nat} {F : SF} {fr : Frame} {Fs : List SF} {frs : List Frame} (h : RetF ν F fr) (t : CallersR E ν M w0 cs0 hl F.kind Fs frs) : CallersR E ν M w0 cs0 hl .deferred (F :: Fs) (fr :: frs)

theorem CallersR.mono {ν' : Val} (h : ν.Le ν') {cs0 : List Frame} {hl : List Nat} {k : CallKind} {Fs : List SF} {frs : List Frame} (c : CallersR E ν M w0 cs0 hl k Fs frs) : CallersR E ν' M w0 cs0 hl k Fs frs := by
  induction c with
  | nil hnd => exact .nil hnd
  | wait hf _ ih => exact .wait (hf.mono h) ih
  | ret hf _ ih => exact .ret (hf.mono h) ih

theorem CallersR.nodup {cs0 : List Frame} {hl : List Nat} {k : CallKind} {Fs : List SF} {frs : List Frame} (c : CallersR E ν M w0 cs0 hl k Fs frs) : hl.Nodup := by
  induction c with
  | nil hnd => exact hnd
  | wait _ _ ih => exact (List.nodup_append.1 ih).1
  | ret _ _ ih => exact ih

theorem CallersR.rebase {M' : Own} {w0' : World} {cs0 : List Frame} {hl : List Nat} {k : CallKind} {Fs : List SF} {frs : List Frame} (c : CallersR E ν M w0 cs0 hl k Fs frs) :
    ∀ {hl' : List Nat}, (∀ b, b ∉ hl → ∀ r, Hidden M w0 b r → Hidden M' w0' b r) → (∀ x : List Nat, (∀ b ∈ x, ∃ r, Hidden M w0 b r) → (hl ++ x).Nodup → (hl' ++ x).Nodup) → CallersR E ν M' w0' cs0 hl' k Fs frs := by
  induction c with
  | nil hnd => intro hl' _ hx; exact .nil (by have := hx [] (fun b hb => by cases hb) (by simpa using hnd); simpa using this)
  | wait hf t ih =>
    intro hl' hk hx
    have hnd := t.nodup
    refine .wait (hl1 := _) ⟨hf.base, hf.ret, hf.mode, hf.todo.rebase fun b hb r h => hk b (fun hm => (List.nodup_append.1 hnd).2.2 b hm b hb rfl) r h⟩ (ih (fun b hb => hk b fun hm => hb (List.mem_append_left _ hm)) fun x hxh hxn => ?_)
    rw [List.append_assoc] at hxn ⊢
    refine hx _ (fun b hb => ?_) hxn
    rcases List.mem_append.1 hb with hb | hb
    · exact hf.todo.hidden b hb
    · exact hxh b hb
  | ret hf _ ih => intro hl' hk hx; exact .ret hf (ih hk hx)

theorem CallersR.clear {cs0 : List Frame} {hl : List Nat} {k : CallKind} {Fs : List SF} {frs : List Frame} (c : CallersR E ν M w0 cs0 hl k Fs frs) : CallersR E ν M w0 cs0 [] k Fs frs :=
  c.rebase (fun _ _ _ h => h) fun _ _ h => by simpa using (List.nodup_append.1 h).2.1

/-- What a symbolic machine stands for. -/
structure MR (E : Env) (M : Own) (w0 : World) (cs0 : List Frame) (ν : Val) (S : SM) (m : Machine) : Prop where
  ex : ∃ fr cs w hl, m = lone fr cs w ∧ HR ν M w0 S.mem w ∧ GR ν E ∧ TopR E ν M w0 hl S.mem S.top fr ∧ CallersR E ν M w0 cs0 hl S.top.kind S.callers cs

def ExtOK (E : Env) : Prop := ∀ f k, E.ext f = some k → ∀ args x s s', sExt E k args s = some (x, s') → ∀ ν M w0 w a, HR ν M w0 s w → VRL ν args a → s'.ob → s.ob ∧
  ∃ ν' w' y, ν.Le ν' ∧ (callFunc f a.toArray).run E.P w = .ok (.value y) w' ∧ VR ν' x y ∧ HR ν' M w0 s' w'

/-- What comes back of a call that turns nothing that was there: a value of what there is, or one that may name a new object. -/
inductive NewVal (ν : Val) (s : SH) (w : World) (s' : SH) (w' : World) (x : SV) (y : Value) : Prop where
  | same (hs : s.Same s') (hv : VR ν x y)
  | made (s0 : SH) (so : SO) (b c : Nat) (o : Obj) (hs : s.Same s0) (hroom : s0.room = true) (he : s' = s0.new so) (hb : w.heap.size ≤ b) (ho : w'.heap[b]? = some o) (hor : OR (ν.put s0.nx (b, c)) s0.nx so o) (hv : VR (ν.put s0.nx (b, c)) x y)

/-- Nothing that was there turns, but one block. -/
structure But (w w' : World) (b : Nat) : Prop where
  os : w'.os = w.os
  tape : w'.tape = w.tape
  output : w'.output = w.output
  size : w.heap.size ≤ w'.heap.size
  block : ∀ k, k < w.heap.size → k ≠ b → w'.heap[k]? = w.heap[k]?

/-- .. or a call that turns one object that is told. -/
inductive TurnVal (ν : Val) (s : SH) (w : World) (s' : SH) (w' : World) (x : SV) (y : Value) : Prop where
  | old (hb : Go.RowKit.Below w.heap.size w w') (n : NewVal ν s w s' w' x y)
  | turn (s0 : SH) (j : Nat) (so so' : SO) (b : Nat × Nat) (o : Obj) (hs : s.Same s0) (hl : s0.look j = some (so, true)) (he : s' = s0.put j so') (hb : ν j = some b) (ho : w'.heap[b.1]? = some o) (hor : OR ν j so' o) (hw : But w w' b.1) (hv : VR ν x y)

/-- Contracts of functions. -/
def SumsOK (E : Env) (M : Own) (w0 : World) : Prop := ∀ f g, E.sums f = some g → ∀ args x s s', g args s = some (x, s') → s'.ob → s.ob ∧ ∀ ν w a, HR ν M w0 s w → GR ν E → VRL ν args a →
  (callFunc f a.toArray).run E.P w = .ok (.enter f a.toArray) w ∧ Calls E.P f a.toArray w fun e w' => ∃ y, e = .returned y ∧ TurnVal ν s w s' w' x y

/-- The calls of which it is told what may come back: they turn nothing that was there. -/
def QOK (E : Env) (M : Own) (w0 : World) : Prop := ∀ f g, E.qs f = some g → ∀ args l, g args = some l → l ≠ [] ∧ ∀ ν s w a, HR ν M w0 s w → GR ν E → VRL ν args a →
  (callFunc f a.toArray).run E.P w = .ok (.enter f a.toArray) w ∧ Calls E.P f a.toArray w fun e w' => Go.RowKit.Below w.heap.size w w' ∧ ∃ x ∈ l, ∃ y, e = .returned y ∧ VR ν x y

structure Facts (E : Env) (M : Own) (w0 : World) : Prop where
  mixed : E.P.follows .mixedOrders = true
  calls : ∀ (f : Nat) (fn : Func), E.P.funcs[f]? = some fn → fn.body ≠ none → fn.name ≠ "runtime.NumGoroutine"
  ext : ExtOK E
  sums : SumsOK E M w0
  qs : QOK E M w0

theorem Facts.rebase {M1 : Own} {w1 : World} (K : Facts E M w0) (B : Base M w0 M1 w1) : Facts E M1 w1 :=
  ⟨K.mixed, K.calls, K.ext, fun f g hg args x s s' hx ob => ⟨(K.sums f g hg args x s s' hx ob).1, fun ν w a hr => (K.sums f g hg args x s s' hx ob).2 ν w a (hr.unbase B)⟩, fun f g hg args l hl => ⟨(K.qs f g hg args l hl).1, fun ν s w a hr => (K.qs f g hg args l hl).2 ν s w a (hr.unbase B)⟩⟩

/-- What was told holds behind a call that turns nothing. -/
theorem HR.grow {w' : World} (h : HR ν M w0 s w) (b : Go.RowKit.Below w.heap.size w w') : HR ν M w0 s w' := by
  refine ⟨h.full, h.dom, h.fresh, fun i hi x hx => ?_, h.inj, Nat.le_trans h.size b.size, fun k hk hM => ?_, h.ro, b.os.trans h.os, b.tape.trans h.tape, b.output.trans h.output⟩
  · obtain ⟨c, o, h1, h2, h3, h4⟩ := h.obj i hi x hx
    exact ⟨c, o, h1, by rw [b.block _ (Array.getElem?_eq_some_iff.1 h2).1]; exact h2, h3, h4⟩
  · rw [b.block k (Nat.lt_of_lt_of_le hk h.size)]; exact h.frame k hk hM

/-- A block that lies behind all that is told becomes an object. -/
theorem HR.adoptNew {w' : World} (h : HR ν M w0 s w') (hr : s.room = true) {so : SO} {o : Obj} {b c : Nat} (hge : w0.heap.size ≤ b) (ho : w'.heap[b]? = some o) (hnew : ∀ i d, i < 2 ^ s.d → s.H.get i ≠ none → ν i = some d → d.1 ≠ b)
    (hor : OR (ν.put s.nx (b, c)) s.nx so o) : ν.Le (ν.put s.nx (b, c)) ∧ HR (ν.put s.nx (b, c)) M w0 (s.new so) w' := by
  have hnx : ν s.nx = none := h.fresh _ (Nat.le_refl _)
  have hlt : s.nx < 2 ^ s.d := blt_iff.1 hr
  have hle := Val.put_le hnx (b, c)
  have hput : ∀ j, j ≠ s.nx → (ν.put s.nx (b, c)) j = ν j := fun j e => by simp [Val.put, e]
  have g : ∀ u, u < 2 ^ s.d → u ≠ s.nx → (s.new so).H.get u ≠ none → s.H.get u ≠ none := by
    intro u hu ne hn
    have hn : (s.H.set s.nx (some (so, true))).get u ≠ none := hn
    rwa [Tr.get_set h.full hlt hu, if_neg ne] at hn
  refine ⟨hle, h.full.set _ _, ?_, ?_, ?_, ?_, h.size, h.frame, ?_, h.os, h.tape, h.output⟩
  · intro i hi
    have hi : 2 ^ s.d ≤ i := hi
    rw [hput i (by omega)]; exact h.dom i hi
  · intro i hi
    have hi : s.nx + 1 ≤ i := hi
    rw [hput i (by omega)]; exact h.fresh i (by omega)
  · intro j hj y hy
    have hj : j < 2 ^ s.d := hj
    have hy : (s.H.set s.nx (some (so, true))).get j = some y := hy
    rw [Tr.get_set h.full hlt hj] at hy
    by_cases e : j = s.nx
    · subst e
      rw [if_pos rfl] at hy
      cases hy
      exact ⟨(b, c), o, Val.put_self _ _ _, ho, hor, fun _ => .inl hge⟩
    · rw [if_neg e] at hy
      obtain ⟨d, o', hd, ho', hr', hown⟩ := h.obj j hj y hy
      exact ⟨d, o', by rw [hput j e]; exact hd, ho', hr'.mono hle, hown⟩
  · intro i j hi hj hgi hgj d d' hd hd' e
    have hi : i < 2 ^ s.d := hi
    have hj : j < 2 ^ s.d := hj
    by_cases ei : i = s.nx <;> by_cases ej : j = s.nx
    · rw [ei, ej]
    · subst ei
      rw [Val.put_self] at hd; cases hd
      rw [hput j ej] at hd'
      exact absurd e.symm (hnew j d' hj (g j hj ej hgj) hd')
    · subst ej
      rw [Val.put_self] at hd'; cases hd'
      rw [hput i ei] at hd
      exact absurd e (hnew i d hi (g i hi ei hgi) hd)
    · rw [hput i ei] at hd
      rw [hput j ej] at hd'
      exact h.inj i j hi hj (g i hi ei hgi) (g j hj ej hgj) d d' hd hd' e
  · intro j hj y hy hf d hd
    have hj : j < 2 ^ s.d := hj
    have hy : (s.H.set s.nx (some (so, true))).get j = some y := hy
    rw [Tr.get_set h.full hlt hj] at hy
    by_cases e : j = s.nx
    · rw [if_pos e] at hy; cases hy; cases hf
    · rw [if_neg e] at hy
      rw [hput j e] at hd
      exact h.ro j hj y hy hf d hd

theorem NewVal.hr {s' : SH} {w' : World} {x : SV} {y : Value} (n : NewVal ν s w s' w' x y) (h : HR ν M w0 s w) (hb : Go.RowKit.Below w.heap.size w w') : ∃ ν', ν.Le ν' ∧ VR ν' x y ∧ HR ν' M w0 s' w' := by
  cases n with
  | same hs hv => exact ⟨ν, Val.Le.refl _, hv, (h.grow hb).same hs⟩
  | made s0 so b c o hs hroom he hbb ho hor hv =>
    subst he
    have h0 := h.same hs
    obtain ⟨h1, h2⟩ := (h0.grow hb).adoptNew hroom (Nat.le_trans h.size hbb) ho (fun i d hi hn hd e => by
      cases hx : s0.H.get i with
      | none => exact hn hx
      | some z =>
        obtain ⟨d', o', hd', ho', _⟩ := h0.obj i hi z hx
        rw [hd] at hd'; cases hd'
        have := (Array.getElem?_eq_some_iff.1 ho').1
        omega) hor
    exact ⟨_, h1, hv, h2⟩

/-- One object turns. -/
theorem HR.turn {w' : World} (h : HR ν M w0 s w) {i : Nat} {x : SO} (e : s.look i = some (x, true)) {o : SO} {r : Obj} {b : Nat × Nat}
    (hb : ν i = some b) (ho : OR ν i o r) (hr : w'.heap[b.1]? = some r) (k : But w w' b.1) : HR ν M w0 (s.put i o) w' := by
  obtain ⟨hi, hg, b', o', hb', ho', _, hown⟩ := h.look e
  obtain rfl : b = b' := by rw [hb] at hb'; exact Option.some.inj hb'
  have hlt : b.1 < w.heap.size := (Array.getElem?_eq_some_iff.1 ho').1
  -- first the new objects, then the block
  let w1 : World := { w' with heap := w'.heap.setIfInBounds b.1 o' }
  have hlt' : b.1 < w'.heap.size := Nat.lt_of_lt_of_le hlt k.size
  have hB : Go.RowKit.Below w.heap.size w w1 := by
    refine ⟨k.os, k.tape, k.output, by show w.heap.size ≤ (w'.heap.setIfInBounds b.1 o').size; simpa using k.size, fun j hj => ?_⟩
    show (w'.heap.setIfInBounds b.1 o')[j]? = w.heap[j]?
    rw [Array.getElem?_setIfInBounds]
    by_cases e : b.1 = j
    · rw [if_pos e, ← e, ho']; simp [hlt']
    · rw [if_neg e]; exact k.block j hj fun h => e h.symm
  have h1 := h.grow hB
  refine h1.put e hb ho (w' := w') (r := r) ?_ rfl rfl rfl
  show w'.heap = (w'.heap.setIfInBounds b.1 o').setIfInBounds b.1 r
  apply Array.ext
  · simp
  · intro j hj1 hj2
    rw [Array.getElem_setIfInBounds (by simpa using hj1)]
    by_cases e : b.1 = j
    · rw [if_pos e]
      subst e
      exact (Array.getElem?_eq_some_iff.1 hr).2
    · rw [if_neg e, Array.getElem_setIfInBounds hj1, if_neg e]
theorem TurnVal.hr {s' : SH} {w' : World} {x : SV} {y : Value} (n : TurnVal ν s w s' w' x y) (h : HR ν M w0 s w) : ∃ ν', ν.Le ν' ∧ VR ν' x y ∧ HR ν' M w0 s' w' := by
  cases n with
  | old hb n => exact n.hr h hb
  | turn s0 j so so' b o hs hl he hb ho hor hw hv =>
    subst he
    exact ⟨ν, Val.Le.refl _, hv, (h.same hs).turn hl hb hor ho hw⟩

/-! ### a value comes back -/

theorem finish_ok {F F' : SF} {fr : Frame} {x : SV} {y : Value} {hl : List Nat} (hf : WaitF E ν M w0 hl F fr) (hr : HR ν M w0 s w) (hg : GR ν E) (hv : VR ν x y) (h : finish E F x s = some (F', s')) :
    s.Same s' ∧ F'.kind = F.kind ∧ (s'.ob → s.ob ∧ TopR E ν M w0 hl s' F' (fr.finish y)) := by
  obtain ⟨fn, tm, todo, defers, ret, kind, ro⟩ := F
  obtain ⟨fn', tmps, todo', defers', mode', kind', ro'⟩ := fr
  obtain ⟨⟨h1, h2, h3, h4⟩, hret, hmode, hw⟩ := hf
  dsimp only at h1 h2 h3 h4 hret hmode hw
  have noret : ∀ {P : Prop}, ret = true → P := fun e => by rw [hret] at e; cases e
  cases hw with
  | plain ht hk =>
    cases hk with
    | nil => simp [finish] at h
    | cons hx hk =>
      cases hx with
      | reg ops is =>
        cases is with
        | nil => simp [finish] at h
        | cons i rest =>
          simp only [finish] at h
          split at h
          · rename_i o ho
            cases h
            refine ⟨.refl _, rfl, fun ob => ⟨ob, ⟨h1, h2, h3, h4⟩, fun _ => ⟨hmode, .plain ?_ (.cons (.reg ops rest) hk)⟩, noret⟩⟩
            have := ht.putDst o hv
            simp only [Frame.finish, ho, Option.bind_some]
            exact this
          · cases h
      | inRF e =>
        simp only [finish, Option.some.injEq, Prod.mk.injEq] at h
        obtain ⟨rfl, rfl⟩ := h
        exact ⟨.refl _, rfl, fun ob => ⟨ob, ⟨h1, h2, h3, h4⟩, fun _ => ⟨hmode, .plain ht (.cons (.endRF e) hk)⟩, noret⟩⟩
      | beginRound =>
        simp only [finish, Option.some.injEq, Prod.mk.injEq] at h
        obtain ⟨rfl, rfl⟩ := h
        exact ⟨.refl _, rfl, fun ob => ⟨ob, ⟨h1, h2, h3, h4⟩, fun _ => ⟨hmode, .plain ht hk⟩, noret⟩⟩
      | _ => simp [finish] at h
  | drw hok hn d hnl hk =>
    rename_i ops e rem pend L lag z k k'
    simp only [finish] at h
    split at h
    · rename_i o ho
      cases hu : unnamed ops pend o
      · rw [hu] at h; cases h
      · rw [hu] at h
        simp only [cond_true] at h
        cases hre : recheck E ops (putDst tm o x) pend s with
        | none => rw [hre] at h; cases h
        | some s1 =>
        rw [hre] at h; cases h
        have d' := d.done ho (.inl hn) hu hv hnl
        obtain ⟨hsame, hob⟩ := recheck_ok hr hg d'.tm hr hre d'.free d'.pure
        refine ⟨hsame, rfl, fun ob => ⟨(hob ob).1, ⟨h1, h2, h3, h4⟩, fun _ => ⟨hmode, ?_⟩, noret⟩⟩
        have := RunR.drw hok (List.nodup_cons.1 hn).2 d' (fun M' w0' w' hr' => ((recheck_ok (hr'.same hsame.symm) hg d'.tm (hr'.same hsame.symm) hre d'.free d'.pure).2 ob).2) hk
        simp only [Frame.finish, ho, Option.bind_some]
        exact this
    · cases h

/-! ### frames are made -/

theorem mkGo_ok (d : Nat) : ∀ (args : List SV) (i : Nat) (T : Tr SV), Tr.Full d T → i + args.length ≤ 2 ^ d →
    Tr.Full d (mkTm.go T i args) ∧ ∀ t, t < 2 ^ d → (mkTm.go T i args).get t = if i ≤ t then (args[t - i]?).getD (T.get t) else T.get t
  | [], i, T, h, _ => ⟨h, fun t _ => by simp [mkTm.go]⟩
  | x :: xs, i, T, h, hl => by
    simp only [List.length_cons] at hl
    obtain ⟨h1, h2⟩ := mkGo_ok d xs (i + 1) (T.set i x) (h.set _ _) (by omega)
    refine ⟨h1, fun t ht => ?_⟩
    rw [mkTm.go, h2 t ht, Tr.get_set h (by omega) ht]
    by_cases e1 : i + 1 ≤ t
    · rw [if_pos e1, if_neg (show ¬ t = i by omega), if_pos (show i ≤ t by omega)]
      have : t - i = (t - (i + 1)) + 1 := by omega
      rw [this, List.getElem?_cons_succ]
    · rw [if_neg e1]
      by_cases e2 : t = i
      · subst e2; simp
      · rw [if_neg e2, if_neg (show ¬ i ≤ t by omega)]

theorem mkTm_ok {n : Nat} {args : List SV} {a : List Value} {tm : STm} (h : mkTm n args = some tm) (ha : VRL ν args a) : TmR ν tm (a.toArray ++ Array.replicate (n - a.toArray.size) undef) := by
  unfold mkTm at h
  cases hc : (Nat.ble args.length n && Nat.ble n (2 ^ depthOf n))
  · rw [hc] at h; cases h
  · rw [hc] at h
    cases h
    rw [Bool.and_eq_true, Nat.ble_eq, Nat.ble_eq] at hc
    obtain ⟨hl, hn⟩ := hc
    have hal := ha.length
    obtain ⟨hf, hg⟩ := mkGo_ok (depthOf n) args 0 (Tr.mk (.v undef) (depthOf n)) (Tr.full_mk _ _) (by omega)
    refine ⟨by simp; omega, hf, hn, fun t ht => ?_⟩
    have ht' : t < n := ht
    rw [hg t (by omega), if_pos (Nat.zero_le _), Tr.get_mk]
    simp only [Nat.sub_zero]
    rw [Array.getD_eq_getD_getElem?, Array.getElem?_append]
    by_cases e : t < args.length
    · rw [if_pos (by simp; omega)]
      have hx : args[t]? = some args[t] := List.getElem?_eq_getElem e
      obtain ⟨y, hy, hv⟩ := ha.get hx
      rw [hx]
      have : a.toArray[t]? = some y := by simpa using hy
      rw [this]; exact hv
    · rw [if_neg (by simp; omega), List.getElem?_eq_none (by omega)]
      simp only [Option.getD_none, List.size_toArray]
      rw [Array.getElem?_replicate, if_pos (by omega)]
      exact VR.v_iff.2 rfl

theorem enterF_ok {f : FuncId} {args : List SV} {a : List Value} {kind : CallKind} {G : SF} (h : enterF E f args kind = some G) (ha : VRL ν args a) (s : SH) :
    TopR E ν M w0 [] s G (Frame.enter E.P f a.toArray kind) ∧ G.kind = kind ∧ ∃ fn, E.P.funcs[f]? = some fn ∧ fn.body ≠ none := by
  unfold enterF at h
  split at h
  · rename_i fn hfn
    split at h
    · rename_i c hc
      cases hm : mkTm fn.ntmps args with
      | none => rw [hm] at h; cases h
      | some tm =>
      rw [hm] at h; cases h
      have ht := mkTm_ok hm ha
      refine ⟨⟨⟨rfl, rfl, rfl, rfl⟩, fun _ => ⟨rfl, .plain ?_ ?_⟩, fun hc => by cases hc⟩, rfl, fn, hfn, by rw [hc]; exact fun h => by cases h⟩
      · simp only [Frame.enter, hfn, Option.map_some, Option.getD_some]; exact ht
      · simp only [Frame.enter, hfn, Option.bind_some, hc, Option.getD_some]; exact .cons (.code c) .nil
    · cases h
  · cases h

theorem foldl_set_ok : ∀ {ps : List Tmp} {args : List SV} {a : List Value} {tm : STm} {t : Array Value}, TmR ν tm t → VRL ν args a →
    TmR ν ((ps.zip args).foldl (fun tm (t, a) => tm.set t a) tm) ((ps.zip a).foldl (fun tmps (t, a) => tmps.setIfInBounds t a) t)
  | [], _, _, _, _, h, _ => by simpa using h
  | _ :: _, [], _, _, _, h, ha => by rw [ha.nil_inv]; simpa using h
  | p :: ps, x :: xs, _, _, _, h, ha => by
    obtain ⟨y, ys, rfl, hy, hys⟩ := ha.cons_inv
    simp only [List.zip_cons_cons, List.foldl_cons]
    exact foldl_set_ok (h.set p hy) hys

theorem run_getLoop {l : Nat} {r : Loop} (h : w.heap[l]? = some (.loop r)) : (Instr.getLoop l).run E.P w = .ok r w := by
  have := run_getObj (P := E.P) h (by intro c e f; exact fun h => by cases h)
  simp [Instr.getLoop, this]

/-- A round begins. -/
theorem yield_ok {i : Nat} {b : Nat × Nat} {args : List SV} {a : List Value} {st : LoopState} {p : Option Code} {fn : FuncId} {tm : STm} {params : List Tmp} {assign body : Code} {df : Nat} {wr : Bool}
    (hl : s.look i = some (.loop st p fn tm params assign body df, wr)) (hlen : args.length = params.length) (hb : ν i = some b) (ha : VRL ν args a) (hr : HR ν M w0 s w) :
    ∃ t, (Instr.yield b.1 a.toArray).run E.P w = .ok (.round b.1 fn t assign body) w ∧ TmR ν ((params.zip args).foldl (fun tm (t, a) => tm.set t a) tm) t := by
  obtain ⟨_, _, b', o, hb', ho, hor, _⟩ := hr.look hl
  rw [hb] at hb'; cases hb'
  obtain ⟨t, b2, hb2, ht, rfl⟩ := hor
  refine ⟨_, ?_, foldl_set_ok ht ha⟩
  have hsz : a.toArray.size = params.toArray.size := by simp [ha.length, hlen]
  simp only [Instr.yield, Sem.run_bind, run_getLoop ho, Result.andThen_ok, hsz, ne_eq, not_true_eq_false, if_false, Sem.run_pure]
  congr 2
  rw [← Array.foldl_toList]
  simp

end
end Go.Rx
set_option linter.unusedVariables false
set_option linter.unusedSimpArgs false
namespace Go.Rx
section
variable {E : Env} {ν : Val} {M : Own} {w0 w : World} {s s' : SH} {hid : List Nat}

/-! ### what is owed only grows -/

theorem keyIs_mono {kd : TypeDesc} {k k' : SV} {t : Bool} (h : keyIs E kd k k' s = some (t, s')) : s'.ob → s.ob := by
  unfold keyIs at h
  split at h
  · rename_i a x b y
    cases hb : (a == b)
    · rw [hb] at h; cases h
    · rw [hb] at h
      exact fun ob => ((SH.dec_ok (Option.some.inj h)).2 ob).1
  · exact fun ob => ((SH.dec_ok (Option.some.inj h)).2 ob).1
  · exact fun ob => ((SH.dec_ok (Option.some.inj h)).2 ob).1
  · cases h

theorem findS_mono {kd : TypeDesc} {k : SV} : ∀ {es : List (SV × SV × Nat)} {i : Nat} {s s' : SH} {r : Option (Nat × SV × Nat)}, findS E kd k es i s = some (r, s') → s'.ob → s.ob
  | [], _, _, _, _, h, ob => by cases h; exact ob
  | e :: es, i, s, s', r, h, ob => by
    unfold findS at h
    split at h
    · rename_i s1 hk
      cases h
      exact keyIs_mono hk ob
    · rename_i s1 hk
      exact keyIs_mono hk (findS_mono h ob)
    · cases h

theorem findQ_mono {kd : TypeDesc} {k : SV} {es : List (SV × SV × Nat)} {s s' : SH} {r : Option (Nat × SV × Nat)} (h : findQ E kd k es s = some (r, s')) : s'.ob → s.ob := by
  unfold findQ at h
  split at h
  · cases h; exact fun ob => ob.1
  · cases h; exact fun ob => ob.1
  · exact findS_mono h

theorem sLoadQ_mono {t : TypeId} {a x : SV} {l : List SV} (h : sLoadQ E t a l s = some (x, s')) : s'.ob → s.ob := by
  unfold sLoadQ at h
  split at h
  · split at h
    · rename_i ag _ _ _ _ _ _
      revert h
      cases ag
      · simp only [cond_false]
        split
        · intro h; cases h; exact fun ob => ob.1
        · intro h; cases h
      · intro h; cases h; exact fun ob => ob.1
    · cases h
  · cases h

theorem sLoad0_mono {t : TypeId} {a x : SV} (h : sLoad0 E t a s = some (x, s')) : s'.ob → s.ob := by
  unfold sLoad0 at h
  have map1 : ∀ {o : Option SV}, o.map (·, s) = some (x, s') → s'.ob → s.ob := by
    intro o h
    cases o with
    | none => cases h
    | some y => cases h; exact id
  have map2 : ∀ {b : Bool} {y : SV}, (s.ask E b).map (y, ·) = some (x, s') → s'.ob → s.ob := by
    intro b y h
    cases hq : s.ask E b with
    | none => rw [hq] at h; cases h
    | some s1 => rw [hq] at h; cases h; exact fun ob => ((SH.ask_ok hq).2 ob).1
  split at h
  · split at h
    · exact map1 h
    · exact map1 h
    · exact map2 h
    · cases h
  · split at h
    · rename_i xs _ _ _ _ _
      rename_i off info _ _ _ _ _ _ _ _ _
      revert h
      generalize Nat.ble _ _ = bb
      cases bb
      · intro h; cases h
      · intro h; cases h; exact id
    · exact map2 h
    · cases h
  · cases h

theorem sLoad_mono {t : TypeId} {a x : SV} (h : sLoad E t a s = some (x, s')) : s'.ob → s.ob := by
  unfold sLoad at h
  split at h
  · exact sLoadQ_mono h
  · exact sLoad0_mono h

theorem sLookup_mono {t : TypeId} {m k x : SV} {ok : Bool} (h : sLookup E t m k ok s = some (x, s')) : s'.ob → s.ob := by
  unfold sLookup at h
  split at h
  · obtain ⟨kd, _, h⟩ := Option.bind_eq_some_iff.1 h
    obtain ⟨zi, _, h⟩ := Option.bind_eq_some_iff.1 h
    obtain ⟨z, _, h⟩ := Option.bind_eq_some_iff.1 h
    dsimp only at h
    split at h
    · obtain ⟨es, _, h⟩ := Option.bind_eq_some_iff.1 h
      obtain ⟨⟨r, s1⟩, h1, h⟩ := Option.bind_eq_some_iff.1 h
      have := findQ_mono h1
      dsimp only at h
      split at h <;> (cases h; exact this)
    · split at h
      · obtain ⟨es, _, h⟩ := Option.bind_eq_some_iff.1 h
        obtain ⟨⟨r, s1⟩, h1, h⟩ := Option.bind_eq_some_iff.1 h
        have := findQ_mono h1
        dsimp only at h
        split at h <;> (cases h; exact this)
      · cases h
    · cases h
  · cases h

theorem sLook_mono {tm : STm} {o : Oper} {x : SV} (hl : looks o.op = true) (hf : floats o.op = true) (hn : ∀ a b c, o.op = .convert a b c → False) (h : sOp E tm o s = some [(.val x, s')]) : s'.ob → s.ob := by
  obtain ⟨dst, op, type, pos, aft, guard⟩ := o
  have vs1 : ∀ {z : Option (SV × SH)}, (z.map fun x => [(SNext.val x.1, x.2)]) = some [(.val x, s')] → z = some (x, s') := by
    intro z h
    cases z with
    | none => cases h
    | some r => obtain ⟨a, b⟩ := r; simpa using h
  have v1 : ∀ {z : Option SV}, (z.map fun x => [(SNext.val x, s)]) = some [(.val x, s')] → s'.ob → s.ob := by
    intro z h
    cases z with
    | none => cases h
    | some r => cases h; exact id
  cases op with
  | load t a => exact sLoad_mono (vs1 h)
  | lookup t m k ok => exact sLookup_mono (vs1 h)
  | call c =>
    obtain ⟨callee, args, ats⟩ := c
    cases callee with
    | value f => cases hf
    | invoke r n => cases hf
    | builtin b =>
      simp only [sOp] at h
      split at h
      · rename_i r hc
        have hc' := vs1 (z := some r) h
        rw [hc'] at hc
        cases b with
        | len =>
          simp only [sBuiltin] at hc
          split at hc
          · rename_i t ts z _ _
            cases hz : sLen1 E t z s with
            | none => rw [hz] at hc; cases hc
            | some y => rw [hz] at hc; cases hc; exact id
          · cases hc
        | cap =>
          simp only [sBuiltin] at hc
          split at hc
          · rename_i t ts z _ _
            cases hz : sCap1 E t z with
            | none => rw [hz] at hc; cases hc
            | some y => rw [hz] at hc; cases hc; exact id
          · cases hc
        | min => simp only [sBuiltin] at hc; cases hc
        | max => simp only [sBuiltin] at hc; cases hc
        | _ => cases hf
      · exact v1 h
  | convert a b c => exact (hn a b c rfl).elim
  | _ => cases hl

theorem wanted_mono {ops : Array Oper} {tm : STm} {o : Oper} {b : Bool} (h : wanted ops tm o E s = some (b, s')) : s'.ob → s.ob := by
  unfold wanted at h
  split at h
  · cases h; exact id
  · split at h
    · rename_i d _
      revert h
      cases Nat.blt d tm.nt
      · intro h; cases h
      · intro h
        simp only [cond_true] at h
        split at h
        · rename_i t _
          cases hdec : s.dec E t with
          | mk t' s1 =>
            rw [hdec] at h; cases h
            exact fun ob => ((SH.dec_ok hdec).2 ob).1
        · cases h; exact id
        · cases h
    · cases h

theorem sOpF_mono {tm : STm} {o : Oper} {x : SV} (hl : looks o.op = true) (hf : floats o.op = true) (h : sOpF E tm o s = some [(.val x, s')]) : s'.ob → s.ob := by
  unfold sOpF at h
  split at h
  · split at h
    · cases h; exact id
    · cases hp : sPure E tm o with
      | none => rw [hp] at h; cases h
      | some x0 => rw [hp] at h; cases h; exact id
  · rename_i e; rw [e] at hl; cases hl
  · exact sLook_mono hl hf (by assumption) h

theorem sFree_mono {ops : Array Oper} {tm : STm} {o : Oper} {x : SV} (hl : looks o.op = true) (hf : floats o.op = true) (h : sFree E ops tm o s = some (x, s')) : s'.ob → s.ob := by
  unfold sFree at h
  obtain ⟨u, _, h⟩ := Option.bind_eq_some_iff.1 h
  obtain ⟨⟨b, s1⟩, hw, h⟩ := Option.bind_eq_some_iff.1 h
  have hm := wanted_mono hw
  cases b
  · cases h; exact hm
  · simp only [cond_true] at h
    split at h
    · rename_i x1 s2 hop
      revert h
      cases x1.solid
      · intro h; cases h
      · intro h; cases h
        exact fun ob => hm (sOpF_mono hl hf hop ob)
    · cases h

theorem recheck_mono {ops : Array Oper} {tm : STm} : ∀ {pend : List Nat} {s s' : SH}, recheck E ops tm pend s = some s' → (∀ p ∈ pend, free ops (Region.before ops) p = true) → s'.ob → s.ob
  | [], _, _, h, _ => by cases h; exact id
  | p :: ps, s, s', h, hf => by
    unfold recheck at h
    split at h
    · cases h
    · rename_i o ho
      obtain ⟨o', ho', hfl, _⟩ := free_ok (hf p List.mem_cons_self)
      rw [ho] at ho'; cases ho'
      cases hl : looks o.op
      · rw [hl] at h
        exact recheck_mono h fun q hq => hf q (List.mem_cons_of_mem _ hq)
      · rw [hl] at h
        simp only [cond_true] at h
        obtain ⟨⟨x, s1⟩, h1, h⟩ := Option.bind_eq_some_iff.1 h
        obtain ⟨d, _, h⟩ := Option.bind_eq_some_iff.1 h
        obtain ⟨s2, h2, h⟩ := Option.bind_eq_some_iff.1 h
        have h3 := recheck_mono h fun q hq => hf q (List.mem_cons_of_mem _ hq)
        exact fun ob => sFree_mono hl hfl h1 ((svEq_ok h2).2 (h3 ob)).1

theorem finish_mono0 {F F' : SF} {a : Array Value} {ys : List Item} {x : SV} (hw : WaitR E ν M w0 hid F.tm F.todo a ys) (h : finish E F x s = some (F', s')) : s'.ob → s.ob := by
  obtain ⟨fn, tm, todo, defers, ret, kind, ro⟩ := F
  dsimp only at hw
  unfold finish at h
  dsimp only at h
  split at h
  · split at h
    · cases h; exact id
    · cases h
  · rename_i ops e rem pend k
    split at h
    · rename_i o ho
      revert h
      cases unnamed ops pend o
      · intro h; cases h
      · intro h
        simp only [cond_true] at h
        cases hre : recheck E ops (putDst tm o x) pend s with
        | none => rw [hre] at h; cases h
        | some s1 =>
        rw [hre] at h; cases h
        cases hw with
        | plain ht hk => cases hk with | cons hx hk => cases hx
        | drw hok hn d hnl hk => exact recheck_mono hre d.free
    · cases h
  · cases h; exact id
  · cases h; exact id
  · cases h

theorem finish_mono {F F' : SF} {fr : Frame} {x : SV} (hf : WaitF E ν M w0 hid F fr) (h : finish E F x s = some (F', s')) : s'.ob → s.ob := finish_mono0 hf.todo h
theorem finish_mono' {F F' : SF} {fr : Frame} {x : SV} {d : List SDef} (hf : WaitF E ν M w0 hid F fr) (h : finish E { F with defers := d } x s = some (F', s')) : s'.ob → s.ob :=
  finish_mono0 (F := { F with defers := d }) hf.todo h

theorem sNew_ob {o : SO} {i : Nat} (h : sNew o s = some (i, s')) : s'.ob = s.ob := by
  unfold sNew at h
  cases hr : s.room
  · rw [hr] at h; cases h
  · rw [hr] at h; cases h; rfl

theorem sStoreQ_ob {t : TypeId} {a x : SV} (h : sStoreQ E t a x s = some s') : s'.ob → s.ob := by
  unfold sStoreQ at h
  split at h
  · revert h
    generalize (_ && _ : Bool) = b
    cases b
    · intro h; cases h
    · intro h
      simp only [cond_true] at h
      split at h
      · cases h; exact fun ob => ob.1
      · cases h
  · cases h

theorem sStore0_ob {t : TypeId} {a x : SV} (h : sStore0 E t a x s = some s') : s'.ob = s.ob := by
  unfold sStore0 at h
  split at h
  · revert h
    generalize (_ && _ : Bool) = b
    cases b
    · intro h; cases h
    · intro h
      simp only [cond_true] at h
      split at h
      · revert h
        generalize (_ && _ : Bool) = b
        cases b
        · intro h; cases h
        · intro h; cases h; rfl
      · cases h
  · cases h

theorem sStore_ob {t : TypeId} {a x : SV} (h : sStore E t a x s = some s') : s'.ob → s.ob := by
  unfold sStore at h
  split at h
  · exact sStoreQ_ob h
  · exact fun ob => by rw [← sStore0_ob h]; exact ob

theorem sExt_mono {k : ExtK} {args : List SV} {x : SV} (h : sExt E k args s = some (x, s')) : s'.ob → s.ob := by
  unfold sExt at h
  split at h
  · cases h; exact id
  · obtain ⟨l, _, h⟩ := Option.bind_eq_some_iff.1 h
    obtain ⟨y, _, h⟩ := Option.map_eq_some_iff.1 h
    cases h; exact id
  · rename_i t n
    split at h
    · rename_i elem _
      cases hd : decide (0 ≤ n ∧ n ≤ 2 ^ 40)
      · rw [hd] at h; cases h
      · rw [hd] at h
        simp only [cond_true] at h
        obtain ⟨⟨i, s1⟩, h1, h⟩ := Option.map_eq_some_iff.1 h
        cases h
        rw [sNew_ob h1]; exact id
    · cases h
  · split at h
    · rename_i es clock _ _
      cases hn : sNew (.map es clock) s with
      | none => rw [hn] at h; cases h
      | some r => obtain ⟨j, s1⟩ := r; rw [hn] at h; cases h; rw [sNew_ob hn]; exact id
    · cases h
  · obtain ⟨y, _, h⟩ := Option.map_eq_some_iff.1 h
    cases h; exact id
  · cases h; exact id
  · unfold sValueOf at h
    obtain ⟨p, hp, h⟩ := Option.bind_eq_some_iff.1 h
    have hob : p.2.ob = s.ob := by
      unfold sBox at hp
      obtain ⟨l, _, hp⟩ := Option.bind_eq_some_iff.1 hp
      obtain ⟨⟨i, s1⟩, h1, hp⟩ := Option.bind_eq_some_iff.1 hp
      cases hp; exact sNew_ob h1
    split at h
    · obtain ⟨y, _, h⟩ := Option.map_eq_some_iff.1 h
      cases h; rw [hob]; exact id
    · cases h
  · obtain ⟨r, _, h⟩ := Option.bind_eq_some_iff.1 h
    obtain ⟨y, _, h⟩ := Option.map_eq_some_iff.1 h
    cases h; exact id
  · obtain ⟨r, _, h⟩ := Option.bind_eq_some_iff.1 h
    unfold sIsNil at h
    revert h
    generalize Nat.beq _ _ = b
    cases b
    · intro h; cases h
    · intro h
      obtain ⟨p, hp, h⟩ := Option.bind_eq_some_iff.1 h
      have := sLoad_mono (x := p.1) (s' := p.2) hp
      split at h
      · cases h; exact this
      · cases h; exact this
      · cases h
  · obtain ⟨r, _, h⟩ := Option.bind_eq_some_iff.1 h
    unfold sRElem at h
    revert h
    generalize Nat.beq _ _ = b
    cases b
    · intro h; cases h
    · intro h
      obtain ⟨e, _, h⟩ := Option.bind_eq_some_iff.1 h
      obtain ⟨e, _, h⟩ := Option.bind_eq_some_iff.1 h
      obtain ⟨p, hp, h⟩ := Option.bind_eq_some_iff.1 h
      have := sLoad_mono (x := p.1) (s' := p.2) hp
      split at h
      · obtain ⟨y, _, h⟩ := Option.map_eq_some_iff.1 h
        cases h; exact this
      · cases h
  · obtain ⟨r, _, h⟩ := Option.bind_eq_some_iff.1 h
    obtain ⟨q, _, h⟩ := Option.bind_eq_some_iff.1 h
    unfold sRSet at h
    revert h
    generalize Nat.beq _ _ = b
    cases b
    · intro h
      obtain ⟨p, hp, h⟩ := Option.bind_eq_some_iff.1 h
      have := sLoad_mono (x := p.1) (s' := p.2) hp
      obtain ⟨b, _, h⟩ := Option.bind_eq_some_iff.1 h
      cases b
      · cases h
      · obtain ⟨s1, h1, h⟩ := Option.map_eq_some_iff.1 h
        cases h
        exact fun ob => this (sStore_ob h1 ob)
    · intro h; cases h
  · cases h

theorem run_callFunc {P : Program} {f : FuncId} {a : Array Value} {fn : Func} (hf : P.funcs[f]? = some fn) (hb : fn.body ≠ none) (hn : fn.name ≠ "runtime.NumGoroutine") :
    (callFunc f a).run P w = .ok (.enter f a) w := by
  have hb' : fn.body.isNone = false := by cases h : fn.body with | none => exact absurd h hb | some _ => rfl
  simp [callFunc, hf, hb', hb, hn]

theorem joinM_mem {f : SNext × SH → Option (List SM)} : ∀ {L : List (SNext × SH)} {Ls : List SM}, joinM L f = some Ls → ∀ p ∈ L, ∃ l, f p = some l ∧ ∀ x ∈ l, x ∈ Ls
  | [], _, _, p, hp => by cases hp
  | x :: xs, Ls, h, p, hp => by
    unfold joinM at h
    split at h
    · rename_i a b ha hb
      cases h
      rcases List.mem_cons.1 hp with rfl | hp
      · exact ⟨a, ha, fun y hy => List.mem_append_left _ hy⟩
      · obtain ⟨l, hl, hm⟩ := joinM_mem hb p hp
        exact ⟨l, hl, fun y hy => List.mem_append_right _ (hm y hy)⟩
    · cases h

theorem finish_MR {F F' : SF} {fr : Frame} {x : SV} {y : Value} {callers : List SF} {cs cs0 : List Frame} (hf : WaitF E ν M w0 hid F fr) (hr : HR ν M w0 s w) (hg : GR ν E) (hv : VR ν x y)
    (h : finish E F x s = some (F', s')) (hc : CallersR E ν M w0 cs0 hid F.kind callers cs) (ob : s'.ob) : s.ob ∧ MR E M w0 cs0 ν { top := F', callers, mem := s' } (lone (fr.finish y) cs w) := by
  obtain ⟨hsame, hk, hob⟩ := finish_ok hf hr hg hv h
  obtain ⟨ob1, ht⟩ := hob ob
  exact ⟨ob1, ⟨_, _, w, _, rfl, hr.same hsame, hg, ht, by show CallersR E ν M w0 cs0 hid F'.kind callers cs; rw [hk]; exact hc⟩⟩

theorem map_finish {F : SF} {callers : List SF} {x : SV} {l : List SM} (h : ((finish E F x s).map fun (F, s) => ([{ top := F, callers, mem := s }] : List SM)) = some l) :
    ∃ F' s', finish E F x s = some (F', s') ∧ l = [{ top := F', callers, mem := s' }] := by
  cases hf : finish E F x s with
  | none => rw [hf] at h; cases h
  | some r => obtain ⟨F', s1⟩ := r; rw [hf] at h; cases h; exact ⟨F', s1, rfl, rfl⟩

theorem defer_only {tm : STm} {o : Oper} {c : Call} {L : List (SNext × SH)} (ho : o.op = .defer c) (h : sOp E tm o s = some L) : ∀ p ∈ L, ∃ d, p.1 = .defer d := by
  unfold sOp at h
  rw [ho] at h
  simp only at h
  split at h
  · rename_i f hcal
    cases hd : deferFn (evalOpd E tm f) (mapOpd E tm c.args) with
    | none => rw [hd] at h; cases h
    | some d =>
      rw [hd] at h; cases h
      intro p hp
      rw [List.mem_singleton.1 hp]; exact ⟨d, rfl⟩
  · cases h

theorem no_select {tm : STm} {o : Oper} {L : List (SNext × SH)} (h : sOp E tm o s = some L) : ∀ cs b, o.op ≠ .select cs b := by
  intro cs b e
  unfold sOp at h
  rw [e] at h
  cases h

/-- How the machine goes on from an operation. -/
structure Does (P : Program) (m0 : Machine) (fr : Frame) (cs : List Frame) (g : Sem Next) (w : World) : Prop where
  value : ∀ y w', g.run P w = .ok (.value y) w' → Steps P m0 (lone (fr.finish y) cs w')
  skip : ∀ w', g.run P w = .ok .skip w' → Steps P m0 (lone (fr.finish undef) cs w')
  enter : ∀ f a w', g.run P w = .ok (.enter f a) w' → Steps P m0 (lone (Frame.enter P f a .normal) (fr :: cs) w')
  round : ∀ l f t assign body w', g.run P w = .ok (.round l f t assign body) w' → Steps P m0 (lone (Frame.round l f t assign body .normal) (fr :: cs) w')

theorem joinQ_mem {F : SF} {callers : List SF} : ∀ {l : List SV} {Ls : List SM}, joinQ E F callers s l = some Ls → ∀ x ∈ l, ∃ F' s', finish E F x s = some (F', s') ∧ ({ top := F', callers, mem := s' } : SM) ∈ Ls
  | [], _, _, x, hx => by cases hx
  | y :: ys, Ls, h, x, hx => by
    unfold joinQ at h
    split at h
    · rename_i F' s' r hf hr
      cases h
      rcases List.mem_cons.1 hx with rfl | hx
      · exact ⟨F', s', hf, List.mem_cons_self⟩
      · obtain ⟨F2, s2, h2, hm⟩ := joinQ_mem hr x hx
        exact ⟨F2, s2, h2, List.mem_cons_of_mem _ hm⟩
    · cases h

theorem after_ok (K : Facts E M w0) {F : SF} {fr0 : Frame} {m0 : Machine} {g : Sem Next} {n : SNext} {s1 : SH} {l : List SM} {callers : List SF} {cs cs0 : List Frame} {ob : Prop}
    (D : ob → Does E.P m0 fr0 cs g w) (hf : WaitF E ν M w0 hid F fr0) (hc : CallersR E ν M w0 cs0 hid F.kind callers cs) (hg : GR ν E)
    (hl : after E F callers (n, s1) = some l) (hn : ∀ d, n ≠ .defer d) (hgood : s1.ob → ob ∧ OpGood E g ν M w0 w n s1) :
    ∃ S' ∈ l, (S'.mem.ob → ob ∧ ∃ ν' m', ν.Le ν' ∧ Steps E.P m0 m' ∧ MR E M w0 cs0 ν' S' m') := by
  cases n with
  | val x =>
    obtain ⟨F', s2, hfin, rfl⟩ := map_finish hl
    refine ⟨_, List.mem_singleton.2 rfl, fun ob => ?_⟩
    obtain ⟨ob0, ν', w', y, hle, hrun, hv, hr'⟩ := hgood (finish_mono hf hfin ob)
    obtain ⟨_, hMR⟩ := finish_MR (hf.mono hle) hr' (hg.mono hle) hv hfin (hc.mono hle) ob
    refine ⟨ob0, ν', _, hle, ?_, hMR⟩
    rcases hrun with hrun | ⟨hrun, rfl⟩
    · exact (D ob0).value _ _ hrun
    · exact (D ob0).skip _ hrun
  | enter f args =>
    simp only [after] at hl
    split at hl
    · -- a function without a body
      rename_i k hk
      cases hx : sExt E k args s1 with
      | none => rw [hx] at hl; cases hl
      | some r =>
      obtain ⟨x, s2⟩ := r
      rw [hx] at hl
      obtain ⟨F', s3, hfin, rfl⟩ := map_finish hl
      refine ⟨_, List.mem_singleton.2 rfl, fun ob => ?_⟩
      have ob2 := finish_mono hf hfin ob
      have ob1 : s1.ob := sExt_mono hx ob2
      obtain ⟨ob0, al, ha, hr1, hrun⟩ := hgood ob1
      obtain ⟨_, ν', w', y, hle, hcall, hv, hr'⟩ := K.ext f k hk args x s1 s2 hx ν M w0 w al hr1 ha ob2
      obtain ⟨_, hMR⟩ := finish_MR (hf.mono hle) hr' (hg.mono hle) hv hfin (hc.mono hle) ob
      exact ⟨ob0, ν', _, hle, (D ob0).value _ _ (by rw [hrun]; exact hcall), hMR⟩
    · split at hl
      · -- a function that is told by its contract
        rename_i g hgs
        cases hx : g args s1 with
        | none => rw [hx] at hl; cases hl
        | some r =>
        obtain ⟨x, s2⟩ := r
        rw [hx] at hl
        obtain ⟨F', s3, hfin, rfl⟩ := map_finish hl
        refine ⟨_, List.mem_singleton.2 rfl, fun ob => ?_⟩
        have ob2 := finish_mono hf hfin ob
        obtain ⟨ob1, hc2⟩ := K.sums f g hgs args x s1 s2 hx ob2
        obtain ⟨ob0, al, ha, hr1, hrun⟩ := hgood ob1
        obtain ⟨hcall, hcalls⟩ := hc2 ν w al hr1 hg ha
        obtain ⟨e, w', fr, ⟨y, rfl, hnv⟩, hcomes, _, hleave⟩ := hcalls (fr0 :: cs)
        obtain ⟨ν', hle, hv, hr'⟩ := hnv.hr hr1
        obtain ⟨_, hMR⟩ := finish_MR (hf.mono hle) hr' (hg.mono hle) hv hfin (hc.mono hle) ob
        exact ⟨ob0, ν', _, hle, Steps.trans ((D ob0).enter _ _ _ (by rw [hrun]; exact hcall)) (Steps.trans hcomes (.one (step_leave_returned hleave))), hMR⟩
      · split at hl
        · -- a call of which it is told what may come back
          rename_i g hgs
          obtain ⟨L, hL, hl⟩ := Option.bind_eq_some_iff.1 hl
          obtain ⟨hne, hq⟩ := K.qs f g hgs args L hL
          by_cases ob1 : s1.ob
          · obtain ⟨ob0, al, ha, hr1, hrun⟩ := hgood ob1
            obtain ⟨hcall, hcalls⟩ := hq ν s1 w al hr1 hg ha
            obtain ⟨e, w', fr, ⟨hbel, x, hx, y, rfl, hv⟩, hcomes, _, hleave⟩ := hcalls (fr0 :: cs)
            obtain ⟨F', s2, hfin, hm⟩ := joinQ_mem hl x hx
            refine ⟨_, hm, fun ob => ?_⟩
            obtain ⟨_, hMR⟩ := finish_MR hf (hr1.grow hbel) hg hv hfin hc ob
            exact ⟨ob0, ν, _, Val.Le.refl _, Steps.trans ((D ob0).enter _ _ _ (by rw [hrun]; exact hcall)) (Steps.trans hcomes (.one (step_leave_returned hleave))), hMR⟩
          · obtain ⟨x, L', rfl⟩ := List.exists_cons_of_ne_nil hne
            obtain ⟨F', s2, hfin, hm⟩ := joinQ_mem hl x List.mem_cons_self
            exact ⟨_, hm, fun ob => absurd (finish_mono hf hfin ob) ob1⟩
        cases hG : enterF E f args .normal with
        | none => rw [hG] at hl; cases hl
        | some G =>
        rw [hG] at hl
        cases hl
        refine ⟨_, List.mem_singleton.2 rfl, fun ob => ?_⟩
        obtain ⟨ob0, al, ha, hr1, hrun⟩ := hgood ob
        obtain ⟨htop, hkind, fn, hfn, hbody⟩ := enterF_ok hG ha _
        have hcall : (callFunc f al.toArray).run E.P w = .ok (.enter f al.toArray) w := run_callFunc hfn hbody (K.calls f fn hfn hbody)
        refine ⟨ob0, ν, _, Val.Le.refl _, (D ob0).enter _ _ _ (by rw [hrun]; exact hcall), ⟨_, _, w, _, rfl, hr1, hg, htop, ?_⟩⟩
        show CallersR E ν M w0 cs0 [] G.kind (F :: callers) _
        rw [hkind]; exact .wait hf hc
  | round l args =>
    simp only [after] at hl
    split at hl
    · rename_i st p fn tm params assign body dfi wr hlook
      cases hlen : (args.length == params.length)
      · rw [hlen] at hl; cases hl
      · rw [hlen] at hl
        cases hl
        refine ⟨_, List.mem_singleton.2 rfl, fun ob => ?_⟩
        obtain ⟨ob0, al, bb, hb, ha, hr1, hrun⟩ := hgood ob
        obtain ⟨t, hy, ht⟩ := yield_ok (E := E) hlook (by simpa using hlen) hb ha hr1
        refine ⟨ob0, ν, _, Val.Le.refl _, (D ob0).round _ _ _ _ _ _ (by rw [hrun]; exact hy), ⟨_, _, w, _, rfl, hr1, hg, ?_, CallersR.wait (hl := []) hf hc⟩⟩
        exact ⟨⟨rfl, rfl, rfl, ⟨bb, hb, rfl⟩⟩, fun _ => ⟨rfl, .plain ht (.cons (.code assign) (.cons .beginRound (.cons (.code body) .nil)))⟩, fun hc => by cases hc⟩
    · cases hl
  | defer d => exact absurd rfl (hn d)

section
variable {F : SF} {b : Frame} {a z : Array Value} {df : List Deferred} {ops : Array Oper} {i : Nat} {rest : List Nat} {k' : List Item} {o : Oper} {L : List (SNext × SH)} {Ls : List SM} {callers : List SF} {cs cs0 : List Frame}

theorem atR_finish (ho : ops[i]? = some o) (y : Value) : (b.atR ⟨a, df⟩ (.inRegion ops (i :: rest) :: k')).finish y = b.atR (Act.put ⟨a, df⟩ o.dst y) (.inRegion ops rest :: k') := by
  rw [Frame.finish_atR, ho]; rfl

theorem op_ok (K : Facts E M w0) (hf : WaitF E ν M w0 hid F (b.atR ⟨a, df⟩ (.inRegion ops (i :: rest) :: k'))) (ho : ops[i]? = some o) (hw : s.ob → Region.wanted o (yielded ops a) = true)
    (hz : TmR ν F.tm z) (hev : ∀ x ∈ o.op.operands, ev a x = ev z x) (hop : sOp E F.tm o s = some L) (hj : joinM L (after E F callers) = some Ls)
    (hc : CallersR E ν M w0 cs0 hid F.kind callers cs) (hr : HR ν M w0 s w) (hg : GR ν E) :
    ∃ S' ∈ Ls, S'.mem.ob → s.ob ∧ ∃ ν' m', ν.Le ν' ∧ Steps E.P (lone (b.atR ⟨a, df⟩ (.inRegion ops (i :: rest) :: k')) cs w) m' ∧ MR E M w0 cs0 ν' S' m' := by
  obtain ⟨p, hp, hgood⟩ := sOp_ok hop hr (hz.opd hg)
  obtain ⟨l, hl, hsub⟩ := joinM_mem hj p hp
  have hcong : execOp (ev a) o = execOp (ev z) o := Go.execOp_congr o (no_select hop) hev
  obtain ⟨n, s1⟩ := p
  have hsem : (∀ d, n ≠ .defer d) → o.semAt b.roundOf (Act.eval ⟨a, df⟩) = execOp (ev z) o := by
    intro hn
    rw [Oper.semAt_eq _ _ _ (fun c e => by obtain ⟨d, hd⟩ := defer_only e hop _ hp; exact hn d hd), Act.eval_ev]
    exact hcong
  by_cases hd : ∃ d, n = .defer d
  · obtain ⟨d, rfl⟩ := hd
    simp only [after] at hl
    split at hl
    · rename_i hro
      obtain ⟨F', s2, hfin, rfl⟩ := map_finish hl
      refine ⟨_, hsub _ (List.mem_singleton.2 rfl), fun ob => ?_⟩
      have hfr := hf.base.ro
      rw [hro] at hfr
      have hb : b.roundOf = none := hfr
      have hsem : o.semAt b.roundOf (Act.eval ⟨a, df⟩) = execOp (ev z) o := by rw [hb, Oper.semAt_none, Act.eval_ev]; exact hcong
      have hf' : ∀ dv, DefR ν d dv → WaitF E ν M w0 hid { F with defers := d :: F.defers } (b.atR ⟨a, dv :: df⟩ (.inRegion ops (i :: rest) :: k')) := fun dv hd =>
        ⟨⟨hf.base.fn, ⟨dv, df, rfl, hd, hf.base.defers⟩, hf.base.kind, hf.base.ro⟩, hf.ret, hf.mode, hf.todo⟩
      have ob1 : s1.ob := by
        have hmono : ∀ {fr : Frame}, WaitF E ν M w0 hid { F with defers := d :: F.defers } fr → s2.ob → s1.ob := fun hx => finish_mono hx hfin
        exact finish_mono' hf hfin ob
      obtain ⟨ob0, dv, hd, hr1, hrun⟩ := hgood ob1
      obtain ⟨_, hMR⟩ := finish_MR (hf' dv hd) hr1 hg (VR.v_iff.2 rfl) hfin hc ob
      rw [atR_finish ho] at hMR
      exact ⟨ob0, ν, _, Val.Le.refl _, .one (step_defer ho (hw ob0) (by rw [hsem]; exact hrun)), hMR⟩
    · cases hl
  · have hn : ∀ d, n ≠ .defer d := fun d e => hd ⟨d, e⟩
    have hsem := hsem hn
    have D : s.ob → Does E.P (lone (b.atR ⟨a, df⟩ (.inRegion ops (i :: rest) :: k')) cs w) (b.atR ⟨a, df⟩ (.inRegion ops (i :: rest) :: k')) cs (execOp (ev z) o) w :=
      fun ob0 => ⟨fun y w' hr => by rw [atR_finish ho]; exact .one (step_value ho (hw ob0) (by rw [hsem]; exact hr)), fun w' hr => by rw [atR_finish ho]; exact .one (step_skip' ho (hw ob0) (by rw [hsem]; exact hr)),
        fun f a w' hr => .one (step_enter ho (hw ob0) (by rw [hsem]; exact hr)), fun l f t as bd w' hr => .one (step_round ho (hw ob0) (by rw [hsem]; exact hr))⟩
    obtain ⟨S', hm, h⟩ := after_ok K D hf hc hg hl hn hgood
    exact ⟨S', hsub _ hm, h⟩
end
end
end Go.Rx
