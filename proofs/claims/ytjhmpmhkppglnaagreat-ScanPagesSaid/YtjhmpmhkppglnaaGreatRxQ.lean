/- The symbolic executor 'Rx', part Q: operations over plain values; built-in functions; calls. By an AI agent. -/
import Derived.Test.YtjhmpmhkppglnaaGreatRxP
import Derived.Lib.BytesEntry
set_option linter.unusedVariables false
set_option linter.unusedSimpArgs false
namespace Go.Rx
section
variable {ν : Val} {M : Own} {w0 w : World} {s s' : SH} {E : Env}

/-- What an operation comes to. 'enter f args': to a call of f. -/
def OpGood (E : Env) (g : Sem Next) (ν : Val) (M : Own) (w0 w : World) (n : SNext) (s' : SH) : Prop :=
  match n with
  | .val x => ∃ ν' w' y, ν.Le ν' ∧ (g.run E.P w = .ok (.value y) w' ∨ (g.run E.P w = .ok .skip w' ∧ y = undef)) ∧ VR ν' x y ∧ HR ν' M w0 s' w'
  | .enter f args => ∃ a : List Value, VRL ν args a ∧ HR ν M w0 s' w ∧ g.run E.P w = (callFunc f a.toArray).run E.P w
  | .round i args => ∃ (a : List Value) (b : Nat × Nat), ν i = some b ∧ VRL ν args a ∧ HR ν M w0 s' w ∧ g.run E.P w = (Instr.yield b.1 a.toArray).run E.P w
  | .defer d => ∃ dv, DefR ν d dv ∧ HR ν M w0 s' w ∧ g.run E.P w = .ok (.defer dv) w

theorem OpGood.ofV {g : Sem Value} {x : SV} (h : GoodV E.P g ν M w0 w x s') : OpGood E (do pure (.value (← g))) ν M w0 w (.val x) s' := by
  obtain ⟨ν', w', y, hle, hrun, hx, hr⟩ := h
  exact ⟨ν', w', y, hle, .inl (by simp [hrun]), hx, hr⟩

theorem OpGood.ofU {g : Sem Unit} (h : GoodU E.P g ν M w0 w s') : OpGood E (do g; pure .skip) ν M w0 w (.val (.v undef)) s' := by
  obtain ⟨ν', w', hle, hrun, hr⟩ := h
  exact ⟨ν', w', undef, hle, .inr ⟨by simp [hrun], rfl⟩, VR.v_iff.2 rfl, hr⟩

/-- Values of operands. -/
def OpdR (E : Env) (ν : Val) (tm : STm) (ρ : Operand → Value) : Prop := ∀ x, VR ν (evalOpd E tm x) (ρ x)

theorem plain_of {tm : STm} {ρ : Operand → Value} {l : List Operand} (h : allPlain E tm l = true) (hρ : OpdR E ν tm ρ) : ∀ x ∈ l, ρ x = (plainV (evalOpd E tm x)).getD undef := by
  intro x hx
  have hp := List.all_eq_true.1 h x hx
  have hv := hρ x
  cases hz : plainV (evalOpd E tm x) with
  | none => rw [hz] at hp; cases hp
  | some z => exact plainV_ok hz hv

/-- The kinds of operations that are reckoned as the model does. -/
def pureKind : Op → Bool
  | .binOp .. | .unOp .. | .convert .. | .slice .. | .field .. | .typeAssert .. => true
  | .call { callee := .builtin _, .. } => true
  | _ => false

theorem execOp_congr {o : Oper} (hk : pureKind o.op = true) {ρ ρ' : Operand → Value} (h : ∀ x ∈ o.op.operands.toList, ρ x = ρ' x) : execOp ρ o = execOp ρ' o := by
  obtain ⟨dst, op, type, pos, aft, guard⟩ := o
  cases op <;> try cases hk
  case binOp op t x y yt =>
    have h1 := h x (by simp [Op.operands]); have h2 := h y (by simp [Op.operands])
    simp only [execOp, h1, h2]
  case unOp op t x =>
    have h1 := h x (by simp [Op.operands])
    simp only [execOp, h1]
  case convert a b x =>
    have h1 := h x (by simp [Op.operands])
    simp only [execOp, h1]
  case slice t x lo hi mx =>
    have h1 := h x (by simp [Op.operands])
    have e : ∀ (o : Option Operand), (∀ y ∈ o, ρ y = ρ' y) → o.map ρ = o.map ρ' := by
      intro o ho; cases o with
      | none => rfl
      | some y => simp [ho y rfl]
    have h2 := e lo (fun y hy => h y (by cases hy; simp [Op.operands]))
    have h3 := e hi (fun y hy => h y (by cases hy; simp [Op.operands]))
    have h4 := e mx (fun y hy => h y (by cases hy; simp [Op.operands]))
    simp only [execOp, h1, h2, h3, h4]
  case field t x f =>
    have h1 := h x (by simp [Op.operands])
    simp only [execOp, h1]
  case typeAssert x a b ok =>
    have h1 := h x (by simp [Op.operands])
    simp only [execOp, h1]
  case call c =>
    obtain ⟨callee, args, ats⟩ := c
    cases callee <;> try cases hk
    rename_i b
    have h1 : args.map ρ = args.map ρ' := by
      apply Array.map_congr_left
      intro x hx
      exact h x (by simp [Op.operands, Call.operands]; simpa using hx)
    simp only [execOp, resolve, h1]

theorem sPure_ok {tm : STm} {o : Oper} {x : SV} (hk : pureKind o.op = true) (h : sPure E tm o = some x) {ρ : Operand → Value} (hρ : OpdR E ν tm ρ) (hr : HR ν M w0 s w) :
    OpGood E (execOp ρ o) ν M w0 w (.val x) s := by
  unfold sPure at h
  cases hp : allPlain E tm o.op.operands.toList
  · rw [hp] at h; cases h
  · rw [hp] at h
    simp only [cond_true] at h
    split at h
    · rename_i v hrun
      cases h
      have hc := execOp_congr hk (plain_of hp hρ)
      refine ⟨ν, w, v, Val.Le.refl _, .inl ?_, VR.v_iff.2 rfl, hr⟩
      rw [hc]; exact pureRun_ok hrun w
    · cases h

theorem mapOpd_ok {tm : STm} {ρ : Operand → Value} (hρ : OpdR E ν tm ρ) (l : Array Operand) : VRL ν (mapOpd E tm l) (l.toList.map ρ) := by
  unfold mapOpd
  induction l.toList with
  | nil => exact VRL.nil
  | cons x xs ih => exact VRL.cons (hρ x) ih

/-- A call of a function value. -/
theorem callFn_ok {f : SV} {fv : Value} {args : List SV} {a : List Value} {n : SNext} (h : callFn f args = some n) (hf : VR ν f fv) (ha : VRL ν args a) (hr : HR ν M w0 s w) :
    OpGood E (do let d ← Deferred.ofValue fv a.toArray; invoke d.target d.args) ν M w0 w n s := by
  unfold callFn at h
  split at h
  · rename_i g x y
    cases h
    obtain rfl := VR.v_iff.1 hf
    refine ⟨x.toList ++ a ++ y.toList, ((VRL.toList ν x).append ha).append (VRL.toList ν y), hr, ?_⟩
    simp [Deferred.ofValue, invoke]
    congr 2
    apply Array.ext'; simp
  · rename_i g x y
    cases h
    obtain ⟨x', y', rfl, hx, hy⟩ := VR.func_iff.1 hf
    refine ⟨x' ++ a ++ y', (hx.append ha).append hy, hr, ?_⟩
    simp [Deferred.ofValue, invoke]
  · rename_i i
    cases h
    obtain ⟨b, hb, rfl⟩ := VR.yield_iff.1 hf
    refine ⟨a, b, hb, ha, hr, ?_⟩
    simp [Deferred.ofValue, invoke]
  · cases h

theorem VR.lift : ∀ (x : Value), VR ν (Go.Rx.lift x) x := by
  intro x
  cases x <;> first | exact VR.v_iff.2 rfl | exact VR.iface_iff.2 ⟨_, rfl, VR.v_iff.2 rfl⟩

theorem sInvoke_ok {recv : SV} {rv : Value} {name : String} {args : List SV} {a : List Value} {n : SNext} (h : sInvoke E recv name args = some n) (hf : VR ν recv rv) (ha : VRL ν args a) (hr : HR ν M w0 s w) :
    OpGood E (invoke (.fn (.method name) #[]) (#[rv] ++ a.toArray)) ν M w0 w n s := by
  unfold sInvoke at h
  split at h
  · rename_i t v0
    obtain ⟨v, rfl, hv⟩ := VR.iface_iff.1 hf
    obtain rfl := VR.v_iff.1 hv
    cases hp : pureRun E.P (method (E.P.types.size + Made.depth) t v name) with
    | none => rw [hp] at h; cases h
    | some r =>
    obtain ⟨f, rv⟩ := r
    rw [hp] at h; cases h
    refine ⟨rv :: a, VRL.cons (VR.lift rv) ha, hr, ?_⟩
    have e0 : (#[Value.iface t v] ++ a.toArray)[0]? = some (.iface t v) := by simp
    have e1 : (#[Value.iface t v] ++ a.toArray).extract 1 (#[Value.iface t v] ++ a.toArray).size = a.toArray := by
      apply Array.ext'; simp
    have e2 : #[rv] ++ a.toArray = (rv :: a).toArray := by apply Array.ext'; simp
    simp only [invoke, e0, e1, callMethod, Sem.run_bind, run_program, Result.andThen_ok, pureRun_ok hp w, e2]
  · rename_i t x _
    obtain ⟨v, rfl, hv⟩ := VR.iface_iff.1 hf
    cases hi : tinfo E t with
    | none => rw [hi] at h; cases h
    | some info =>
    rw [hi] at h
    simp only [Option.bind_eq_bind, Option.bind_some] at h
    cases hm : info.methods.find? (·.name == name) with
    | none => rw [hm] at h; cases h
    | some m =>
    rw [hm] at h
    simp only [Option.bind_some] at h
    have hgo : ∀ (f : FuncId) (pr : Bool) (d : TypeDesc), m.path.isEmpty = true → m.func = some (f, pr) → tdesc E t = some d → (match d, pr with | .pointer _, true => true | .pointer _, false => false | _, false => true | _, true => false) = true →
        (invoke (.fn (.method name) #[]) (#[.iface t v] ++ a.toArray)).run E.P w = (callFunc f (v :: a).toArray).run E.P w := by
      intro f pr d hpath hfunc hd hok
      have hp : m.path = #[] := by simpa using hpath
      have e0 : (#[Value.iface t v] ++ a.toArray)[0]? = some (.iface t v) := by simp
      have e1 : (#[Value.iface t v] ++ a.toArray).extract 1 (#[Value.iface t v] ++ a.toArray).size = a.toArray := by
        apply Array.ext'; simp
      have e2 : #[v] ++ a.toArray = (v :: a).toArray := by apply Array.ext'; simp
      simp only [invoke, e0, e1, callMethod, Sem.run_bind, run_program, Result.andThen_ok]
      rw [show E.P.types.size + Made.depth = (E.P.types.size + (Made.depth - 1)) + 1 from by simp [Made.depth]]
      simp only [method, Sem.run_bind, run_typeInfo hi, Result.andThen_ok, hm, hp, follow, Sem.run_pure, hfunc, receiverAt, run_underlying hd]
      cases d <;> cases pr <;> first | (cases hok; done) | (simp [Place.get, e2]; done)
    split at h
    · rename_i f e hpath hfunc hd
      cases h
      exact ⟨v :: a, VRL.cons hv ha, hr, hgo f true _ hpath hfunc hd rfl⟩
    · cases h
    · rename_i f d hnp hpath hfunc hd
      cases h
      refine ⟨v :: a, VRL.cons hv ha, hr, hgo f false d hpath hfunc hd ?_⟩
      cases d <;> first | rfl | exact (hnp _ rfl).elim
    · cases h
  · cases h

end
end Go.Rx
