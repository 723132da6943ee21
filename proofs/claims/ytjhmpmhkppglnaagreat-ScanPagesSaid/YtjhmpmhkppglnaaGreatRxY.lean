/- The symbolic executor 'Rx', part Y: what a machine stands for; a value comes back; an operation. By an AI agent. -/
import Derived.Test.YtjhmpmhkppglnaaGreatRxX
set_option linter.unusedVariables false
set_option linter.unusedSimpArgs false
namespace Go.Rx
section
variable {E : Env} {ν : Val} {M : Own} {w0 w : World} {s s' : SH}

def RoR (ν : Val) : Option Nat → Option Nat → Prop
  | none, r => r = none
  | some i, r => ∃ b, ν i = some b ∧ r = some b.1
theorem RoR.mono {ν' : Val} (h : ν.Le ν') : ∀ {x r : Option Nat}, RoR ν x r → RoR ν' x r
  | none, _, e => e
  | some _, _, ⟨b, hb, e⟩ => ⟨b, h _ _ hb, e⟩

/-- A frame that runs: its temporaries and what is to be done; hl: the hidden blocks of its region. -/
inductive RunR (E : Env) (ν : Val) (M : Own) (w0 : World) (s : SH) : List Nat → STm → List SI → Array Value → List Item → Prop
  | plain {tm : STm} {xs : List SI} {a : Array Value} {ys : List Item} (ht : TmR ν tm a) (hk : KsR ν xs ys) : RunR E ν M w0 s [] tm xs a ys
  | drw {ops : Array Oper} {rem pend L : List Nat} {lag : List (Nat × Nat)} {tm : STm} {a z : Array Value} {k : List SI} {k' : List Item} (hok : edgesOk ops = true) (hn : rem.Nodup) (d : Drw E ν M w0 ops rem pend lag L tm a z)
      (st : StabS E ν s ops pend z) (hk : KsR ν k k') : RunR E ν M w0 s (lag.map (·.2)) tm (.drw ops rem pend :: k) a (.inRegion ops L :: k')

/-- A frame that waits for a value. -/
inductive WaitR (E : Env) (ν : Val) (M : Own) (w0 : World) : List Nat → STm → List SI → Array Value → List Item → Prop
  | plain {tm : STm} {xs : List SI} {a : Array Value} {ys : List Item} (ht : TmR ν tm a) (hk : KsR ν xs ys) : WaitR E ν M w0 [] tm xs a ys
  | drw {ops : Array Oper} {e : Nat} {rem pend L : List Nat} {lag : List (Nat × Nat)} {tm : STm} {a z : Array Value} {k : List SI} {k' : List Item} (hok : edgesOk ops = true) (hn : (e :: rem).Nodup) (d : Drw E ν M w0 ops (e :: rem) pend lag (e :: L) tm a z)
      (hnl : NoLag ops lag e) (hk : KsR ν k k') : WaitR E ν M w0 (lag.map (·.2)) tm (.drw ops (e :: rem) pend :: k) a (.inRegion ops (e :: L) :: k')

theorem WaitR.mono {ν' : Val} (h : ν.Le ν') {hl : List Nat} {tm : STm} {xs : List SI} {a : Array Value} {ys : List Item} : WaitR E ν M w0 hl tm xs a ys → WaitR E ν' M w0 hl tm xs a ys
  | .plain ht hk => .plain (ht.mono h) (hk.mono h)
  | .drw hok hn d hnl hk => .drw hok hn (d.mono h) hnl (hk.mono h)

theorem WaitR.rebase {M' : Own} {w0' : World} {hl : List Nat} (k : ∀ b ∈ hl, ∀ r, Hidden M w0 b r → Hidden M' w0' b r) {tm : STm} {xs : List SI} {a : Array Value} {ys : List Item} : WaitR E ν M w0 hl tm xs a ys → WaitR E ν M' w0' hl tm xs a ys
  | .plain ht hk => .plain ht hk
  | .drw hok hn d hnl hk => .drw hok hn (d.rebase fun q hq r h => k _ (List.mem_map.2 ⟨q, hq, rfl⟩) r h) hnl hk

theorem WaitR.hidden {hl : List Nat} {tm : STm} {xs : List SI} {a : Array Value} {ys : List Item} (h : WaitR E ν M w0 hl tm xs a ys) : ∀ b ∈ hl, ∃ r, Hidden M w0 b r := by
  cases h with
  | plain ht hk => intro b hb; cases hb
  | drw hok hn d hnl hk =>
    intro b hb
    obtain ⟨q, hq, rfl⟩ := List.mem_map.1 hb
    obtain ⟨_, _, _, r, _, _, _, _, _, h, _⟩ := d.lagged q hq
    exact ⟨r, h⟩

structure FrB (ν : Val) (F : SF) (fr : Frame) : Prop where
  fn : fr.fn = F.fn
  defers : DefsR ν F.defers fr.defers
  kind : fr.kind = F.kind
  ro : RoR ν F.ro fr.roundOf
theorem FrB.mono {ν' : Val} (h : ν.Le ν') {F : SF} {fr : Frame} (b : FrB ν F fr) : FrB ν' F fr := ⟨b.fn, b.defers.mono h, b.kind, b.ro.mono h⟩

structure TopR (E : Env) (ν : Val) (M : Own) (w0 : World) (hl : List Nat) (s : SH) (F : SF) (fr : Frame) : Prop where
  base : FrB ν F fr
  run : F.ret = false → fr.mode = .run ∧ RunR E ν M w0 s hl F.tm F.todo fr.tmps fr.todo
  ret : F.ret = true → fr.mode = .returning ∧ TmR ν F.tm fr.tmps

structure WaitF (E : Env) (ν : Val) (M : Own) (w0 : World) (hl : List Nat) (F : SF) (fr : Frame) : Prop where
  base : FrB ν F fr
  ret : F.ret = false
  mode : fr.mode = .run
  todo : WaitR E ν M w0 hl F.tm F.todo fr.tmps fr.todo
theorem WaitF.mono {ν' : Val} (h : ν.Le ν') {hl : List Nat} {F : SF} {fr : Frame} (b : WaitF E ν M w0 hl F fr) : WaitF E ν' M w0 hl F fr := ⟨b.base.mono h, b.ret, b.mode, b.todo.mono h⟩

structure RetF (ν : Val) (F : SF) (fr : Frame) : Prop where
  base : FrB ν F fr
  ret : F.ret = true
  mode : fr.mode = .returning
  tm : TmR ν F.tm fr.tmps
theorem RetF.mono {ν' : Val} (h : ν.Le ν') {F : SF} {fr : Frame} (b : RetF ν F fr) : RetF ν' F fr := ⟨b.base.mono h, b.ret, b.mode, b.tm.mono h⟩

/-- The frames that wait. hl: the hidden blocks of the frames above. -/
inductive CallersR (E : Env) (ν : Val) (M : Own) (w0 : World) (cs0 : List Frame) : List Nat → CallKind → List SF → List Frame → Prop
  | nil {hl : List Nat} (hnd : hl.Nodup) : CallersR E ν M w0 cs0 hl .normal [] cs0
  | wait {hl hl1 : List Nat} {F : SF} {fr : Frame} {Fs : List SF} {frs : List Frame} (h : WaitF E ν M w0 hl1 F fr) (t : CallersR E ν M w0 cs0 (hl ++ hl1) F.kind Fs frs) : CallersR E ν M w0 cs0 hl .normal (F :: Fs) (fr :: frs)
  | ret {hl : List Nat} {F : SF} {fr : Frame} {Fs : List SF} {frs : List Frame} (h : RetF ν F fr) (t : CallersR E ν M w0 cs0 hl F.kind Fs frs) : CallersR E ν M w0 cs0 hl .deferred (F :: Fs) (fr :: frs)

theorem CallersR.mono {ν' : Val} (h : ν.Le ν') {cs0 : List Frame} {hl : List Nat} {k : CallKind} {Fs : List SF} {frs : List Frame} (c : CallersR E ν M w0 cs0 hl k Fs frs) : CallersR E ν' M w0 cs0 hl k Fs frs := by
  induction c with
  | nil hnd => exact .nil hnd
  | wait hf _ ih => exact .wait (hf.mono h) ih
  | ret hf _ ih => exact .ret (hf.mono h) ih

theorem CallersR.nodup {cs0 : List Frame} {hl : List Nat} {k : CallKind} {Fs : List SF} {frs : List Frame} (c : CallersR E ν M w0 cs0 hl k Fs frs) : hl.Nodup := by
  induction c with
  | nil hnd => exact hnd
  | wait _ _ ih => exact (List.nodup_append.1 ih).1
  | ret _ _ ih => exact ih

theorem CallersR.rebase {M' : Own} {w0' : World} {cs0 : List Frame} {hl : List Nat} {k : CallKind} {Fs : List SF} {frs : List Frame} (c : CallersR E ν M w0 cs0 hl k Fs frs) :
    ∀ {hl' : List Nat}, (∀ b, b ∉ hl → ∀ r, Hidden M w0 b r → Hidden M' w0' b r) → (∀ x : List Nat, (∀ b ∈ x, ∃ r, Hidden M w0 b r) → (hl ++ x).Nodup → (hl' ++ x).Nodup) → CallersR E ν M' w0' cs0 hl' k Fs frs := by
  induction c with
  | nil hnd => intro hl' _ hx; exact .nil (by have := hx [] (fun b hb => by cases hb) (by simpa using hnd); simpa using this)
  | wait hf t ih =>
    intro hl' hk hx
    have hnd := t.nodup
    refine .wait (hl1 := _) ⟨hf.base, hf.ret, hf.mode, hf.todo.rebase fun b hb r h => hk b (fun hm => (List.nodup_append.1 hnd).2.2 b hm b hb rfl) r h⟩ (ih (fun b hb => hk b fun hm => hb (List.mem_append_left _ hm)) fun x hxh hxn => ?_)
    rw [List.append_assoc] at hxn ⊢
    refine hx _ (fun b hb => ?_) hxn
    rcases List.mem_append.1 hb with hb | hb
    · exact hf.todo.hidden b hb
    · exact hxh b hb
  | ret hf _ ih => intro hl' hk hx; exact .ret hf (ih hk hx)

theorem CallersR.clear {cs0 : List Frame} {hl : List Nat} {k : CallKind} {Fs : List SF} {frs : List Frame} (c : CallersR E ν M w0 cs0 hl k Fs frs) : CallersR E ν M w0 cs0 [] k Fs frs :=
  c.rebase (fun _ _ _ h => h) fun _ _ h => by simpa using (List.nodup_append.1 h).2.1

/-- What a symbolic machine stands for. -/
structure MR (E : Env) (M : Own) (w0 : World) (cs0 : List Frame) (ν : Val) (S : SM) (m : Machine) : Prop where
  ex : ∃ fr cs w hl, m = lone fr cs w ∧ HR ν M w0 S.mem w ∧ GR ν E ∧ TopR E ν M w0 hl S.mem S.top fr ∧ CallersR E ν M w0 cs0 hl S.top.kind S.callers cs

def ExtOK (E : Env) : Prop := ∀ f k, E.ext f = some k → ∀ args x s s', sExt E k args s = some (x, s') → ∀ ν M w0 w a, HR ν M w0 s w → VRL ν args a → s'.ob → s.ob ∧
  ∃ ν' w' y, ν.Le ν' ∧ (callFunc f a.toArray).run E.P w = .ok (.value y) w' ∧ VR ν' x y ∧ HR ν' M w0 s' w'

/-- What comes back of a call that turns nothing that was there: a value of what there is, or one that may name a new object. -/
inductive NewVal (ν : Val) (s : SH) (w : World) (s' : SH) (w' : World) (x : SV) (y : Value) : Prop where
  | same (hs : s.Same s') (hv : VR ν x y)
  | made (s0 : SH) (so : SO) (b c : Nat) (o : Obj) (hs : s.Same s0) (hroom : s0.room = true) (he : s' = s0.new so) (hb : w.heap.size ≤ b) (ho : w'.heap[b]? = some o) (hor : OR (ν.put s0.nx (b, c)) s0.nx so o) (hv : VR (ν.put s0.nx (b, c)) x y)

/-- Contracts of functions that turn nothing that was there. -/
def SumsOK (E : Env) (M : Own) (w0 : World) : Prop := ∀ f g, E.sums f = some g → ∀ args x s s', g args s = some (x, s') → s'.ob → s.ob ∧ ∀ ν w a, HR ν M w0 s w → GR ν E → VRL ν args a →
  (callFunc f a.toArray).run E.P w = .ok (.enter f a.toArray) w ∧ Calls E.P f a.toArray w fun e w' => Go.RowKit.Below w.heap.size w w' ∧ ∃ y, e = .returned y ∧ NewVal ν s w s' w' x y

/-- The calls of which it is told what may come back: they turn nothing that was there. -/
def QOK (E : Env) (M : Own) (w0 : World) : Prop := ∀ f g, E.qs f = some g → ∀ args l, g args = some l → l ≠ [] ∧ ∀ ν s w a, HR ν M w0 s w → GR ν E → VRL ν args a →
  (callFunc f a.toArray).run E.P w = .ok (.enter f a.toArray) w ∧ Calls E.P f a.toArray w fun e w' => Go.RowKit.Below w.heap.size w w' ∧ ∃ x ∈ l, ∃ y, e = .returned y ∧ VR ν x y

structure Facts (E : Env) (M : Own) (w0 : World) : Prop where
  mixed : E.P.follows .mixedOrders = true
  calls : ∀ (f : Nat) (fn : Func), E.P.funcs[f]? = some fn → fn.body ≠ none → fn.name ≠ "runtime.NumGoroutine"
  ext : ExtOK E
  sums : SumsOK E M w0
  qs : QOK E M w0

theorem Facts.rebase {M1 : Own} {w1 : World} (K : Facts E M w0) (B : Base M w0 M1 w1) : Facts E M1 w1 :=
  ⟨K.mixed, K.calls, K.ext, fun f g hg args x s s' hx ob => ⟨(K.sums f g hg args x s s' hx ob).1, fun ν w a hr => (K.sums f g hg args x s s' hx ob).2 ν w a (hr.unbase B)⟩, fun f g hg args l hl => ⟨(K.qs f g hg args l hl).1, fun ν s w a hr => (K.qs f g hg args l hl).2 ν s w a (hr.unbase B)⟩⟩

/-- What was told holds behind a call that turns nothing. -/
theorem HR.grow {w' : World} (h : HR ν M w0 s w) (b : Go.RowKit.Below w.heap.size w w') : HR ν M w0 s w' := by
  refine ⟨h.full, h.dom, h.fresh, fun i hi x hx => ?_, h.inj, Nat.le_trans h.size b.size, fun k hk hM => ?_, h.ro, b.os.trans h.os, b.tape.trans h.tape, b.output.trans h.output⟩
  · obtain ⟨c, o, h1, h2, h3, h4⟩ := h.obj i hi x hx
    exact ⟨c, o, h1, by rw [b.block _ (Array.getElem?_eq_some_iff.1 h2).1]; exact h2, h3, h4⟩
  · rw [b.block k (Nat.lt_of_lt_of_le hk h.size)]; exact h.frame k hk hM

/-- A block that lies behind all that is told becomes an object. -/
theorem HR.adoptNew {w' : World} (h : HR ν M w0 s w') (hr : s.room = true) {so : SO} {o : Obj} {b c : Nat} (hge : w0.heap.size ≤ b) (ho : w'.heap[b]? = some o) (hnew : ∀ i d, i < 2 ^ s.d → s.H.get i ≠ none → ν i = some d → d.1 ≠ b)
    (hor : OR (ν.put s.nx (b, c)) s.nx so o) : ν.Le (ν.put s.nx (b, c)) ∧ HR (ν.put s.nx (b, c)) M w0 (s.new so) w' := by
  have hnx : ν s.nx = none := h.fresh _ (Nat.le_refl _)
  have hlt : s.nx < 2 ^ s.d := blt_iff.1 hr
  have hle := Val.put_le hnx (b, c)
  have hput : ∀ j, j ≠ s.nx → (ν.put s.nx (b, c)) j = ν j := fun j e => by simp [Val.put, e]
  have g : ∀ u, u < 2 ^ s.d → u ≠ s.nx → (s.new so).H.get u ≠ none → s.H.get u ≠ none := by
    intro u hu ne hn
    have hn : (s.H.set s.nx (some (so, true))).get u ≠ none := hn
    rwa [Tr.get_set h.full hlt hu, if_neg ne] at hn
  refine ⟨hle, h.full.set _ _, ?_, ?_, ?_, ?_, h.size, h.frame, ?_, h.os, h.tape, h.output⟩
  · intro i hi
    have hi : 2 ^ s.d ≤ i := hi
    rw [hput i (by omega)]; exact h.dom i hi
  · intro i hi
    have hi : s.nx + 1 ≤ i := hi
    rw [hput i (by omega)]; exact h.fresh i (by omega)
  · intro j hj y hy
    have hj : j < 2 ^ s.d := hj
    have hy : (s.H.set s.nx (some (so, true))).get j = some y := hy
    rw [Tr.get_set h.full hlt hj] at hy
    by_cases e : j = s.nx
    · subst e
      rw [if_pos rfl] at hy
      cases hy
      exact ⟨(b, c), o, Val.put_self _ _ _, ho, hor, fun _ => .inl hge⟩
    · rw [if_neg e] at hy
      obtain ⟨d, o', hd, ho', hr', hown⟩ := h.obj j hj y hy
      exact ⟨d, o', by rw [hput j e]; exact hd, ho', hr'.mono hle, hown⟩
  · intro i j hi hj hgi hgj d d' hd hd' e
    have hi : i < 2 ^ s.d := hi
    have hj : j < 2 ^ s.d := hj
    by_cases ei : i = s.nx <;> by_cases ej : j = s.nx
    · rw [ei, ej]
    · subst ei
      rw [Val.put_self] at hd; cases hd
      rw [hput j ej] at hd'
      exact absurd e.symm (hnew j d' hj (g j hj ej hgj) hd')
    · subst ej
      rw [Val.put_self] at hd'; cases hd'
      rw [hput i ei] at hd
      exact absurd e (hnew i d hi (g i hi ei hgi) hd)
    · rw [hput i ei] at hd
      rw [hput j ej] at hd'
      exact h.inj i j hi hj (g i hi ei hgi) (g j hj ej hgj) d d' hd hd' e
  · intro j hj y hy hf d hd
    have hj : j < 2 ^ s.d := hj
    have hy : (s.H.set s.nx (some (so, true))).get j = some y := hy
    rw [Tr.get_set h.full hlt hj] at hy
    by_cases e : j = s.nx
    · rw [if_pos e] at hy; cases hy; cases hf
    · rw [if_neg e] at hy
      rw [hput j e] at hd
      exact h.ro j hj y hy hf d hd

theorem NewVal.hr {s' : SH} {w' : World} {x : SV} {y : Value} (n : NewVal ν s w s' w' x y) (h : HR ν M w0 s w) (hb : Go.RowKit.Below w.heap.size w w') : ∃ ν', ν.Le ν' ∧ VR ν' x y ∧ HR ν' M w0 s' w' := by
  cases n with
  | same hs hv => exact ⟨ν, Val.Le.refl _, hv, (h.grow hb).same hs⟩
  | made s0 so b c o hs hroom he hbb ho hor hv =>
    subst he
    have h0 := h.same hs
    obtain ⟨h1, h2⟩ := (h0.grow hb).adoptNew hroom (Nat.le_trans h.size hbb) ho (fun i d hi hn hd e => by
      cases hx : s0.H.get i with
      | none => exact hn hx
      | some z =>
        obtain ⟨d', o', hd', ho', _⟩ := h0.obj i hi z hx
        rw [hd] at hd'; cases hd'
        have := (Array.getElem?_eq_some_iff.1 ho').1
        omega) hor
    exact ⟨_, h1, hv, h2⟩

/-! ### a value comes back -/

theorem finish_ok {F F' : SF} {fr : Frame} {x : SV} {y : Value} {hl : List Nat} (hf : WaitF E ν M w0 hl F fr) (hr : HR ν M w0 s w) (hg : GR ν E) (hv : VR ν x y) (h : finish E F x s = some (F', s')) :
    s.Same s' ∧ F'.kind = F.kind ∧ (s'.ob → s.ob ∧ TopR E ν M w0 hl s' F' (fr.finish y)) := by
  obtain ⟨fn, tm, todo, defers, ret, kind, ro⟩ := F
  obtain ⟨fn', tmps, todo', defers', mode', kind', ro'⟩ := fr
  obtain ⟨⟨h1, h2, h3, h4⟩, hret, hmode, hw⟩ := hf
  dsimp only at h1 h2 h3 h4 hret hmode hw
  have noret : ∀ {P : Prop}, ret = true → P := fun e => by rw [hret] at e; cases e
  cases hw with
  | plain ht hk =>
    cases hk with
    | nil => simp [finish] at h
    | cons hx hk =>
      cases hx with
      | reg ops is =>
        cases is with
        | nil => simp [finish] at h
        | cons i rest =>
          simp only [finish] at h
          split at h
          · rename_i o ho
            cases h
            refine ⟨.refl _, rfl, fun ob => ⟨ob, ⟨h1, h2, h3, h4⟩, fun _ => ⟨hmode, .plain ?_ (.cons (.reg ops rest) hk)⟩, noret⟩⟩
            have := ht.putDst o hv
            simp only [Frame.finish, ho, Option.bind_some]
            exact this
          · cases h
      | inRF e =>
        simp only [finish, Option.some.injEq, Prod.mk.injEq] at h
        obtain ⟨rfl, rfl⟩ := h
        exact ⟨.refl _, rfl, fun ob => ⟨ob, ⟨h1, h2, h3, h4⟩, fun _ => ⟨hmode, .plain ht (.cons (.endRF e) hk)⟩, noret⟩⟩
      | beginRound =>
        simp only [finish, Option.some.injEq, Prod.mk.injEq] at h
        obtain ⟨rfl, rfl⟩ := h
        exact ⟨.refl _, rfl, fun ob => ⟨ob, ⟨h1, h2, h3, h4⟩, fun _ => ⟨hmode, .plain ht hk⟩, noret⟩⟩
      | _ => simp [finish] at h
  | drw hok hn d hnl hk =>
    rename_i ops e rem pend L lag z k k'
    simp only [finish] at h
    split at h
    · rename_i o ho
      cases hu : unnamed ops pend o
      · rw [hu] at h; cases h
      · rw [hu] at h
        simp only [cond_true] at h
        cases hre : recheck E ops (putDst tm o x) pend s with
        | none => rw [hre] at h; cases h
        | some s1 =>
        rw [hre] at h; cases h
        have d' := d.done ho (.inl hn) hu hv hnl
        obtain ⟨hsame, hob⟩ := recheck_ok hr hg d'.tm hr hre d'.free d'.pure
        refine ⟨hsame, rfl, fun ob => ⟨(hob ob).1, ⟨h1, h2, h3, h4⟩, fun _ => ⟨hmode, ?_⟩, noret⟩⟩
        have := RunR.drw hok (List.nodup_cons.1 hn).2 d' (fun M' w0' w' hr' => ((recheck_ok (hr'.same hsame.symm) hg d'.tm (hr'.same hsame.symm) hre d'.free d'.pure).2 ob).2) hk
        simp only [Frame.finish, ho, Option.bind_some]
        exact this
    · cases h

/-! ### frames are made -/

theorem mkGo_ok (d : Nat) : ∀ (args : List SV) (i : Nat) (T : Tr SV), Tr.Full d T → i + args.length ≤ 2 ^ d →
    Tr.Full d (mkTm.go T i args) ∧ ∀ t, t < 2 ^ d → (mkTm.go T i args).get t = if i ≤ t then (args[t - i]?).getD (T.get t) else T.get t
  | [], i, T, h, _ => ⟨h, fun t _ => by simp [mkTm.go]⟩
  | x :: xs, i, T, h, hl => by
    simp only [List.length_cons] at hl
    obtain ⟨h1, h2⟩ := mkGo_ok d xs (i + 1) (T.set i x) (h.set _ _) (by omega)
    refine ⟨h1, fun t ht => ?_⟩
    rw [mkTm.go, h2 t ht, Tr.get_set h (by omega) ht]
    by_cases e1 : i + 1 ≤ t
    · rw [if_pos e1, if_neg (show ¬ t = i by omega), if_pos (show i ≤ t by omega)]
      have : t - i = (t - (i + 1)) + 1 := by omega
      rw [this, List.getElem?_cons_succ]
    · rw [if_neg e1]
      by_cases e2 : t = i
      · subst e2; simp
      · rw [if_neg e2, if_neg (show ¬ i ≤ t by omega)]

theorem mkTm_ok {n : Nat} {args : List SV} {a : List Value} {tm : STm} (h : mkTm n args = some tm) (ha : VRL ν args a) : TmR ν tm (a.toArray ++ Array.replicate (n - a.toArray.size) undef) := by
  unfold mkTm at h
  cases hc : (Nat.ble args.length n && Nat.ble n (2 ^ depthOf n))
  · rw [hc] at h; cases h
  · rw [hc] at h
    cases h
    rw [Bool.and_eq_true, Nat.ble_eq, Nat.ble_eq] at hc
    obtain ⟨hl, hn⟩ := hc
    have hal := ha.length
    obtain ⟨hf, hg⟩ := mkGo_ok (depthOf n) args 0 (Tr.mk (.v undef) (depthOf n)) (Tr.full_mk _ _) (by omega)
    refine ⟨by simp; omega, hf, hn, fun t ht => ?_⟩
    have ht' : t < n := ht
    rw [hg t (by omega), if_pos (Nat.zero_le _), Tr.get_mk]
    simp only [Nat.sub_zero]
    rw [Array.getD_eq_getD_getElem?, Array.getElem?_append]
    by_cases e : t < args.length
    · rw [if_pos (by simp; omega)]
      have hx : args[t]? = some args[t] := List.getElem?_eq_getElem e
      obtain ⟨y, hy, hv⟩ := ha.get hx
      rw [hx]
      have : a.toArray[t]? = some y := by simpa using hy
      rw [this]; exact hv
    · rw [if_neg (by simp; omega), List.getElem?_eq_none (by omega)]
      simp only [Option.getD_none, List.size_toArray]
      rw [Array.getElem?_replicate, if_pos (by omega)]
      exact VR.v_iff.2 rfl

theorem enterF_ok {f : FuncId} {args : List SV} {a : List Value} {kind : CallKind} {G : SF} (h : enterF E f args kind = some G) (ha : VRL ν args a) (s : SH) :
    TopR E ν M w0 [] s G (Frame.enter E.P f a.toArray kind) ∧ G.kind = kind ∧ ∃ fn, E.P.funcs[f]? = some fn ∧ fn.body ≠ none := by
  unfold enterF at h
  split at h
  · rename_i fn hfn
    split at h
    · rename_i c hc
      cases hm : mkTm fn.ntmps args with
      | none => rw [hm] at h; cases h
      | some tm =>
      rw [hm] at h; cases h
      have ht := mkTm_ok hm ha
      refine ⟨⟨⟨rfl, rfl, rfl, rfl⟩, fun _ => ⟨rfl, .plain ?_ ?_⟩, fun hc => by cases hc⟩, rfl, fn, hfn, by rw [hc]; exact fun h => by cases h⟩
      · simp only [Frame.enter, hfn, Option.map_some, Option.getD_some]; exact ht
      · simp only [Frame.enter, hfn, Option.bind_some, hc, Option.getD_some]; exact .cons (.code c) .nil
    · cases h
  · cases h

theorem foldl_set_ok : ∀ {ps : List Tmp} {args : List SV} {a : List Value} {tm : STm} {t : Array Value}, TmR ν tm t → VRL ν args a →
    TmR ν ((ps.zip args).foldl (fun tm (t, a) => tm.set t a) tm) ((ps.zip a).foldl (fun tmps (t, a) => tmps.setIfInBounds t a) t)
  | [], _, _, _, _, h, _ => by simpa using h
  | _ :: _, [], _, _, _, h, ha => by rw [ha.nil_inv]; simpa using h
  | p :: ps, x :: xs, _, _, _, h, ha => by
    obtain ⟨y, ys, rfl, hy, hys⟩ := ha.cons_inv
    simp only [List.zip_cons_cons, List.foldl_cons]
    exact foldl_set_ok (h.set p hy) hys

theorem run_getLoop {l : Nat} {r : Loop} (h : w.heap[l]? = some (.loop r)) : (Instr.getLoop l).run E.P w = .ok r w := by
  have := run_getObj (P := E.P) h (by intro c e f; exact fun h => by cases h)
  simp [Instr.getLoop, this]

/-- A round begins. -/
theorem yield_ok {i : Nat} {b : Nat × Nat} {args : List SV} {a : List Value} {st : LoopState} {p : Option Code} {fn : FuncId} {tm : STm} {params : List Tmp} {assign body : Code} {df : Nat} {wr : Bool}
    (hl : s.look i = some (.loop st p fn tm params assign body df, wr)) (hlen : args.length = params.length) (hb : ν i = some b) (ha : VRL ν args a) (hr : HR ν M w0 s w) :
    ∃ t, (Instr.yield b.1 a.toArray).run E.P w = .ok (.round b.1 fn t assign body) w ∧ TmR ν ((params.zip args).foldl (fun tm (t, a) => tm.set t a) tm) t := by
  obtain ⟨_, _, b', o, hb', ho, hor, _⟩ := hr.look hl
  rw [hb] at hb'; cases hb'
  obtain ⟨t, b2, hb2, ht, rfl⟩ := hor
  refine ⟨_, ?_, foldl_set_ok ht ha⟩
  have hsz : a.toArray.size = params.toArray.size := by simp [ha.length, hlen]
  simp only [Instr.yield, Sem.run_bind, run_getLoop ho, Result.andThen_ok, hsz, ne_eq, not_true_eq_false, if_false, Sem.run_pure]
  congr 2
  rw [← Array.foldl_toList]
  simp

end
end Go.Rx
