/- The symbolic executor 'Rx', part Z: what an operation leads to. By an AI agent. -/
import Derived.Test.YtjhmpmhkppglnaaGreatRxY
set_option linter.unusedVariables false
set_option linter.unusedSimpArgs false
namespace Go.Rx
section
variable {E : Env} {ν : Val} {M : Own} {w0 w : World} {s s' : SH} {hid : List Nat}

/-! ### what is owed only grows -/

theorem keyIs_mono {kd : TypeDesc} {k k' : SV} {t : Bool} (h : keyIs E kd k k' s = some (t, s')) : s'.ob → s.ob := by
  unfold keyIs at h
  split at h
  · rename_i a x b y
    cases hb : (a == b)
    · rw [hb] at h; cases h
    · rw [hb] at h
      exact fun ob => ((SH.dec_ok (Option.some.inj h)).2 ob).1
  · exact fun ob => ((SH.dec_ok (Option.some.inj h)).2 ob).1
  · exact fun ob => ((SH.dec_ok (Option.some.inj h)).2 ob).1
  · cases h

theorem findS_mono {kd : TypeDesc} {k : SV} : ∀ {es : List (SV × SV × Nat)} {i : Nat} {s s' : SH} {r : Option (Nat × SV × Nat)}, findS E kd k es i s = some (r, s') → s'.ob → s.ob
  | [], _, _, _, _, h, ob => by cases h; exact ob
  | e :: es, i, s, s', r, h, ob => by
    unfold findS at h
    split at h
    · rename_i s1 hk
      cases h
      exact keyIs_mono hk ob
    · rename_i s1 hk
      exact keyIs_mono hk (findS_mono h ob)
    · cases h

theorem sLoadQ_mono {t : TypeId} {a x : SV} {l : List SV} (h : sLoadQ E t a l s = some (x, s')) : s'.ob → s.ob := by
  unfold sLoadQ at h
  split at h
  · split at h
    · rename_i ag _ _ _ _ _ _
      revert h
      cases ag
      · simp only [cond_false]
        split
        · intro h; cases h; exact fun ob => ob.1
        · intro h; cases h
      · intro h; cases h; exact fun ob => ob.1
    · cases h
  · cases h

theorem sLoad0_mono {t : TypeId} {a x : SV} (h : sLoad0 E t a s = some (x, s')) : s'.ob → s.ob := by
  unfold sLoad0 at h
  have map1 : ∀ {o : Option SV}, o.map (·, s) = some (x, s') → s'.ob → s.ob := by
    intro o h
    cases o with
    | none => cases h
    | some y => cases h; exact id
  have map2 : ∀ {b : Bool} {y : SV}, (s.ask E b).map (y, ·) = some (x, s') → s'.ob → s.ob := by
    intro b y h
    cases hq : s.ask E b with
    | none => rw [hq] at h; cases h
    | some s1 => rw [hq] at h; cases h; exact fun ob => ((SH.ask_ok hq).2 ob).1
  split at h
  · split at h
    · exact map1 h
    · exact map1 h
    · exact map2 h
    · cases h
  · split at h
    · rename_i xs _ _ _ _ _
      rename_i off info _ _ _ _ _ _ _ _ _
      revert h
      generalize Nat.ble _ _ = bb
      cases bb
      · intro h; cases h
      · intro h; cases h; exact id
    · exact map2 h
    · cases h
  · cases h

theorem sLoad_mono {t : TypeId} {a x : SV} (h : sLoad E t a s = some (x, s')) : s'.ob → s.ob := by
  unfold sLoad at h
  split at h
  · exact sLoadQ_mono h
  · exact sLoad0_mono h

theorem sLookup_mono {t : TypeId} {m k x : SV} {ok : Bool} (h : sLookup E t m k ok s = some (x, s')) : s'.ob → s.ob := by
  unfold sLookup at h
  split at h
  · obtain ⟨kd, _, h⟩ := Option.bind_eq_some_iff.1 h
    obtain ⟨zi, _, h⟩ := Option.bind_eq_some_iff.1 h
    obtain ⟨z, _, h⟩ := Option.bind_eq_some_iff.1 h
    dsimp only at h
    split at h
    · obtain ⟨es, _, h⟩ := Option.bind_eq_some_iff.1 h
      obtain ⟨⟨r, s1⟩, h1, h⟩ := Option.bind_eq_some_iff.1 h
      have := findS_mono h1
      dsimp only at h
      split at h <;> (cases h; exact this)
    · split at h
      · obtain ⟨es, _, h⟩ := Option.bind_eq_some_iff.1 h
        obtain ⟨⟨r, s1⟩, h1, h⟩ := Option.bind_eq_some_iff.1 h
        have := findS_mono h1
        dsimp only at h
        split at h <;> (cases h; exact this)
      · cases h
    · cases h
  · cases h

theorem sLook_mono {tm : STm} {o : Oper} {x : SV} (hl : looks o.op = true) (hf : floats o.op = true) (hn : ∀ a b c, o.op = .convert a b c → False) (h : sOp E tm o s = some [(.val x, s')]) : s'.ob → s.ob := by
  obtain ⟨dst, op, type, pos, aft, guard⟩ := o
  have vs1 : ∀ {z : Option (SV × SH)}, (z.map fun x => [(SNext.val x.1, x.2)]) = some [(.val x, s')] → z = some (x, s') := by
    intro z h
    cases z with
    | none => cases h
    | some r => obtain ⟨a, b⟩ := r; simpa using h
  have v1 : ∀ {z : Option SV}, (z.map fun x => [(SNext.val x, s)]) = some [(.val x, s')] → s'.ob → s.ob := by
    intro z h
    cases z with
    | none => cases h
    | some r => cases h; exact id
  cases op with
  | load t a => exact sLoad_mono (vs1 h)
  | lookup t m k ok => exact sLookup_mono (vs1 h)
  | call c =>
    obtain ⟨callee, args, ats⟩ := c
    cases callee with
    | value f => cases hf
    | invoke r n => cases hf
    | builtin b =>
      simp only [sOp] at h
      split at h
      · rename_i r hc
        have hc' := vs1 (z := some r) h
        rw [hc'] at hc
        cases b with
        | len =>
          simp only [sBuiltin] at hc
          split at hc
          · rename_i t ts z _ _
            cases hz : sLen1 E t z s with
            | none => rw [hz] at hc; cases hc
            | some y => rw [hz] at hc; cases hc; exact id
          · cases hc
        | cap =>
          simp only [sBuiltin] at hc
          split at hc
          · rename_i t ts z _ _
            cases hz : sCap1 E t z with
            | none => rw [hz] at hc; cases hc
            | some y => rw [hz] at hc; cases hc; exact id
          · cases hc
        | min => simp only [sBuiltin] at hc; cases hc
        | max => simp only [sBuiltin] at hc; cases hc
        | _ => cases hf
      · exact v1 h
  | convert a b c => exact (hn a b c rfl).elim
  | _ => cases hl

theorem wanted_mono {ops : Array Oper} {tm : STm} {o : Oper} {b : Bool} (h : wanted ops tm o E s = some (b, s')) : s'.ob → s.ob := by
  unfold wanted at h
  split at h
  · cases h; exact id
  · split at h
    · rename_i d _
      revert h
      cases Nat.blt d tm.nt
      · intro h; cases h
      · intro h
        simp only [cond_true] at h
        split at h
        · rename_i t _
          cases hdec : s.dec E t with
          | mk t' s1 =>
            rw [hdec] at h; cases h
            exact fun ob => ((SH.dec_ok hdec).2 ob).1
        · cases h; exact id
        · cases h
    · cases h

theorem sOpF_mono {tm : STm} {o : Oper} {x : SV} (hl : looks o.op = true) (hf : floats o.op = true) (h : sOpF E tm o s = some [(.val x, s')]) : s'.ob → s.ob := by
  unfold sOpF at h
  split at h
  · split at h
    · cases h; exact id
    · cases hp : sPure E tm o with
      | none => rw [hp] at h; cases h
      | some x0 => rw [hp] at h; cases h; exact id
  · rename_i e; rw [e] at hl; cases hl
  · exact sLook_mono hl hf (by assumption) h

theorem sFree_mono {ops : Array Oper} {tm : STm} {o : Oper} {x : SV} (hl : looks o.op = true) (hf : floats o.op = true) (h : sFree E ops tm o s = some (x, s')) : s'.ob → s.ob := by
  unfold sFree at h
  obtain ⟨u, _, h⟩ := Option.bind_eq_some_iff.1 h
  obtain ⟨⟨b, s1⟩, hw, h⟩ := Option.bind_eq_some_iff.1 h
  have hm := wanted_mono hw
  cases b
  · cases h; exact hm
  · simp only [cond_true] at h
    split at h
    · rename_i x1 s2 hop
      revert h
      cases x1.solid
      · intro h; cases h
      · intro h; cases h
        exact fun ob => hm (sOpF_mono hl hf hop ob)
    · cases h

theorem recheck_mono {ops : Array Oper} {tm : STm} : ∀ {pend : List Nat} {s s' : SH}, recheck E ops tm pend s = some s' → (∀ p ∈ pend, free ops (Region.before ops) p = true) → s'.ob → s.ob
  | [], _, _, h, _ => by cases h; exact id
  | p :: ps, s, s', h, hf => by
    unfold recheck at h
    split at h
    · cases h
    · rename_i o ho
      obtain ⟨o', ho', hfl, _⟩ := free_ok (hf p List.mem_cons_self)
      rw [ho] at ho'; cases ho'
      cases hl : looks o.op
      · rw [hl] at h
        exact recheck_mono h fun q hq => hf q (List.mem_cons_of_mem _ hq)
      · rw [hl] at h
        simp only [cond_true] at h
        obtain ⟨⟨x, s1⟩, h1, h⟩ := Option.bind_eq_some_iff.1 h
        obtain ⟨d, _, h⟩ := Option.bind_eq_some_iff.1 h
        obtain ⟨s2, h2, h⟩ := Option.bind_eq_some_iff.1 h
        have h3 := recheck_mono h fun q hq => hf q (List.mem_cons_of_mem _ hq)
        exact fun ob => sFree_mono hl hfl h1 ((svEq_ok h2).2 (h3 ob)).1

theorem finish_mono0 {F F' : SF} {a : Array Value} {ys : List Item} {x : SV} (hw : WaitR E ν M w0 hid F.tm F.todo a ys) (h : finish E F x s = some (F', s')) : s'.ob → s.ob := by
  obtain ⟨fn, tm, todo, defers, ret, kind, ro⟩ := F
  dsimp only at hw
  unfold finish at h
  dsimp only at h
  split at h
  · split at h
    · cases h; exact id
    · cases h
  · rename_i ops e rem pend k
    split at h
    · rename_i o ho
      revert h
      cases unnamed ops pend o
      · intro h; cases h
      · intro h
        simp only [cond_true] at h
        cases hre : recheck E ops (putDst tm o x) pend s with
        | none => rw [hre] at h; cases h
        | some s1 =>
        rw [hre] at h; cases h
        cases hw with
        | plain ht hk => cases hk with | cons hx hk => cases hx
        | drw hok hn d hnl hk => exact recheck_mono hre d.free
    · cases h
  · cases h; exact id
  · cases h; exact id
  · cases h

theorem finish_mono {F F' : SF} {fr : Frame} {x : SV} (hf : WaitF E ν M w0 hid F fr) (h : finish E F x s = some (F', s')) : s'.ob → s.ob := finish_mono0 hf.todo h
theorem finish_mono' {F F' : SF} {fr : Frame} {x : SV} {d : List SDef} (hf : WaitF E ν M w0 hid F fr) (h : finish E { F with defers := d } x s = some (F', s')) : s'.ob → s.ob :=
  finish_mono0 (F := { F with defers := d }) hf.todo h

theorem sNew_ob {o : SO} {i : Nat} (h : sNew o s = some (i, s')) : s'.ob = s.ob := by
  unfold sNew at h
  cases hr : s.room
  · rw [hr] at h; cases h
  · rw [hr] at h; cases h; rfl

theorem sStoreQ_ob {t : TypeId} {a x : SV} (h : sStoreQ E t a x s = some s') : s'.ob → s.ob := by
  unfold sStoreQ at h
  split at h
  · revert h
    generalize (_ && _ : Bool) = b
    cases b
    · intro h; cases h
    · intro h
      simp only [cond_true] at h
      split at h
      · cases h; exact fun ob => ob.1
      · cases h
  · cases h

theorem sStore0_ob {t : TypeId} {a x : SV} (h : sStore0 E t a x s = some s') : s'.ob = s.ob := by
  unfold sStore0 at h
  split at h
  · revert h
    generalize (_ && _ : Bool) = b
    cases b
    · intro h; cases h
    · intro h
      simp only [cond_true] at h
      split at h
      · revert h
        generalize (_ && _ : Bool) = b
        cases b
        · intro h; cases h
        · intro h; cases h; rfl
      · cases h
  · cases h

theorem sStore_ob {t : TypeId} {a x : SV} (h : sStore E t a x s = some s') : s'.ob → s.ob := by
  unfold sStore at h
  split at h
  · exact sStoreQ_ob h
  · exact fun ob => by rw [← sStore0_ob h]; exact ob

theorem sExt_mono {k : ExtK} {args : List SV} {x : SV} (h : sExt E k args s = some (x, s')) : s'.ob → s.ob := by
  unfold sExt at h
  split at h
  · cases h; exact id
  · obtain ⟨l, _, h⟩ := Option.bind_eq_some_iff.1 h
    obtain ⟨y, _, h⟩ := Option.map_eq_some_iff.1 h
    cases h; exact id
  · rename_i t n
    split at h
    · rename_i elem _
      cases hd : decide (0 ≤ n ∧ n ≤ 2 ^ 40)
      · rw [hd] at h; cases h
      · rw [hd] at h
        simp only [cond_true] at h
        obtain ⟨⟨i, s1⟩, h1, h⟩ := Option.map_eq_some_iff.1 h
        cases h
        rw [sNew_ob h1]; exact id
    · cases h
  · split at h
    · rename_i es clock _ _
      cases hn : sNew (.map es clock) s with
      | none => rw [hn] at h; cases h
      | some r => obtain ⟨j, s1⟩ := r; rw [hn] at h; cases h; rw [sNew_ob hn]; exact id
    · cases h
  · obtain ⟨y, _, h⟩ := Option.map_eq_some_iff.1 h
    cases h; exact id
  · cases h; exact id
  · unfold sValueOf at h
    obtain ⟨p, hp, h⟩ := Option.bind_eq_some_iff.1 h
    have hob : p.2.ob = s.ob := by
      unfold sBox at hp
      obtain ⟨l, _, hp⟩ := Option.bind_eq_some_iff.1 hp
      obtain ⟨⟨i, s1⟩, h1, hp⟩ := Option.bind_eq_some_iff.1 hp
      cases hp; exact sNew_ob h1
    split at h
    · obtain ⟨y, _, h⟩ := Option.map_eq_some_iff.1 h
      cases h; rw [hob]; exact id
    · cases h
  · obtain ⟨r, _, h⟩ := Option.bind_eq_some_iff.1 h
    obtain ⟨y, _, h⟩ := Option.map_eq_some_iff.1 h
    cases h; exact id
  · obtain ⟨r, _, h⟩ := Option.bind_eq_some_iff.1 h
    unfold sIsNil at h
    revert h
    generalize Nat.beq _ _ = b
    cases b
    · intro h; cases h
    · intro h
      obtain ⟨p, hp, h⟩ := Option.bind_eq_some_iff.1 h
      have := sLoad_mono (x := p.1) (s' := p.2) hp
      split at h
      · cases h; exact this
      · cases h; exact this
      · cases h
  · obtain ⟨r, _, h⟩ := Option.bind_eq_some_iff.1 h
    unfold sRElem at h
    revert h
    generalize Nat.beq _ _ = b
    cases b
    · intro h; cases h
    · intro h
      obtain ⟨e, _, h⟩ := Option.bind_eq_some_iff.1 h
      obtain ⟨e, _, h⟩ := Option.bind_eq_some_iff.1 h
      obtain ⟨p, hp, h⟩ := Option.bind_eq_some_iff.1 h
      have := sLoad_mono (x := p.1) (s' := p.2) hp
      split at h
      · obtain ⟨y, _, h⟩ := Option.map_eq_some_iff.1 h
        cases h; exact this
      · cases h
  · obtain ⟨r, _, h⟩ := Option.bind_eq_some_iff.1 h
    obtain ⟨q, _, h⟩ := Option.bind_eq_some_iff.1 h
    unfold sRSet at h
    revert h
    generalize Nat.beq _ _ = b
    cases b
    · intro h
      obtain ⟨p, hp, h⟩ := Option.bind_eq_some_iff.1 h
      have := sLoad_mono (x := p.1) (s' := p.2) hp
      obtain ⟨b, _, h⟩ := Option.bind_eq_some_iff.1 h
      cases b
      · cases h
      · obtain ⟨s1, h1, h⟩ := Option.map_eq_some_iff.1 h
        cases h
        exact fun ob => this (sStore_ob h1 ob)
    · intro h; cases h
  · cases h

theorem run_callFunc {P : Program} {f : FuncId} {a : Array Value} {fn : Func} (hf : P.funcs[f]? = some fn) (hb : fn.body ≠ none) (hn : fn.name ≠ "runtime.NumGoroutine") :
    (callFunc f a).run P w = .ok (.enter f a) w := by
  have hb' : fn.body.isNone = false := by cases h : fn.body with | none => exact absurd h hb | some _ => rfl
  simp [callFunc, hf, hb', hb, hn]

theorem joinM_mem {f : SNext × SH → Option (List SM)} : ∀ {L : List (SNext × SH)} {Ls : List SM}, joinM L f = some Ls → ∀ p ∈ L, ∃ l, f p = some l ∧ ∀ x ∈ l, x ∈ Ls
  | [], _, _, p, hp => by cases hp
  | x :: xs, Ls, h, p, hp => by
    unfold joinM at h
    split at h
    · rename_i a b ha hb
      cases h
      rcases List.mem_cons.1 hp with rfl | hp
      · exact ⟨a, ha, fun y hy => List.mem_append_left _ hy⟩
      · obtain ⟨l, hl, hm⟩ := joinM_mem hb p hp
        exact ⟨l, hl, fun y hy => List.mem_append_right _ (hm y hy)⟩
    · cases h

theorem finish_MR {F F' : SF} {fr : Frame} {x : SV} {y : Value} {callers : List SF} {cs cs0 : List Frame} (hf : WaitF E ν M w0 hid F fr) (hr : HR ν M w0 s w) (hg : GR ν E) (hv : VR ν x y)
    (h : finish E F x s = some (F', s')) (hc : CallersR E ν M w0 cs0 hid F.kind callers cs) (ob : s'.ob) : s.ob ∧ MR E M w0 cs0 ν { top := F', callers, mem := s' } (lone (fr.finish y) cs w) := by
  obtain ⟨hsame, hk, hob⟩ := finish_ok hf hr hg hv h
  obtain ⟨ob1, ht⟩ := hob ob
  exact ⟨ob1, ⟨_, _, w, _, rfl, hr.same hsame, hg, ht, by show CallersR E ν M w0 cs0 hid F'.kind callers cs; rw [hk]; exact hc⟩⟩

theorem map_finish {F : SF} {callers : List SF} {x : SV} {l : List SM} (h : ((finish E F x s).map fun (F, s) => ([{ top := F, callers, mem := s }] : List SM)) = some l) :
    ∃ F' s', finish E F x s = some (F', s') ∧ l = [{ top := F', callers, mem := s' }] := by
  cases hf : finish E F x s with
  | none => rw [hf] at h; cases h
  | some r => obtain ⟨F', s1⟩ := r; rw [hf] at h; cases h; exact ⟨F', s1, rfl, rfl⟩

theorem defer_only {tm : STm} {o : Oper} {c : Call} {L : List (SNext × SH)} (ho : o.op = .defer c) (h : sOp E tm o s = some L) : ∀ p ∈ L, ∃ d, p.1 = .defer d := by
  unfold sOp at h
  rw [ho] at h
  simp only at h
  split at h
  · rename_i f hcal
    cases hd : deferFn (evalOpd E tm f) (mapOpd E tm c.args) with
    | none => rw [hd] at h; cases h
    | some d =>
      rw [hd] at h; cases h
      intro p hp
      rw [List.mem_singleton.1 hp]; exact ⟨d, rfl⟩
  · cases h

theorem no_select {tm : STm} {o : Oper} {L : List (SNext × SH)} (h : sOp E tm o s = some L) : ∀ cs b, o.op ≠ .select cs b := by
  intro cs b e
  unfold sOp at h
  rw [e] at h
  cases h

/-- How the machine goes on from an operation. -/
structure Does (P : Program) (m0 : Machine) (fr : Frame) (cs : List Frame) (g : Sem Next) (w : World) : Prop where
  value : ∀ y w', g.run P w = .ok (.value y) w' → Steps P m0 (lone (fr.finish y) cs w')
  skip : ∀ w', g.run P w = .ok .skip w' → Steps P m0 (lone (fr.finish undef) cs w')
  enter : ∀ f a w', g.run P w = .ok (.enter f a) w' → Steps P m0 (lone (Frame.enter P f a .normal) (fr :: cs) w')
  round : ∀ l f t assign body w', g.run P w = .ok (.round l f t assign body) w' → Steps P m0 (lone (Frame.round l f t assign body .normal) (fr :: cs) w')

theorem joinQ_mem {F : SF} {callers : List SF} : ∀ {l : List SV} {Ls : List SM}, joinQ E F callers s l = some Ls → ∀ x ∈ l, ∃ F' s', finish E F x s = some (F', s') ∧ ({ top := F', callers, mem := s' } : SM) ∈ Ls
  | [], _, _, x, hx => by cases hx
  | y :: ys, Ls, h, x, hx => by
    unfold joinQ at h
    split at h
    · rename_i F' s' r hf hr
      cases h
      rcases List.mem_cons.1 hx with rfl | hx
      · exact ⟨F', s', hf, List.mem_cons_self⟩
      · obtain ⟨F2, s2, h2, hm⟩ := joinQ_mem hr x hx
        exact ⟨F2, s2, h2, List.mem_cons_of_mem _ hm⟩
    · cases h

theorem after_ok (K : Facts E M w0) {F : SF} {fr0 : Frame} {m0 : Machine} {g : Sem Next} {n : SNext} {s1 : SH} {l : List SM} {callers : List SF} {cs cs0 : List Frame} {ob : Prop}
    (D : ob → Does E.P m0 fr0 cs g w) (hf : WaitF E ν M w0 hid F fr0) (hc : CallersR E ν M w0 cs0 hid F.kind callers cs) (hg : GR ν E)
    (hl : after E F callers (n, s1) = some l) (hn : ∀ d, n ≠ .defer d) (hgood : s1.ob → ob ∧ OpGood E g ν M w0 w n s1) :
    ∃ S' ∈ l, (S'.mem.ob → ob ∧ ∃ ν' m', ν.Le ν' ∧ Steps E.P m0 m' ∧ MR E M w0 cs0 ν' S' m') := by
  cases n with
  | val x =>
    obtain ⟨F', s2, hfin, rfl⟩ := map_finish hl
    refine ⟨_, List.mem_singleton.2 rfl, fun ob => ?_⟩
    obtain ⟨ob0, ν', w', y, hle, hrun, hv, hr'⟩ := hgood (finish_mono hf hfin ob)
    obtain ⟨_, hMR⟩ := finish_MR (hf.mono hle) hr' (hg.mono hle) hv hfin (hc.mono hle) ob
    refine ⟨ob0, ν', _, hle, ?_, hMR⟩
    rcases hrun with hrun | ⟨hrun, rfl⟩
    · exact (D ob0).value _ _ hrun
    · exact (D ob0).skip _ hrun
  | enter f args =>
    simp only [after] at hl
    split at hl
    · -- a function without a body
      rename_i k hk
      cases hx : sExt E k args s1 with
      | none => rw [hx] at hl; cases hl
      | some r =>
      obtain ⟨x, s2⟩ := r
      rw [hx] at hl
      obtain ⟨F', s3, hfin, rfl⟩ := map_finish hl
      refine ⟨_, List.mem_singleton.2 rfl, fun ob => ?_⟩
      have ob2 := finish_mono hf hfin ob
      have ob1 : s1.ob := sExt_mono hx ob2
      obtain ⟨ob0, al, ha, hr1, hrun⟩ := hgood ob1
      obtain ⟨_, ν', w', y, hle, hcall, hv, hr'⟩ := K.ext f k hk args x s1 s2 hx ν M w0 w al hr1 ha ob2
      obtain ⟨_, hMR⟩ := finish_MR (hf.mono hle) hr' (hg.mono hle) hv hfin (hc.mono hle) ob
      exact ⟨ob0, ν', _, hle, (D ob0).value _ _ (by rw [hrun]; exact hcall), hMR⟩
    · split at hl
      · -- a function that is told by its contract
        rename_i g hgs
        cases hx : g args s1 with
        | none => rw [hx] at hl; cases hl
        | some r =>
        obtain ⟨x, s2⟩ := r
        rw [hx] at hl
        obtain ⟨F', s3, hfin, rfl⟩ := map_finish hl
        refine ⟨_, List.mem_singleton.2 rfl, fun ob => ?_⟩
        have ob2 := finish_mono hf hfin ob
        obtain ⟨ob1, hc2⟩ := K.sums f g hgs args x s1 s2 hx ob2
        obtain ⟨ob0, al, ha, hr1, hrun⟩ := hgood ob1
        obtain ⟨hcall, hcalls⟩ := hc2 ν w al hr1 hg ha
        obtain ⟨e, w', fr, ⟨hbel, y, rfl, hnv⟩, hcomes, _, hleave⟩ := hcalls (fr0 :: cs)
        obtain ⟨ν', hle, hv, hr'⟩ := hnv.hr hr1 hbel
        obtain ⟨_, hMR⟩ := finish_MR (hf.mono hle) hr' (hg.mono hle) hv hfin (hc.mono hle) ob
        exact ⟨ob0, ν', _, hle, Steps.trans ((D ob0).enter _ _ _ (by rw [hrun]; exact hcall)) (Steps.trans hcomes (.one (step_leave_returned hleave))), hMR⟩
      · split at hl
        · -- a call of which it is told what may come back
          rename_i g hgs
          obtain ⟨L, hL, hl⟩ := Option.bind_eq_some_iff.1 hl
          obtain ⟨hne, hq⟩ := K.qs f g hgs args L hL
          by_cases ob1 : s1.ob
          · obtain ⟨ob0, al, ha, hr1, hrun⟩ := hgood ob1
            obtain ⟨hcall, hcalls⟩ := hq ν s1 w al hr1 hg ha
            obtain ⟨e, w', fr, ⟨hbel, x, hx, y, rfl, hv⟩, hcomes, _, hleave⟩ := hcalls (fr0 :: cs)
            obtain ⟨F', s2, hfin, hm⟩ := joinQ_mem hl x hx
            refine ⟨_, hm, fun ob => ?_⟩
            obtain ⟨_, hMR⟩ := finish_MR hf (hr1.grow hbel) hg hv hfin hc ob
            exact ⟨ob0, ν, _, Val.Le.refl _, Steps.trans ((D ob0).enter _ _ _ (by rw [hrun]; exact hcall)) (Steps.trans hcomes (.one (step_leave_returned hleave))), hMR⟩
          · obtain ⟨x, L', rfl⟩ := List.exists_cons_of_ne_nil hne
            obtain ⟨F', s2, hfin, hm⟩ := joinQ_mem hl x List.mem_cons_self
            exact ⟨_, hm, fun ob => absurd (finish_mono hf hfin ob) ob1⟩
        cases hG : enterF E f args .normal with
        | none => rw [hG] at hl; cases hl
        | some G =>
        rw [hG] at hl
        cases hl
        refine ⟨_, List.mem_singleton.2 rfl, fun ob => ?_⟩
        obtain ⟨ob0, al, ha, hr1, hrun⟩ := hgood ob
        obtain ⟨htop, hkind, fn, hfn, hbody⟩ := enterF_ok hG ha _
        have hcall : (callFunc f al.toArray).run E.P w = .ok (.enter f al.toArray) w := run_callFunc hfn hbody (K.calls f fn hfn hbody)
        refine ⟨ob0, ν, _, Val.Le.refl _, (D ob0).enter _ _ _ (by rw [hrun]; exact hcall), ⟨_, _, w, _, rfl, hr1, hg, htop, ?_⟩⟩
        show CallersR E ν M w0 cs0 [] G.kind (F :: callers) _
        rw [hkind]; exact .wait hf hc
  | round l args =>
    simp only [after] at hl
    split at hl
    · rename_i st p fn tm params assign body dfi wr hlook
      cases hlen : (args.length == params.length)
      · rw [hlen] at hl; cases hl
      · rw [hlen] at hl
        cases hl
        refine ⟨_, List.mem_singleton.2 rfl, fun ob => ?_⟩
        obtain ⟨ob0, al, bb, hb, ha, hr1, hrun⟩ := hgood ob
        obtain ⟨t, hy, ht⟩ := yield_ok (E := E) hlook (by simpa using hlen) hb ha hr1
        refine ⟨ob0, ν, _, Val.Le.refl _, (D ob0).round _ _ _ _ _ _ (by rw [hrun]; exact hy), ⟨_, _, w, _, rfl, hr1, hg, ?_, CallersR.wait (hl := []) hf hc⟩⟩
        exact ⟨⟨rfl, rfl, rfl, ⟨bb, hb, rfl⟩⟩, fun _ => ⟨rfl, .plain ht (.cons (.code assign) (.cons .beginRound (.cons (.code body) .nil)))⟩, fun hc => by cases hc⟩
    · cases hl
  | defer d => exact absurd rfl (hn d)

section
variable {F : SF} {b : Frame} {a z : Array Value} {df : List Deferred} {ops : Array Oper} {i : Nat} {rest : List Nat} {k' : List Item} {o : Oper} {L : List (SNext × SH)} {Ls : List SM} {callers : List SF} {cs cs0 : List Frame}

theorem atR_finish (ho : ops[i]? = some o) (y : Value) : (b.atR ⟨a, df⟩ (.inRegion ops (i :: rest) :: k')).finish y = b.atR (Act.put ⟨a, df⟩ o.dst y) (.inRegion ops rest :: k') := by
  rw [Frame.finish_atR, ho]; rfl

theorem op_ok (K : Facts E M w0) (hf : WaitF E ν M w0 hid F (b.atR ⟨a, df⟩ (.inRegion ops (i :: rest) :: k'))) (ho : ops[i]? = some o) (hw : s.ob → Region.wanted o (yielded ops a) = true)
    (hz : TmR ν F.tm z) (hev : ∀ x ∈ o.op.operands, ev a x = ev z x) (hop : sOp E F.tm o s = some L) (hj : joinM L (after E F callers) = some Ls)
    (hc : CallersR E ν M w0 cs0 hid F.kind callers cs) (hr : HR ν M w0 s w) (hg : GR ν E) :
    ∃ S' ∈ Ls, S'.mem.ob → s.ob ∧ ∃ ν' m', ν.Le ν' ∧ Steps E.P (lone (b.atR ⟨a, df⟩ (.inRegion ops (i :: rest) :: k')) cs w) m' ∧ MR E M w0 cs0 ν' S' m' := by
  obtain ⟨p, hp, hgood⟩ := sOp_ok hop hr (hz.opd hg)
  obtain ⟨l, hl, hsub⟩ := joinM_mem hj p hp
  have hcong : execOp (ev a) o = execOp (ev z) o := Go.execOp_congr o (no_select hop) hev
  obtain ⟨n, s1⟩ := p
  have hsem : (∀ d, n ≠ .defer d) → o.semAt b.roundOf (Act.eval ⟨a, df⟩) = execOp (ev z) o := by
    intro hn
    rw [Oper.semAt_eq _ _ _ (fun c e => by obtain ⟨d, hd⟩ := defer_only e hop _ hp; exact hn d hd), Act.eval_ev]
    exact hcong
  by_cases hd : ∃ d, n = .defer d
  · obtain ⟨d, rfl⟩ := hd
    simp only [after] at hl
    split at hl
    · rename_i hro
      obtain ⟨F', s2, hfin, rfl⟩ := map_finish hl
      refine ⟨_, hsub _ (List.mem_singleton.2 rfl), fun ob => ?_⟩
      have hfr := hf.base.ro
      rw [hro] at hfr
      have hb : b.roundOf = none := hfr
      have hsem : o.semAt b.roundOf (Act.eval ⟨a, df⟩) = execOp (ev z) o := by rw [hb, Oper.semAt_none, Act.eval_ev]; exact hcong
      have hf' : ∀ dv, DefR ν d dv → WaitF E ν M w0 hid { F with defers := d :: F.defers } (b.atR ⟨a, dv :: df⟩ (.inRegion ops (i :: rest) :: k')) := fun dv hd =>
        ⟨⟨hf.base.fn, ⟨dv, df, rfl, hd, hf.base.defers⟩, hf.base.kind, hf.base.ro⟩, hf.ret, hf.mode, hf.todo⟩
      have ob1 : s1.ob := by
        have hmono : ∀ {fr : Frame}, WaitF E ν M w0 hid { F with defers := d :: F.defers } fr → s2.ob → s1.ob := fun hx => finish_mono hx hfin
        exact finish_mono' hf hfin ob
      obtain ⟨ob0, dv, hd, hr1, hrun⟩ := hgood ob1
      obtain ⟨_, hMR⟩ := finish_MR (hf' dv hd) hr1 hg (VR.v_iff.2 rfl) hfin hc ob
      rw [atR_finish ho] at hMR
      exact ⟨ob0, ν, _, Val.Le.refl _, .one (step_defer ho (hw ob0) (by rw [hsem]; exact hrun)), hMR⟩
    · cases hl
  · have hn : ∀ d, n ≠ .defer d := fun d e => hd ⟨d, e⟩
    have hsem := hsem hn
    have D : s.ob → Does E.P (lone (b.atR ⟨a, df⟩ (.inRegion ops (i :: rest) :: k')) cs w) (b.atR ⟨a, df⟩ (.inRegion ops (i :: rest) :: k')) cs (execOp (ev z) o) w :=
      fun ob0 => ⟨fun y w' hr => by rw [atR_finish ho]; exact .one (step_value ho (hw ob0) (by rw [hsem]; exact hr)), fun w' hr => by rw [atR_finish ho]; exact .one (step_skip' ho (hw ob0) (by rw [hsem]; exact hr)),
        fun f a w' hr => .one (step_enter ho (hw ob0) (by rw [hsem]; exact hr)), fun l f t as bd w' hr => .one (step_round ho (hw ob0) (by rw [hsem]; exact hr))⟩
    obtain ⟨S', hm, h⟩ := after_ok K D hf hc hg hl hn hgood
    exact ⟨S', hsub _ hm, h⟩
end
end
end Go.Rx
