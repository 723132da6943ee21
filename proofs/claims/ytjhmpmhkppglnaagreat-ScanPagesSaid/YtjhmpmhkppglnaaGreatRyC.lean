/- The symbolic executor 'Rx', part YC: every step. By an AI agent. -/
import Derived.Test.YtjhmpmhkppglnaaGreatRyB
set_option linter.unusedVariables false
set_option linter.unusedSimpArgs false
namespace Go.Rx
section
variable {E : Env} {ν : Val} {M : Own} {w0 w : World} {s s' : SH} {hid : List Nat}
variable {F : SF} {fr : Frame} {callers : List SF} {cs cs0 : List Frame} {Ls : List SM} {m : Machine}

/-- An operation whose turn it is. -/
theorem turn_ok (K : Facts E M w0) {b : Frame} {a z : Array Value} {df : List Deferred} {ops : Array Oper} {i : Nat} {rest : List Nat} {k' : List Item} {o : Oper}
    (hf : WaitF E ν M w0 hid F (b.atR ⟨a, df⟩ (.inRegion ops (i :: rest) :: k'))) (ho : ops[i]? = some o) (hz : TmR ν F.tm z) (hev : ∀ x ∈ o.op.operands, ev a x = ev z x)
    (hwz : Region.wanted o (yielded ops a) = Region.wanted o (yielded ops z)) (hc : CallersR E ν M w0 cs0 hid F.kind callers cs) (hr : HR ν M w0 s w) (hg : GR ν E)
    (h : turnS E ops F callers o s = some Ls) : Out E M w0 cs0 ν s.ob (lone (b.atR ⟨a, df⟩ (.inRegion ops (i :: rest) :: k')) cs w) Ls := by
  unfold turnS at h
  split at h
  · rename_i s1 hw
    obtain ⟨hsame, hob⟩ := wanted_ok hw hz
    obtain ⟨L, hop, hj⟩ := Option.bind_eq_some_iff.1 h
    obtain ⟨S', hm, hS⟩ := op_ok K hf ho (fun ob => by rw [hwz, (hob ob).2]) hz hev hop hj hc (hr.same hsame) hg
    exact ⟨S', hm, fun ob => let ⟨o1, r⟩ := hS ob; ⟨(hob o1).1, r⟩⟩
  · rename_i s1 hw
    obtain ⟨hsame, hob⟩ := wanted_ok hw hz
    obtain ⟨F', s2, hfin, rfl⟩ := map_finish h
    refine .one fun ob => ?_
    obtain ⟨ob1, hMR⟩ := finish_MR hf (hr.same hsame) hg (VR.v_iff.2 rfl) hfin hc ob
    obtain ⟨ob0, hwf⟩ := hob ob1
    rw [atR_finish ho] at hMR
    have hs := stepR_op_skip (P := E.P) (b := b) (a := ⟨a, df⟩) (k := k') (cs := cs) (w := w) (ops := ops) (i := i) (rest := rest) (by rw [ho]; simp [hwz, hwf])
    rw [ho] at hs
    exact ⟨ob0, ν, _, Val.Le.refl _, .one hs, hMR⟩
  · cases h

/-- What a step comes to, wherever the blocks are reckoned from. -/
def OutB (E : Env) (M : Own) (w0 : World) (cs0 : List Frame) (ν : Val) (ob : Prop) (m : Machine) (Ls : List SM) : Prop :=
  ∃ S' ∈ Ls, S'.mem.ob → ob ∧ ∃ ν' m' M1 w1, ν.Le ν' ∧ Steps E.P m m' ∧ Base M w0 M1 w1 ∧ MR E M1 w1 cs0 ν' S' m'

theorem Out.base {M1 : Own} {w1 : World} {ob : Prop} (B : Base M w0 M1 w1) (h : Out E M1 w1 cs0 ν ob m Ls) : OutB E M w0 cs0 ν ob m Ls := by
  obtain ⟨S', hS', h⟩ := h
  refine ⟨S', hS', fun o => ?_⟩
  obtain ⟨o1, ν', m', hle, hst, hmr⟩ := h o
  exact ⟨o1, ν', m', M1, w1, hle, hst, B, hmr⟩

theorem nodup_filter_map {l : List (Nat × Nat)} {e B : Nat} (hn : (l.map (·.1)).Nodup) (h2 : (l.map (·.2)).Nodup) (he : (e, B) ∈ l) : ∀ q ∈ l, q.1 ≠ e → q.2 ≠ B := by
  intro q hq hne e2
  obtain ⟨i, hi, hqi⟩ := List.mem_iff_getElem.1 hq
  obtain ⟨j, hj, hej⟩ := List.mem_iff_getElem.1 he
  have : i = j := by
    refine (List.getElem_inj (h₀ := by simpa using hi) (h₁ := by simpa using hj) h2).1 ?_
    simp [hqi, hej, e2]
  subst this
  rw [hqi] at hej
  exact hne (by rw [hej])

theorem drw_ok (K : Facts E M w0) {M1 : Own} {w1 : World} {ops : Array Oper} {rem pend L : List Nat} {lag : List (Nat × Nat)} {z : Array Value} {k : List SI} {k' : List Item} (hB : Base M w0 M1 w1) (hb : FrB ν F fr) (hret : F.ret = false) (hmode : fr.mode = .run) (htodo : fr.todo = .inRegion ops L :: k')
    (hok : edgesOk ops = true) (hn : rem.Nodup) (d : Drw E ν M1 w1 ops rem pend lag L F.tm fr.tmps z) (st : StabS E ν s ops pend z) (hk : KsR ν k k') (hr : HR ν M1 w1 s w) (hg : GR ν E) (hc : CallersR E ν M1 w1 cs0 (lag.map (·.2)) F.kind callers cs)
    (h : drwS E F callers s ops rem pend k = some Ls) : OutB E M w0 cs0 ν s.ob (lone fr cs w) Ls := by
  unfold drwS at h
  dsimp only at h
  split at h
  · -- one goes ahead of its turn
    rename_i i hfind
    have hi := List.mem_of_find?_eq_some hfind
    have hp := List.find?_some hfind
    rw [Bool.and_eq_true, Bool.and_eq_true] at hp
    split at h
    · rename_i o ho
      cases hfr : sFree E ops F.tm o s with
      | none => rw [hfr] at h; cases h
      | some r =>
      obtain ⟨x, s1⟩ := r
      rw [hfr] at h; cases h
      obtain ⟨hsame, hob⟩ := d.float st hi hp.1.1 hp.1.2 ho hfr hr hg
      refine (Out.one fun ob => ?_ : Out E M1 w1 cs0 ν s.ob (lone fr cs w) _).base hB
      obtain ⟨ob0, z', d', st'⟩ := hob ob
      exact ⟨ob0, ν, _, Val.Le.refl _, Steps.refl _ _, ⟨_, _, w, _, rfl, hr.same hsame, hg, ⟨⟨hb.fn, hb.defers, hb.kind, hb.ro⟩, fun _ => ⟨hmode, by rw [htodo]; exact .drw hok (hn.filter _) d' st' hk⟩, fun h => (by
        have h : F.ret = true := h
        rw [hret] at h; cases h)⟩, hc⟩⟩
    · cases h
  · split at h
    · rename_i e hfind
      have he : e ∈ rem := by
        rw [Option.or_eq_some_iff] at hfind
        rcases hfind with h1 | ⟨_, h1⟩ <;> exact List.mem_of_find?_eq_some h1
      revert h
      cases hall : (ready (Region.before ops) rem e && rem.all fun j => Nat.beq j e || ((Region.before ops).getD j 0).testBit e || late E ops (Region.before ops) F.tm.nt j || rem.any fun i => !Nat.beq i j && ((Region.before ops).getD j 0).testBit i && !late E ops (Region.before ops) F.tm.nt i)
      · intro h; cases h
      · intro h
        simp only [cond_true] at h
        rw [Bool.and_eq_true] at hall
        obtain ⟨hready, hall⟩ := hall
        have hready : ∀ j ∈ rem, ((Region.before ops).getD e 0).testBit j = false := fun j hj => by simpa using List.all_eq_true.1 hready j hj
        have hsz : fr.tmps.size = F.tm.nt := by rw [d.size]; exact d.tm.size
        have hun : ∀ j ∈ rem, j = e ∨ ((Region.before ops).getD j 0).testBit e = true ∨ late E ops (Region.before ops) F.tm.nt j = true ∨ (∃ i ∈ rem, i ≠ j ∧ ((Region.before ops).getD j 0).testBit i = true ∧ late E ops (Region.before ops) F.tm.nt i = false) := by
          intro j hj
          have h1 := List.all_eq_true.1 hall j hj
          rw [Bool.or_eq_true, Bool.or_eq_true, Bool.or_eq_true] at h1
          rcases h1 with ((h1 | h1) | h1) | h1
          · exact .inl (Nat.eq_of_beq_eq_true h1)
          · exact .inr (.inl h1)
          · exact .inr (.inr (.inl h1))
          · obtain ⟨i, hi, h2⟩ := List.any_eq_true.1 h1
            rw [Bool.and_eq_true, Bool.and_eq_true] at h2
            refine .inr (.inr (.inr ⟨i, hi, fun e => ?_, h2.1.2, by simpa using h2.2⟩))
            subst e; simp at h2
        split at h
        · rename_i o ho
          have hfr : fr = fr.atR ⟨fr.tmps, fr.defers⟩ (.inRegion ops L :: k') := by rw [← htodo]; exact eq_atR hmode
          by_cases hel : e ∈ lag.map (·.1)
          · -- an allocation that the machine has carried out already
            obtain ⟨q, hq, rfl⟩ := List.mem_map.1 hel
            obtain ⟨e, B⟩ := q
            dsimp only at *
            obtain ⟨o1, t, so, r, g1, g2, g3, g4, g5, g6, g7⟩ := d.lagged _ hq
            rw [ho] at g1; cases g1
            obtain ⟨o2, so2, t2, g8, g9, g10, g11, g12, g13⟩ := late_ok g2
            rw [ho] at g8; cases g8
            obtain ⟨ty, r2, hop, _, _, _, hsop⟩ := lateSO_ok g4
            unfold turnS at h
            have hwant : wanted ops F.tm o E s = some (true, s) := by unfold wanted; rw [g10]
            rw [hwant] at h
            dsimp only at h
            rw [hsop F.tm o s rfl] at h
            cases hnw : sNew so s with
            | none => rw [hnw] at h; cases h
            | some p =>
            obtain ⟨i, s2⟩ := p
            rw [hnw] at h
            simp only [Option.map_some, Option.bind_some, joinM, after] at h
            unfold finish at h
            simp only [ho] at h
            revert h
            cases hu : unnamed ops (pend.filter fun p => !(((Region.before ops).getD e 0).testBit p)) o
            · intro h; cases h
            · intro h
              simp only [cond_true] at h
              have hrm : s.room = true ∧ i = s.nx ∧ s2 = s.new so := by
                unfold sNew at hnw
                cases hroom : s.room
                · rw [hroom] at hnw; cases hnw
                · rw [hroom] at hnw; cases hnw; exact ⟨rfl, rfl, rfl⟩
              obtain ⟨hroom, rfl, rfl⟩ := hrm
              cases hre : recheck E ops (putDst F.tm o (.ptr s.nx 0)) (pend.filter fun p => !(((Region.before ops).getD e 0).testBit p)) (s.new so) with
              | none => rw [hre] at h; cases h
              | some s3 =>
              rw [hre] at h
              simp only [Option.map_some, List.append_nil, Option.some.injEq] at h
              subst h
              obtain ⟨hle, hr2⟩ := hr.show g6 hroom g5
              have hg2 := hg.mono hle
              have hbl := nodup_filter_map d.lagnd hc.nodup hq
              have d2 := d.adopt hle hq ho hu (Val.put_self _ _ _) hbl
              obtain ⟨hsame3, hob3⟩ := recheck_ok hr2 hg2 d2.tm hr2 hre d2.free d2.pure
              have hc2 : CallersR E (ν.put s.nx (B, 0)) (M1.show B) w1 cs0 ((lag.filter fun q => !Nat.beq q.1 e).map (·.2)) F.kind callers cs := by
                refine (hc.mono hle).rebase (fun b hb r' h' => h'.show fun e' => hb (List.mem_map.2 ⟨_, hq, e'.symm⟩)) fun x _ hnd => ?_
                exact hnd.sublist (List.Sublist.append (List.Sublist.map _ List.filter_sublist) (List.Sublist.refl _))
              refine ⟨_, List.mem_singleton.2 rfl, fun ob => ?_⟩
              obtain ⟨ob2, _⟩ := hob3 ob
              exact ⟨ob2, _, _, _, _, hle, Steps.refl _ _, hB.show g6, ⟨_, _, w, _, rfl, hr2.same hsame3, hg2, ⟨⟨hb.fn, hb.defers.mono hle, hb.kind, hb.ro.mono hle⟩, fun _ => ⟨hmode, by
                rw [htodo]
                exact .drw hok (hn.filter _) d2 (fun M' w0' w' hr' => ((recheck_ok (hr'.same hsame3.symm) hg2 d2.tm (hr'.same hsame3.symm) hre d2.free d2.pure).2 ob).2) (hk.mono hle)⟩, fun h => (by
                have h : F.ret = true := h
                rw [hret] at h; cases h)⟩, hc2⟩⟩
          · obtain ⟨a', L', lag', M2, w2, w', hsteps, d2, hr2, hB2, hhid, l0, hl0, hnd0, hge⟩ := Drw.reach hok he hun st hsz d hr hB hel (b := fr) (df := fr.defers) (k := k') (cs := cs)
            have d3 := d2.narrow he
            have hnd : (e :: rem.filter fun j => !Nat.beq j e).Nodup := by
              refine List.nodup_cons.2 ⟨fun hm => ?_, hn.filter _⟩
              have := (List.mem_filter.1 hm).2
              simp at this
            have hnl : NoLag ops lag' e := fun q hq => hready q.1 (d2.lagrem q hq)
            have hwait : WaitF E ν M2 w2 (lag'.map (·.2)) { F with todo := .drw ops (e :: rem.filter fun j => !Nat.beq j e) (pend.filter fun p => !(((Region.before ops).getD e 0).testBit p)) :: k } (fr.atR ⟨a', fr.defers⟩ (.inRegion ops (e :: L') :: k')) :=
              ⟨⟨hb.fn, hb.defers, hb.kind, hb.ro⟩, hret, rfl, .drw hok hnd d3 hnl hk⟩
            have hc2 : CallersR E ν M2 w2 cs0 (lag'.map (·.2)) F.kind callers cs := by
              refine hc.rebase (fun b _ r' h' => hhid b r' h') fun x hx hndx => ?_
              rw [hl0, List.append_assoc, List.nodup_append]
              refine ⟨hnd0, hndx, fun u hu v hv e' => ?_⟩
              have hbig := hge u hu
              have hsmall : ∃ r, Hidden M1 w1 v r := by
                rcases List.mem_append.1 hv with hv | hv
                · obtain ⟨q, hq, rfl⟩ := List.mem_map.1 hv
                  obtain ⟨_, _, _, r, _, _, _, _, _, g, _⟩ := d.lagged q hq
                  exact ⟨r, g⟩
                · exact hx v hv
              obtain ⟨r, hr'⟩ := hsmall
              have := (Array.getElem?_eq_some_iff.1 hr'.1).1
              omega
            obtain ⟨S', hm, hS⟩ := turn_ok (K.rebase hB2) hwait ho d3.tm (d3.opds hnl ho) (d3.wanted hnl ho) hc2 hr2 hg h
            refine ⟨S', hm, fun ob => ?_⟩
            obtain ⟨ob0, ν', m', hle, hst, hMR⟩ := hS ob
            refine ⟨ob0, ν', m', M2, w2, hle, ?_, hB2, hMR⟩
            rw [hfr]
            exact Steps.trans hsteps hst
        · cases h
    · cases h

theorem drw_start {ops : Array Oper} {tm : STm} {a : Array Value} (hok : edgesOk ops = true) (t : Nat) (ht : TmR ν tm a) : Drw E ν M w0 ops (List.range ops.size) [] [] (Region.schedule true ops t) tm a a := by
  have o := schedule_ok hok t
  exact ⟨o.nodup, o.ord, o.irr, fun i hi => (o.all i).1 hi, fun i hi => .inl ((o.all i).2 (List.mem_range.1 hi)), fun i hi => .inl (List.mem_range.2 ((o.all i).1 hi)), fun _ _ h => (by cases h), fun _ h => (by cases h), fun _ h => (by cases h), ht, rfl,
    fun _ _ _ => rfl, fun _ h => (by cases h), fun _ h => (by cases h), fun _ h => (by cases h), fun _ h => (by cases h), fun _ h => (by cases h), List.nodup_nil, fun _ h => (by cases h)⟩

theorem bif_true {α : Type} {b : Bool} {x y : α} (h : b = true) : (bif b then x else y) = x := by rw [h]; rfl
theorem bif_false {α : Type} {b : Bool} {x y : α} (h : b = false) : (bif b then x else y) = y := by rw [h]; rfl

/-- Every step. -/
theorem sStep_ok {M0 : Own} {w00 : World} (K0 : Facts E M0 w00) (B0 : Base M0 w00 M w0) {S : SM} (hm : MR E M w0 cs0 ν S m) (h : sStep E S = some Ls) : OutB E M0 w00 cs0 ν S.mem.ob m Ls := by
  have K := K0.rebase B0
  obtain ⟨F, callers, s⟩ := S
  obtain ⟨fr, cs, w, hid, rfl, hr, hg, ⟨hb, hrun, hret⟩, hc⟩ := hm
  dsimp only at hr hb hrun hret hc
  unfold sStep at h
  dsimp only at h
  cases hF : F.ret
  case true =>
    rw [bif_true hF] at h
    obtain ⟨hmode, ht⟩ := hret hF
    exact (ret_ok K hb hF hmode ht hr hg hc.clear h).base B0
  case false =>
  rw [bif_false hF] at h
  obtain ⟨hmode, hR⟩ := hrun hF
  generalize hxs : F.todo = xs at h hR
  generalize htodo : fr.todo = ys at hR
  have hfr : fr = fr.atR ⟨fr.tmps, fr.defers⟩ ys := by rw [← htodo]; exact eq_atR hmode
  have sw : ∀ {m' : Machine}, step E.P (lone (fr.atR ⟨fr.tmps, fr.defers⟩ ys) cs w) = .next m' → Steps E.P (lone fr cs w) m' := fun h => by rw [← hfr] at h; exact .one h
  cases hR with
  | drw hok hn d st hk =>
    rename_i ops rem pend L lag z k k'
    cases rem with
    | nil =>
      cases h
      refine (Out.one fun ob => ?_ : Out E M w0 cs0 ν s.ob (lone fr cs w) _).base B0
      obtain ⟨a', hsteps, ht⟩ := d.finish_all (st _ _ _ hr) (b := fr) (df := fr.defers) (k := k') (cs := cs)
      rw [← hfr] at hsteps
      refine ⟨ob, ν, _, Val.Le.refl _, hsteps, ⟨_, _, w, _, rfl, hr, hg, ⟨⟨hb.fn, hb.defers, hb.kind, hb.ro⟩, fun _ => ⟨rfl, .plain ht hk⟩, fun h => (by
        have h : F.ret = true := h
        rw [hF] at h; cases h)⟩, hc.clear⟩⟩
    | cons i rem => exact drw_ok K0 B0 hb hF hmode htodo hok hn d st hk hr hg hc h
  | plain ht hk =>
  refine Out.base B0 ?_
  have to : ∀ {k : List SI} {k' : List Item}, step E.P (lone (fr.atR ⟨fr.tmps, fr.defers⟩ ys) cs w) = .next (lone (fr.atR ⟨fr.tmps, fr.defers⟩ k') cs w) → KsR ν k k' →
      some [({ top := { F with todo := k }, callers, mem := s } : SM)] = some Ls → Out E M w0 cs0 ν s.ob (lone fr cs w) Ls := by
    intro k k' hs hk h
    cases h
    exact .one fun ob => ⟨ob, ν, _, Val.Le.refl _, sw hs, MR.to hr hg hb hF ht hc hk⟩
  have leave : ∀ {jump : Option Code}, (fr.roundOf = none → (jump = none ∨ jump = some .ret) → step E.P (lone (fr.atR ⟨fr.tmps, fr.defers⟩ ys) cs w) = .next (lone { fr.atR ⟨fr.tmps, fr.defers⟩ ys with mode := .returning } cs w)) →
      (∀ l v w' c cs', fr.roundOf = some l → fr.kind = .normal → (Instr.endRound l jump).run E.P w = .ok v w' → step E.P (lone (fr.atR ⟨fr.tmps, fr.defers⟩ ys) (c :: cs') w) = .next (lone (c.finish v) cs' w')) →
      leaveS E F callers s jump = some Ls → Out E M w0 cs0 ν s.ob (lone fr cs w) Ls := by
    intro jump h1 h2 h
    refine leave_ok hb hF hmode ht hr hg hc h (fun hro hj => ?_) (fun l v w' c cs' hl hkd hcs hrn => ?_)
    · have := h1 hro hj
      rw [← hfr] at this; exact this
    · subst hcs
      have := h2 l v w' c cs' hl hkd hrn
      rw [← hfr] at this; exact this
  cases hk with
  | nil => exact leave (fun hro _ => stepR_end hro) (fun l v w' c cs' hl hkd hrn => stepR_round_end hl hkd hrn) h
  | cons hx hk =>
    rename_i k k'
    cases hx with
    | inBlock id => exact to stepR_inBlock hk h
    | inLoop c => exact to stepR_inLoop (.cons (.code c) (.cons (.inLoop c) hk)) h
    | inScope c => exact to (step_lone_go (by simp [stepG, stepG.exec, Frame.atR])) hk h
    | reg ops is =>
      cases is with
      | nil => exact to stepR_region_end hk h
      | cons i rest =>
        dsimp only at h
        split at h
        · cases h
        · rename_i o ho
          have hwait : WaitF E ν M w0 [] F (fr.atR ⟨fr.tmps, fr.defers⟩ (.inRegion ops (i :: rest) :: k')) := ⟨⟨hb.fn, hb.defers, hb.kind, hb.ro⟩, hF, rfl, by rw [hxs]; exact .plain ht (.cons (.reg ops _) hk)⟩
          have := turn_ok K hwait ho ht (fun _ _ => rfl) rfl hc hr hg h
          rw [← hfr] at this; exact this
    | inRF e => cases h
    | endRF e =>
      rename_i ie be
      dsimp only at h
      split at h
      · rename_i st jump fn tm params assign body df hlook
        obtain ⟨_, _, b', o, hb', ho, hor, _⟩ := hr.look hlook
        rw [e] at hb'; cases hb'
        obtain ⟨t, b2, hb2, htm, rfl⟩ := hor
        have key : st ≠ .busy → some [({ top := { F with todo := (jump.map SI.code).toList ++ k }, callers, mem := s.put ie (.loop .exhausted jump fn tm params assign body df) } : SM)] = some Ls → Out E M w0 cs0 ν s.ob (lone fr cs w) Ls := by
          intro hst h
          cases h
          have hst' : (st == LoopState.busy) = false := by cases st <;> first | rfl | exact absurd rfl hst
          have hrn : (Instr.endLoop be.1).run E.P w = .ok jump { w with heap := w.heap.setIfInBounds be.1 (.loop { state := .exhausted, pending := jump, fn, tmps := t, params := params.toArray, assign, body, defers := b2.1 }) } := by
            simp only [Instr.endLoop, Sem.run_bind, run_getLoop ho, Result.andThen_ok, hst', Bool.false_eq_true, if_false, run_setObj (P := E.P) ho (by intro c e f; exact fun h => by cases h), Sem.run_pure]
          have hr' := hr.put hlook e (o := .loop .exhausted jump fn tm params assign body df) ⟨t, b2, hb2, htm, rfl⟩ rfl rfl rfl rfl (w' := { w with heap := w.heap.setIfInBounds be.1 (.loop { state := .exhausted, pending := jump, fn, tmps := t, params := params.toArray, assign, body, defers := b2.1 }) })
          have hs : step E.P (lone (fr.atR ⟨fr.tmps, fr.defers⟩ (.endRangeFunc be.1 :: k')) cs w) = .next (lone (fr.atR ⟨fr.tmps, fr.defers⟩ ((jump.map Item.code).toList ++ k')) cs _) :=
            step_lone_go (by simp [stepG, stepG.exec, Frame.atR, Sem.runT_eq, hrn]; rfl)
          have hks : KsR ν ((jump.map SI.code).toList ++ k) ((jump.map Item.code).toList ++ k') := by
            cases jump with
            | none => exact hk
            | some c => exact .cons (.code c) hk
          exact .one fun ob => ⟨ob, ν, _, Val.Le.refl _, sw hs, MR.to hr' hg hb hF ht hc hks⟩
        split at h
        · cases h
        · rename_i hne
          exact key (fun e => hne e) h
      · cases h
    | beginRound =>
      dsimp only at h
      split at h
      · rename_i i hro
        split at h
        · rename_i p fn tm params assign body df hlook
          cases h
          have hro' := hb.ro
          rw [hro] at hro'
          obtain ⟨b, hbi, hrou⟩ := hro'
          obtain ⟨_, _, b', o, hb', ho, hor, _⟩ := hr.look hlook
          rw [hbi] at hb'; cases hb'
          obtain ⟨t, b2, hb2, htm, rfl⟩ := hor
          have hrn : (Instr.beginRound b.1).run E.P w = .ok () { w with heap := w.heap.setIfInBounds b.1 (.loop { state := .busy, pending := p, fn, tmps := t, params := params.toArray, assign, body, defers := b2.1 }) } := by
            simp only [Instr.beginRound, Sem.run_bind, run_getLoop ho, Result.andThen_ok, run_setObj (P := E.P) ho (by intro c e f; exact fun h => by cases h), Sem.run_pure]
          have hr' := hr.put hlook hbi (o := .loop .busy p fn tm params assign body df) ⟨t, b2, hb2, htm, rfl⟩ rfl rfl rfl rfl (w' := { w with heap := w.heap.setIfInBounds b.1 (.loop { state := .busy, pending := p, fn, tmps := t, params := params.toArray, assign, body, defers := b2.1 }) })
          exact .one fun ob => ⟨ob, ν, _, Val.Le.refl _, sw (stepR_beginRound hrou hrn), MR.to hr' hg hb hF ht hc hk⟩
        · cases h
      · cases h
    | code c =>
      cases c with
      | skip => exact to stepR_skip hk h
      | label l => exact to stepR_label hk h
      | seq a b => exact to stepR_seq (.cons (.code a) (.cons (.code b) hk)) h
      | cond c a b =>
        dsimp only at h
        split at h
        · rename_i t hev
          cases h
          obtain ⟨hsame, hob⟩ := SH.dec_ok (s := s) (E := E) (b := t) (t := (s.dec E t).1) (s' := (s.dec E t).2) rfl
          have hv := (ht.opd hg) c
          rw [hev] at hv
          have hv : ev fr.tmps c = .bool t := VR.v_iff.1 hv
          refine .one fun ob => ?_
          obtain ⟨ob0, hb1⟩ := hob ob
          have hs := stepR_cond (P := E.P) (b := fr) (a := ⟨fr.tmps, fr.defers⟩) (k := k') (cs := cs) (w := w) (c := c) (x := a) (y := b) (t := t) (by rw [Act.eval_ev]; exact hv)
          refine ⟨ob0, ν, _, Val.Le.refl _, sw hs, MR.to (hr.same hsame) hg hb hF ht hc ?_⟩
          rw [← hb1]
          cases t
          · exact .cons (.code b) hk
          · exact .cons (.code a) hk
        · cases h
      | block id c => exact to stepR_block (.cons (.code c) (.cons (.inBlock id) hk)) h
      | loop c => exact to stepR_loop (.cons (.code c) (.cons (.inLoop c) hk)) h
      | scope c => exact to (step_lone_go (by simp [stepG, stepG.exec, Frame.atR])) (.cons (.code c) (.cons (.inScope c) hk)) h
      | exit id =>
        dsimp only at h
        obtain ⟨he1, he2⟩ := exitTo_ok hk id
        split at h
        · rename_i k1 hx
          obtain ⟨y, hy, hky⟩ := he1 _ hx
          exact to (stepR_exit hy) hky h
        · rename_i hx
          exact leave (fun _ hj => by rcases hj with hj | hj <;> cases hj) (fun l v w' c cs' hl hkd hrn => stepR_round_exit hl hkd (he2 hx) hrn) h
      | goto l =>
        dsimp only at h
        obtain ⟨he1, he2⟩ := gotoIn_ok hk l
        split at h
        · rename_i k1 hx
          obtain ⟨y, hy, hky⟩ := he1 _ hx
          exact to (stepR_goto hy) hky h
        · rename_i hx
          exact leave (fun _ hj => by rcases hj with hj | hj <;> cases hj) (fun l v w' c cs' hl hkd hrn => stepR_round_goto hl hkd (he2 hx) hrn) h
      | ret => exact leave (fun hro _ => stepR_ret hro) (fun l v w' c cs' hl hkd hrn => stepR_round_ret hl hkd hrn) h
      | rangeFunc f params assign body => exact range_ok K hb hF hmode ht hk htodo hr hg hc h
      | refuse why => cases h
      | region id ops draw =>
        dsimp only at h
        cases draw
        · exact to stepR_region (.cons (.reg ops _) hk) h
        · simp only [cond_true] at h
          cases hok : edgesOk ops
          · rw [hok] at h; cases h
          · rw [hok] at h
            cases h
            have hs := stepR_region_draw (P := E.P) (b := fr) (a := ⟨fr.tmps, fr.defers⟩) (k := k') (cs := cs) (w := w) (ops := ops) (id := id)
            rw [K.mixed] at hs
            exact .one fun ob => ⟨ob, ν, _, Val.Le.refl _, sw hs, ⟨_, _, _, _, rfl, hr.drawn _, hg, ⟨⟨hb.fn, hb.defers, hb.kind, hb.ro⟩, fun _ => ⟨rfl, .drw hok List.nodup_range (drw_start hok _ ht) (fun _ _ _ _ p hp => by cases hp) hk⟩, fun h => (by
              have h : F.ret = true := h
              rw [hF] at h; cases h)⟩, hc⟩⟩

end
end Go.Rx
