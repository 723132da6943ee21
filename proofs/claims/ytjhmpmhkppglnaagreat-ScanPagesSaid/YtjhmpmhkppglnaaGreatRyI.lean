/- The symbolic executor 'Rx', part YI: proofs in pieces: from a state on all goes well; runs, ends, calls by contract. By an AI agent. -/
import Derived.Test.YtjhmpmhkppglnaaGreatRyH
set_option linter.unusedVariables false
set_option linter.unusedSimpArgs false
namespace Go.Rx
open Go.RowKit (Below)
section
variable {E : Env} {ν : Val} {M : Own} {w0 w : World} {s s' : SH} {cs0 : List Frame} {f : FuncId} {R : Ending → World → Prop}

/-- From this machine on the call comes to its end as it is told. -/
def Fin (P : Program) (f : FuncId) (cs0 : List Frame) (R : Ending → World → Prop) (m : Machine) : Prop :=
  ∃ e w' fr, R e w' ∧ Comes P m (lone fr cs0 w') e ∧ fr.fn = f ∧ fr.leaving P w' e

theorem Fin.steps {P : Program} {m m' : Machine} (h : Steps P m m') (k : Fin P f cs0 R m') : Fin P f cs0 R m := by
  obtain ⟨e, w', fr, h1, h2, h3, h4⟩ := k
  exact ⟨e, w', fr, h1, Comes.of_steps h h2, h3, h4⟩

/-- .. whatever machine this state stands for. -/
def Goes (E : Env) (M : Own) (w0 : World) (cs0 : List Frame) (f : FuncId) (R : Ending → World → Prop) (ν : Val) (S : SM) : Prop :=
  ∀ ν' m M1 w1, ν.Le ν' → Base M w0 M1 w1 → MR E M1 w1 cs0 ν' S m → Fin E.P f cs0 R m

/-- A state with an oracle, from which nothing is owed yet. -/
def SM.with (S : SM) (o : List (Nat × Ans)) : SM := { S with mem := { S.mem with obl := [], dc := 0, orc := fun n => o.lookup n, soft := !o.isEmpty } }

theorem HR.with (h : HR ν M w0 s w) (l : List Prop) (n : Nat) (o : Nat → Option Ans) (b : Bool) : HR ν M w0 { s with obl := l, dc := n, orc := o, soft := b } w := ⟨h.full, h.dom, h.fresh, h.obj, h.inj, h.size, h.frame, h.ro, h.os, h.tape, h.output⟩

theorem MR.with {S : SM} {m : Machine} (h : MR E M w0 cs0 ν S m) (l : List Prop) (n : Nat) (o : Nat → Option Ans) (b : Bool) : MR E M w0 cs0 ν { S with mem := { S.mem with obl := l, dc := n, orc := o, soft := b } } m := by
  obtain ⟨fr, cs, w, hl, hm, hr, hg, ⟨h1, h2, h3⟩, hc⟩ := h
  refine ⟨fr, cs, w, hl, hm, hr.with l n o b, hg, ⟨h1, fun hf => ⟨(h2 hf).1, ?_⟩, h3⟩, hc⟩
  have := (h2 hf).2
  revert this
  generalize S.top.todo = xs
  generalize fr.todo = ys
  intro this
  cases this with
  | plain ht hk => exact .plain ht hk
  | drw hok hn d st hk => exact .drw hok hn d (fun M' w0' w' hr' => st M' w0' w' (hr'.with S.mem.obl S.mem.dc S.mem.orc S.mem.soft)) hk

/-- A state runs to others. -/
theorem Goes.run (K : Facts E M w0) {stop : SM → Bool} {n : Nat} {S : SM} {o : List (Nat × Ans)} {Ls : List SM} (h : run E stop n [S.with o] [] = some Ls)
    (hs : ∀ T ∈ Ls, T.mem.ob ∧ Goes E M w0 cs0 f R ν T) : Goes E M w0 cs0 f R ν S := by
  intro ν' m M1 w1 hle hB hm
  obtain ⟨_, _, h3⟩ := run_ok (cs0 := cs0) K h
  obtain ⟨S', hS', hS⟩ := h3 _ (List.mem_singleton.2 rfl) ν' m M1 w1 hB (hm.with [] 0 _ _)
  obtain ⟨ob, hsafe⟩ := hs S' hS'
  obtain ⟨_, ν2, m', M2, w2, hle2, hst, hB2, hMR⟩ := hS ob
  exact (hsafe ν2 m' M2 w2 (hle.trans hle2) hB2 hMR).steps hst

/-- A way that does not part. -/
def goS (E : Env) (stop : SM → Bool) : Nat → SM → Option SM
  | 0, S => bif stop S then some S else none
  | n + 1, S => bif stop S then some S else match step1 E S with
    | some [T] => goS E stop n T
    | _ => none

theorem goS_run {stop : SM → Bool} : ∀ {n : Nat} {S T : SM}, goS E stop n S = some T → Go.Rx.run E stop (n + 1) [S] [] = some [T]
  | 0, S, T, h => by
    unfold goS at h
    unfold Go.Rx.run
    cases hs : stop S
    · rw [hs] at h; cases h
    · rw [hs] at h; cases h; simp only [cond_true]; exact run_nil
  | n + 1, S, T, h => by
    unfold goS at h
    unfold Go.Rx.run
    cases hs : stop S
    · rw [hs] at h
      simp only [cond_false] at h ⊢
      split at h
      · rename_i U hU
        rw [hU]
        exact goS_run h
      · cases h
    · rw [hs] at h; cases h; simp only [cond_true]; exact run_nil

theorem Goes.go (K : Facts E M w0) {stop : SM → Bool} {n : Nat} {S T : SM} {o : List (Nat × Ans)} (h : goS E stop n (S.with o) = some T) (ob : T.mem.ob) (hs : Goes E M w0 cs0 f R ν T) : Goes E M w0 cs0 f R ν S :=
  Goes.run K (goS_run h) fun U hU => by rw [List.mem_singleton.1 hU]; exact ⟨ob, hs⟩

/-- The call has come to its end. -/
theorem Goes.done {S : SM} {x : SV} (hend : endS E f S = some (x, s')) (hob : s'.ob)
    (hR : ∀ ν' M1 w1 w' v, ν.Le ν' → Base M w0 M1 w1 → VR ν' x v → HR ν' M1 w1 s' w' → GR ν' E → R (.returned v) w') : Goes E M w0 cs0 f R ν S := by
  intro ν' m M1 w1 hle hB hm
  unfold endS at hend
  cases hov : (S.over && Nat.beq S.top.fn f)
  · rw [hov] at hend; cases hend
  · rw [hov] at hend
    simp only [cond_true] at hend
    rw [Bool.and_eq_true] at hov
    obtain ⟨hov, hfn⟩ := hov
    have hfn := Nat.eq_of_beq_eq_true hfn
    unfold SM.over at hov
    rw [Bool.and_eq_true, Bool.and_eq_true] at hov
    obtain ⟨⟨hcal, hret⟩, hdef⟩ := hov
    split at hend
    · rename_i fn hf
      obtain ⟨fr, cs, w', hl, rfl, hr', hg', htop', hc'⟩ := hm
      obtain ⟨hmode, htm⟩ := htop'.ret hret
      obtain ⟨hsame, hobr⟩ := results_ok (E := E) htm hr' hend
      obtain ⟨_, v, hv, hvr⟩ := hobr hob
      have hcs : S.callers = [] := List.isEmpty_iff.1 hcal
      rw [hcs] at hc'
      have hk : S.top.kind = .normal ∧ cs = cs0 := by
        generalize hkk : S.top.kind = kk at hc'
        cases hc' with
        | nil _ => exact ⟨rfl, rfl⟩
      obtain ⟨hk, rfl⟩ := hk
      have hd := htop'.base.defers
      rw [List.isEmpty_iff.1 hdef] at hd
      refine ⟨.returned v, w', fr, hR ν' M1 w1 w' v hle hB hvr (hr'.same hsame) hg', Steps.refl _ _, by rw [htop'.base.fn]; exact hfn, hmode, hd, by rw [htop'.base.kind]; exact hk, fn, ?_, hv⟩
      rw [htop'.base.fn, hfn]; exact hf
    · cases hend

/-- What is proved in pieces, of a call. -/
theorem calls_of_safe {args : List SV} {a : List Value} {s0 : SH} {S0 : SM} (hS0 : enterS E f args s0 = some S0) (hr : HR ν M w0 s0 w) (hro : ∀ b, M.r b → b < w0.heap.size) (hh : ∀ b, ¬ M.h b)
    (hg : GR ν E) (ha : VRL ν args a) (hs : ∀ cs0, Goes E M w0 cs0 f R ν S0) : Calls E.P f a.toArray w R := by
  intro cs0
  unfold enterS at hS0
  cases hG : enterF E f args .normal with
  | none => rw [hG] at hS0; cases hS0
  | some G =>
  rw [hG] at hS0; cases hS0
  obtain ⟨htop, hkind, _⟩ := enterF_ok (E := E) hG ha _
  have hm : MR E M w0 cs0 ν { top := G, callers := [], mem := s0 } (lone (Frame.enter E.P f a.toArray .normal) cs0 w) :=
    ⟨_, _, w, [], rfl, hr, hg, htop, by show CallersR E ν M w0 cs0 [] G.kind [] cs0; rw [hkind]; exact .nil List.nodup_nil⟩
  exact hs cs0 ν _ M w0 (Val.Le.refl _) (Base.refl hro hh) hm

/-! ### a call by contract -/

theorem args_of (ν : Val) : ∀ {l : List SV} {a : Nat → Value}, (∀ t x, l[t]? = some x → VR ν x (a t)) → VRL ν l ((List.range l.length).map a)
  | [], a, _ => by simpa using VRL.nil
  | x :: l, a, h => by
    rw [List.length_cons, List.range_succ_eq_map, List.map_cons, List.map_map]
    exact VRL.cons (h 0 x rfl) (args_of ν (l := l) (a := a ∘ Nat.succ) fun t y hy => h (t + 1) y (by simpa using hy))

/-- A frame that has just been entered is the one that a call begins with. -/
theorem entered {g : FuncId} {args : List SV} {G : SF} {fr : Frame} {hl : List Nat} (hG : enterF E g args .normal = some G) (ht : TopR E ν M w0 hl s G fr) :
    ∃ xs : List Value, VRL ν args xs ∧ fr = Frame.enter E.P g xs.toArray .normal := by
  unfold enterF at hG
  split at hG
  · rename_i fn hfn
    split at hG
    · rename_i c hc
      cases hm : mkTm fn.ntmps args with
      | none => rw [hm] at hG; cases hG
      | some tm =>
      rw [hm] at hG; cases hG
      obtain ⟨⟨h1, h2, h3, h4⟩, hrun, _⟩ := ht
      obtain ⟨hmode, hR⟩ := hrun rfl
      dsimp only at h1 h2 h3 h4 hR
      cases hR with
      | plain hT hk =>
      unfold mkTm at hm
      cases hcc : (Nat.ble args.length fn.ntmps && Nat.ble fn.ntmps (2 ^ depthOf fn.ntmps))
      · rw [hcc] at hm; cases hm
      rw [hcc] at hm; cases hm
      rw [Bool.and_eq_true, Nat.ble_eq, Nat.ble_eq] at hcc
      obtain ⟨hle, hn⟩ := hcc
      obtain ⟨hf, hget⟩ := mkGo_ok (depthOf fn.ntmps) args 0 (Tr.mk (.v undef) (depthOf fn.ntmps)) (Tr.full_mk _ _) (by omega)
      have hT' : ∀ t, t < fn.ntmps → VR ν ((args[t]?).getD (.v undef)) (fr.tmps.getD t undef) := by
        intro t ht
        have := hT.get t ht
        have e := hget t (by omega)
        rw [if_pos (Nat.zero_le _), Tr.get_mk, Nat.sub_zero] at e
        dsimp only at this
        rw [e] at this; exact this
      have hsz : fr.tmps.size = fn.ntmps := hT.size
      refine ⟨(List.range args.length).map fun t => fr.tmps.getD t undef, args_of ν fun t x hx => ?_, ?_⟩
      · have hlt := (List.getElem?_eq_some_iff.1 hx).1
        have := hT' t (by omega)
        rw [hx] at this; exact this
      · have htm : fr.tmps = ((List.range args.length).map fun t => fr.tmps.getD t undef).toArray ++ Array.replicate (fn.ntmps - ((List.range args.length).map fun t => fr.tmps.getD t undef).toArray.size) undef := by
          apply Array.ext
          · simp; omega
          · intro t ht1 ht2
            rw [Array.getElem_append]
            split
            · rename_i hlt
              simp [ht1]
            · rename_i hge
              have hge : args.length ≤ t := by simpa using hge
              have := hT' t (by omega)
              rw [List.getElem?_eq_none hge] at this
              have e := VR.v_iff.1 this
              have e2 : fr.tmps.getD t undef = fr.tmps[t] := by simp [Array.getD, ht1]
              rw [← e2, e]
              simp
        have hks : fr.todo = [.code c] := by
          generalize fr.todo = ys at hk
          cases hk with
          | cons hx hk => cases hx; cases hk; rfl
        have hd : fr.defers = [] := h2
        have hro : fr.roundOf = none := h4
        generalize hxs : ((List.range args.length).map fun t => fr.tmps.getD t undef) = xs at htm
        obtain ⟨f1, f2, f3, f4, f5, f6, f7⟩ := fr
        dsimp only at *
        subst h1 hd h3 hro hmode hks
        simp only [Frame.enter, hfn, Option.map_some, Option.getD_some, Option.bind_some, hc]
        congr 1
    · cases hG
  · cases hG

/-- A call of which a contract is known. -/
theorem Goes.call {G F : SF} {Fs : List SF} {g : FuncId} {args : List SV} (hG : enterF E g args .normal = some G)
    (hc : ∀ ν' M1 w1 w a cs, ν.Le ν' → Base M w0 M1 w1 → HR ν' M1 w1 s w → GR ν' E → VRL ν' args a → CallersR E ν' M1 w1 cs0 [] .normal (F :: Fs) cs →
      Calls E.P g a.toArray w fun e w' => ∃ y, e = .returned y ∧ ∀ fr cs', cs = fr :: cs' → Fin E.P f cs0 R (lone (fr.finish y) cs' w')) : Goes E M w0 cs0 f R ν ⟨G, F :: Fs, s⟩ := by
  intro ν' m M1 w1 hle hB hm
  obtain ⟨fr, cs, w, hl, rfl, hr, hg, htop, hcal⟩ := hm
  obtain ⟨xs, hxs, rfl⟩ := entered hG htop
  have hcal := hcal.clear
  have hk : G.kind = .normal := by
    unfold enterF at hG
    split at hG
    · split at hG
      · obtain ⟨tm, _, h⟩ := Option.map_eq_some_iff.1 hG
        rw [← h]
      · cases hG
    · cases hG
  dsimp only at hcal
  rw [hk] at hcal
  have hC := hc ν' M1 w1 w xs cs hle hB hr hg hxs hcal
  cases hcal with
  | wait hw ht =>
  rename_i fr0 cs1
  obtain ⟨e, w', fr, ⟨y, rfl, hfin⟩, hcomes, _, hleave⟩ := hC (fr0 :: cs1)
  refine (hfin fr0 cs1 rfl).steps (Steps.trans hcomes (.one (step_leave_returned hleave)))

/-! ### what lies still -/

/-- A heap, in part. -/
abbrev Hp := Nat → Option Obj
def Hp.Sub (H H' : Hp) : Prop := ∀ b o, H b = some o → H' b = some o
theorem Hp.Sub.refl (H : Hp) : H.Sub H := fun _ _ h => h
theorem Hp.Sub.trans {A B C : Hp} (h : A.Sub B) (k : B.Sub C) : A.Sub C := fun b o e => k b o (h b o e)
def _root_.Go.World.hp (w : World) : Hp := fun b => w.heap[b]?
/-- What is known of a heap, and all that is new since. -/
def Hp.grow (H : Hp) (w w' : World) : Hp := fun b => if b < w.heap.size then H b else w'.heap[b]?
theorem Hp.sub_grow {H : Hp} {w w' : World} (h : H.Sub w.hp) : H.Sub (H.grow w w') := by
  intro b o hb
  have := (Array.getElem?_eq_some_iff.1 (h b o hb)).1
  simp only [Hp.grow, if_pos this]; exact hb
theorem Hp.grow_sub {H : Hp} {w w' : World} (h : H.Sub w.hp) (k : Below w.heap.size w w') : (H.grow w w').Sub w'.hp := by
  intro b o hb
  simp only [Hp.grow] at hb
  split at hb
  · rename_i hlt; exact (k.block b hlt).trans (h b o hb)
  · exact hb

/-- What lies still from here on, out of what was known at the start, and new blocks. -/
structure Kept (H0 : Hp) (M00 : Own) (w00 : World) (H : Hp) (M : Own) (w : World) : Prop where
  sub0 : H0.Sub H
  still : ∀ b o, H b = some o → b < w.heap.size ∧ ¬ M b ∧ w.heap[b]? = some o
  old : ∀ b o, b < w00.heap.size → H b = some o → H0 b = some o
  base : Base M00 w00 M w

theorem Kept.start {H0 : Hp} {M : Own} {w : World} (h : H0.Sub w.hp) (hM : ∀ b o, H0 b = some o → ¬ M b) (hr : ∀ b, M.r b → b < w.heap.size) (hh : ∀ b, ¬ M.h b) : Kept H0 M w H0 M w :=
  ⟨Hp.Sub.refl _, fun b o hb => ⟨(Array.getElem?_eq_some_iff.1 (h b o hb)).1, hM b o hb, h b o hb⟩, fun _ _ _ h => h, Base.refl hr hh⟩

theorem Kept.now {H0 H : Hp} {M00 M M1 : Own} {w00 w0 w1 w : World} (k : Kept H0 M00 w00 H M w0) (hB : Base M w0 M1 w1) (hr : HR ν M1 w1 s w) : H.Sub w.hp := by
  intro b o hb
  obtain ⟨h1, h2, h3⟩ := k.still b o hb
  obtain ⟨h4, h5⟩ := hB.frame b h1 h2
  exact (hr.frame b (Nat.lt_of_lt_of_le h1 hB.size) h5).trans (h4.trans h3)

theorem Base.trans {M0 M M1 : Own} {w00 w0 w1 : World} (h : Base M0 w00 M w0) (k : Base M w0 M1 w1) : Base M0 w00 M1 w1 :=
  ⟨Nat.le_trans h.size k.size, k.os.trans h.os, k.tape.trans h.tape, k.output.trans h.output,
   fun b hb hM => by obtain ⟨h1, h2⟩ := h.frame b hb hM; obtain ⟨h3, h4⟩ := k.frame b (Nat.lt_of_lt_of_le hb h.size) h2; exact ⟨h3.trans h1, h4⟩,
   fun b hb => h.own b (k.own b hb), fun b => (k.ro b).trans (h.ro b), fun b hb => h.own b (k.hid b hb), k.rlt⟩

/-- No block is made ahead of its turn here. -/
def noLag (E : Env) (F : SF) : Bool := match F.todo with
  | .drw ops rem _ :: _ => rem.all fun i => !late E ops (Region.before ops) F.tm.nt i
  | _ => true

theorem noLag_ok {F : SF} {fr : Frame} {hl : List Nat} (h : noLag E F = true) (hw : WaitF E ν M w0 hl F fr) : hl = [] := by
  obtain ⟨fn, tm, todo, defers, ret, kind, ro⟩ := F
  obtain ⟨fn', tmps, todo', defers', mode', kind', ro'⟩ := fr
  obtain ⟨_, hret, hmode, hw⟩ := hw
  dsimp only at hw
  cases hw with
  | plain ht hk => rfl
  | drw hok hn d hnl hk =>
    rename_i ops e rem pend L lag z k k' _
    unfold noLag at h
    dsimp only at h
    cases lag with
    | nil => rfl
    | cons q lag =>
      exfalso
      have hm := d.lagrem q List.mem_cons_self
      obtain ⟨o, dd, so, r, h1, h2, h3, _⟩ := d.lagged q List.mem_cons_self
      have := List.all_eq_true.1 h q.1 hm
      have hs : tmps.size = tm.nt := d.size.trans d.tm.size
      rw [hs] at h2
      rw [h2] at this
      cases this

/-- What may turn from here on: the objects that are told, and may be written. -/
def liveOwn (ν : Val) (M : Own) (s : SH) : Own := ⟨fun b => ∃ i x c, i < 2 ^ s.d ∧ s.H.get i = some (x, true) ∧ ν i = some (b, c), M.r, fun _ => False⟩

/-- A call by contract, of a function that turns nothing that was there. -/
theorem Goes.callQ {G F : SF} {g : FuncId} {args : List SV} (hG : enterF E g args .normal = some G) (hlag : noLag E F = true) {H0 H : Hp} {M00 : Own} {w00 : World} (hk : Kept H0 M00 w00 H M w0)
    (hc : ∀ ν' w a, ν.Le ν' → H.Sub w.hp → GR ν' E → VRL ν' args a →
      Calls E.P g a.toArray w fun e w' => Below w.heap.size w w' ∧ ∃ y x, e = .returned y ∧ VR ν' x y ∧ (∀ M2, Kept H0 M00 w00 (H.grow w w') M2 w' →
        ∃ F' s3, finish E F x s = some (F', s3) ∧ s3.ob ∧ Goes E M2 w' cs0 f R ν' ⟨F', [], s3⟩)) : Goes E M w0 cs0 f R ν ⟨G, [F], s⟩ := by
  refine Goes.call hG fun ν' M1 w1 w a cs hle hB hr hg ha hcal => ?_
  have hsub := hk.now hB hr
  refine (hc ν' w a hle hsub hg ha).mono fun e w' ⟨hbel, y, x, he, hv, hnext⟩ => ⟨y, he, fun fr cs' hcs => ?_⟩
  subst hcs
  have hown : ∀ b, (liveOwn ν' M1 s) b → b < w.heap.size ∧ (w1.heap.size ≤ b ∨ M1 b) := by
    rintro b ⟨i, x, c, hi, hx, hb⟩
    obtain ⟨b', o, hb', ho, _, h4⟩ := hr.obj i hi _ hx
    rw [hb] at hb'; cases hb'
    exact ⟨(Array.getElem?_eq_some_iff.1 ho).1, h4 rfl⟩
  have hB2 : Base M w0 (liveOwn ν' M1 s) w' := by
    refine ⟨Nat.le_trans hB.size (Nat.le_trans hr.size hbel.size), hbel.os.trans (hr.os.trans hB.os), hbel.tape.trans (hr.tape.trans hB.tape), hbel.output.trans (hr.output.trans hB.output), fun b hb hM => ?_, fun b hb => ?_, hB.ro, fun b h => h.elim, fun b hb => ?_⟩
    · obtain ⟨h1, h2⟩ := hB.frame b hb hM
      have hb1 := Nat.lt_of_lt_of_le hb hB.size
      refine ⟨(hbel.block b (Nat.lt_of_lt_of_le hb1 hr.size)).trans ((hr.frame b hb1 h2).trans h1), fun hl => ?_⟩
      rcases (hown b hl).2 with h | h
      · omega
      · exact h2 h
    · rcases hb with hb | hb
      · exact .inl (Nat.le_trans hB.size (Nat.le_trans hr.size (Nat.le_trans hbel.size hb)))
      · exact hB.own b (hown b hb).2
    · exact Nat.lt_of_lt_of_le (hB.rlt b hb) (Nat.le_trans hr.size hbel.size)
  have hK2 : Kept H0 M00 w00 (H.grow w w') (liveOwn ν' M1 s) w' := by
    refine ⟨hk.sub0.trans (Hp.sub_grow hsub), fun b o hb => ?_, fun b o hb h => ?_, hk.base.trans hB2⟩
    · have hw' := Hp.grow_sub hsub hbel b o hb
      refine ⟨(Array.getElem?_eq_some_iff.1 hw').1, fun hl => ?_, hw'⟩
      obtain ⟨h1, h2⟩ := hown b hl
      simp only [Hp.grow, if_pos h1] at hb
      obtain ⟨h3, h4, _⟩ := hk.still b o hb
      have h5 := (hB.frame b h3 h4).2
      rcases h2 with h | h
      · have := hB.size; omega
      · exact h5 h
    · have hlt : b < w.heap.size := Nat.lt_of_lt_of_le hb (Nat.le_trans hk.base.size (Nat.le_trans hB.size hr.size))
      simp only [Hp.grow, if_pos hlt] at h
      exact hk.old b o hb h
  obtain ⟨F', s3, hfin, ob, hsafe⟩ := hnext _ hK2
  have hr2 : HR ν' (liveOwn ν' M1 s) w' s w' := by
    have hg := hr.grow hbel
    refine ⟨hg.full, hg.dom, hg.fresh, fun i hi x hx => ?_, hg.inj, Nat.le_refl _, fun _ _ _ => rfl, hg.ro, rfl, rfl, rfl⟩
    obtain ⟨b, o, h1, h2, h3, h4⟩ := hg.obj i hi x hx
    refine ⟨b, o, h1, h2, h3, fun hm => .inr ⟨i, x.1, b.2, hi, ?_, h1⟩⟩
    rw [hx, ← hm]
  cases hcal with
  | wait hw ht =>
  have hhl := noLag_ok hlag hw
  subst hhl
  have hw2 : WaitF E ν' (liveOwn ν' M1 s) w' [] F fr := ⟨hw.base, hw.ret, hw.mode, hw.todo.rebase fun b hb => by cases hb⟩
  have ht2 : CallersR E ν' (liveOwn ν' M1 s) w' cs0 [] F.kind [] cs' := by
    generalize F.kind = kk at ht
    cases ht with
    | nil h => exact .nil List.nodup_nil
  obtain ⟨_, hMR⟩ := finish_MR hw2 hr2 hg hv hfin ht2 ob
  exact hsafe ν' _ _ _ (Val.Le.refl _) (Base.refl (fun b hb => hB2.rlt b hb) fun b h => h) hMR
end
end Go.Rx
