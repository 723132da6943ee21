/- The symbolic executor 'Rx', part YI: proofs in pieces: from a state on all goes well; runs, ends, calls by contract. By an AI agent. -/
import Derived.Test.YtiggmgcnjmalfaaGreatDoorRyA
import Derived.Deep.Slices
import Derived.Deep.Fields
import Derived.Lib.Join
import Derived.Lib.SplitLaws
import Derived.SevenTiedAt
import Derived.Stop.Joined
import Derived.Lib.LaidTab
set_option linter.unusedVariables false
set_option linter.unusedSimpArgs false
namespace Go.Rx
open Go.RowKit (Below)
section
variable {E : Env} {ν : Val} {M : Own} {w0 w : World} {s s' : SH} {cs0 : List Frame} {f : FuncId} {R : Ending → World → Prop}

/-- From this machine on the call comes to its end as it is told. -/
def Fin (P : Program) (f : FuncId) (cs0 : List Frame) (R : Ending → World → Prop) (m : Machine) : Prop :=
  ∃ e w' fr, R e w' ∧ Comes P m (lone fr cs0 w') e ∧ fr.fn = f ∧ fr.leaving P w' e

theorem Fin.steps {P : Program} {m m' : Machine} (h : Steps P m m') (k : Fin P f cs0 R m') : Fin P f cs0 R m := by
  obtain ⟨e, w', fr, h1, h2, h3, h4⟩ := k
  exact ⟨e, w', fr, h1, Comes.of_steps h h2, h3, h4⟩

/-- .. whatever machine this state stands for. -/
def Goes (E : Env) (M : Own) (w0 : World) (cs0 : List Frame) (f : FuncId) (R : Ending → World → Prop) (ν : Val) (S : SM) : Prop :=
  ∀ ν' m M1 w1, ν.Le ν' → Base M w0 M1 w1 → MR E M1 w1 cs0 ν' S m → Fin E.P f cs0 R m

/-- A state with an oracle, from which nothing is owed yet. -/
def SM.with (S : SM) (o : List (Nat × Ans)) : SM := { S with mem := { S.mem with obl := [], dc := 0, orc := fun n => o.lookup n, soft := !o.isEmpty } }

theorem HR.with (h : HR ν M w0 s w) (l : List Prop) (n : Nat) (o : Nat → Option Ans) (b : Bool) : HR ν M w0 { s with obl := l, dc := n, orc := o, soft := b } w := ⟨h.full, h.dom, h.fresh, h.obj, h.inj, h.size, h.frame, h.ro, h.os, h.tape, h.output⟩

theorem MR.with {S : SM} {m : Machine} (h : MR E M w0 cs0 ν S m) (l : List Prop) (n : Nat) (o : Nat → Option Ans) (b : Bool) : MR E M w0 cs0 ν { S with mem := { S.mem with obl := l, dc := n, orc := o, soft := b } } m := by
  obtain ⟨fr, cs, w, hl, hm, hr, hg, ⟨h1, h2, h3⟩, hc⟩ := h
  refine ⟨fr, cs, w, hl, hm, hr.with l n o b, hg, ⟨h1, fun hf => ⟨(h2 hf).1, ?_⟩, h3⟩, hc⟩
  have := (h2 hf).2
  revert this
  generalize S.top.todo = xs
  generalize fr.todo = ys
  intro this
  cases this with
  | plain ht hk => exact .plain ht hk
  | drw hok hn d st hk => exact .drw hok hn d (fun M' w0' w' hr' => st M' w0' w' (hr'.with S.mem.obl S.mem.dc S.mem.orc S.mem.soft)) hk

/-- A state runs to others. -/
theorem Goes.run (K : Facts E M w0) {stop : SM → Bool} {n : Nat} {S : SM} {o : List (Nat × Ans)} {Ls : List SM} (h : run E stop n [S.with o] [] = some Ls)
    (hs : ∀ T ∈ Ls, T.mem.ob ∧ Goes E M w0 cs0 f R ν T) : Goes E M w0 cs0 f R ν S := by
  intro ν' m M1 w1 hle hB hm
  obtain ⟨_, _, h3⟩ := run_ok (cs0 := cs0) K h
  obtain ⟨S', hS', hS⟩ := h3 _ (List.mem_singleton.2 rfl) ν' m M1 w1 hB (hm.with [] 0 _ _)
  obtain ⟨ob, hsafe⟩ := hs S' hS'
  obtain ⟨_, ν2, m', M2, w2, hle2, hst, hB2, hMR⟩ := hS ob
  exact (hsafe ν2 m' M2 w2 (hle.trans hle2) hB2 hMR).steps hst

/-- A way that does not part. -/
def goS (E : Env) (stop : SM → Bool) : Nat → SM → Option SM
  | 0, S => bif stop S then some S else none
  | n + 1, S => bif stop S then some S else match step1 E S with
    | some [T] => goS E stop n T
    | _ => none

theorem goS_run {stop : SM → Bool} : ∀ {n : Nat} {S T : SM}, goS E stop n S = some T → Go.Rx.run E stop (n + 1) [S] [] = some [T]
  | 0, S, T, h => by
    unfold goS at h
    unfold Go.Rx.run
    cases hs : stop S
    · rw [hs] at h; cases h
    · rw [hs] at h; cases h; simp only [cond_true]; exact run_nil
  | n + 1, S, T, h => by
    unfold goS at h
    unfold Go.Rx.run
    cases hs : stop S
    · rw [hs] at h
      simp only [cond_false] at h ⊢
      split at h
      · rename_i U hU
        rw [hU]
        exact goS_run h
      · cases h
    · rw [hs] at h; cases h; simp only [cond_true]; exact run_nil

theorem Goes.go (K : Facts E M w0) {stop : SM → Bool} {n : Nat} {S T : SM} {o : List (Nat × Ans)} (h : goS E stop n (S.with o) = some T) (ob : T.mem.ob) (hs : Goes E M w0 cs0 f R ν T) : Goes E M w0 cs0 f R ν S :=
  Goes.run K (goS_run h) fun U hU => by rw [List.mem_singleton.1 hU]; exact ⟨ob, hs⟩

/-- The call has come to its end. -/
theorem Goes.done {S : SM} {x : SV} (hend : endS E f S = some (x, s')) (hob : s'.ob)
    (hR : ∀ ν' M1 w1 w' v, ν.Le ν' → Base M w0 M1 w1 → VR ν' x v → HR ν' M1 w1 s' w' → GR ν' E → R (.returned v) w') : Goes E M w0 cs0 f R ν S := by
  intro ν' m M1 w1 hle hB hm
  unfold endS at hend
  cases hov : (S.over && Nat.beq S.top.fn f)
  · rw [hov] at hend; cases hend
  · rw [hov] at hend
    simp only [cond_true] at hend
    rw [Bool.and_eq_true] at hov
    obtain ⟨hov, hfn⟩ := hov
    have hfn := Nat.eq_of_beq_eq_true hfn
    unfold SM.over at hov
    rw [Bool.and_eq_true, Bool.and_eq_true] at hov
    obtain ⟨⟨hcal, hret⟩, hdef⟩ := hov
    split at hend
    · rename_i fn hf
      obtain ⟨fr, cs, w', hl, rfl, hr', hg', htop', hc'⟩ := hm
      obtain ⟨hmode, htm⟩ := htop'.ret hret
      obtain ⟨hsame, hobr⟩ := results_ok (E := E) htm hr' hend
      obtain ⟨_, v, hv, hvr⟩ := hobr hob
      have hcs : S.callers = [] := List.isEmpty_iff.1 hcal
      rw [hcs] at hc'
      have hk : S.top.kind = .normal ∧ cs = cs0 := by
        generalize hkk : S.top.kind = kk at hc'
        cases hc' with
        | nil _ => exact ⟨rfl, rfl⟩
      obtain ⟨hk, rfl⟩ := hk
      have hd := htop'.base.defers
      rw [List.isEmpty_iff.1 hdef] at hd
      refine ⟨.returned v, w', fr, hR ν' M1 w1 w' v hle hB hvr (hr'.same hsame) hg', Steps.refl _ _, by rw [htop'.base.fn]; exact hfn, hmode, hd, by rw [htop'.base.kind]; exact hk, fn, ?_, hv⟩
      rw [htop'.base.fn, hfn]; exact hf
    · cases hend

/-- What is proved in pieces, of a call. -/
theorem calls_of_safe {args : List SV} {a : List Value} {s0 : SH} {S0 : SM} (hS0 : enterS E f args s0 = some S0) (hr : HR ν M w0 s0 w) (hro : ∀ b, M.r b → b < w0.heap.size) (hh : ∀ b, ¬ M.h b)
    (hg : GR ν E) (ha : VRL ν args a) (hs : ∀ cs0, Goes E M w0 cs0 f R ν S0) : Calls E.P f a.toArray w R := by
  intro cs0
  unfold enterS at hS0
  cases hG : enterF E f args .normal with
  | none => rw [hG] at hS0; cases hS0
  | some G =>
  rw [hG] at hS0; cases hS0
  obtain ⟨htop, hkind, _⟩ := enterF_ok (E := E) hG ha _
  have hm : MR E M w0 cs0 ν { top := G, callers := [], mem := s0 } (lone (Frame.enter E.P f a.toArray .normal) cs0 w) :=
    ⟨_, _, w, [], rfl, hr, hg, htop, by show CallersR E ν M w0 cs0 [] G.kind [] cs0; rw [hkind]; exact .nil List.nodup_nil⟩
  exact hs cs0 ν _ M w0 (Val.Le.refl _) (Base.refl hro hh) hm

/-! ### a call by contract -/

theorem args_of (ν : Val) : ∀ {l : List SV} {a : Nat → Value}, (∀ t x, l[t]? = some x → VR ν x (a t)) → VRL ν l ((List.range l.length).map a)
  | [], a, _ => by simpa using VRL.nil
  | x :: l, a, h => by
    rw [List.length_cons, List.range_succ_eq_map, List.map_cons, List.map_map]
    exact VRL.cons (h 0 x rfl) (args_of ν (l := l) (a := a ∘ Nat.succ) fun t y hy => h (t + 1) y (by simpa using hy))

/-- A frame that has just been entered is the one that a call begins with. -/
theorem entered {g : FuncId} {args : List SV} {G : SF} {fr : Frame} {hl : List Nat} (hG : enterF E g args .normal = some G) (ht : TopR E ν M w0 hl s G fr) :
    ∃ xs : List Value, VRL ν args xs ∧ fr = Frame.enter E.P g xs.toArray .normal := by
  unfold enterF at hG
  split at hG
  · rename_i fn hfn
    split at hG
    · rename_i c hc
      cases hm : mkTm fn.ntmps args with
      | none => rw [hm] at hG; cases hG
      | some tm =>
      rw [hm] at hG; cases hG
      obtain ⟨⟨h1, h2, h3, h4⟩, hrun, _⟩ := ht
      obtain ⟨hmode, hR⟩ := hrun rfl
      dsimp only at h1 h2 h3 h4 hR
      cases hR with
      | plain hT hk =>
      unfold mkTm at hm
      cases hcc : (Nat.ble args.length fn.ntmps && Nat.ble fn.ntmps (2 ^ depthOf fn.ntmps))
      · rw [hcc] at hm; cases hm
      rw [hcc] at hm; cases hm
      rw [Bool.and_eq_true, Nat.ble_eq, Nat.ble_eq] at hcc
      obtain ⟨hle, hn⟩ := hcc
      obtain ⟨hf, hget⟩ := mkGo_ok (depthOf fn.ntmps) args 0 (Tr.mk (.v undef) (depthOf fn.ntmps)) (Tr.full_mk _ _) (by omega)
      have hT' : ∀ t, t < fn.ntmps → VR ν ((args[t]?).getD (.v undef)) (fr.tmps.getD t undef) := by
        intro t ht
        have := hT.get t ht
        have e := hget t (by omega)
        rw [if_pos (Nat.zero_le _), Tr.get_mk, Nat.sub_zero] at e
        dsimp only at this
        rw [e] at this; exact this
      have hsz : fr.tmps.size = fn.ntmps := hT.size
      refine ⟨(List.range args.length).map fun t => fr.tmps.getD t undef, args_of ν fun t x hx => ?_, ?_⟩
      · have hlt := (List.getElem?_eq_some_iff.1 hx).1
        have := hT' t (by omega)
        rw [hx] at this; exact this
      · have htm : fr.tmps = ((List.range args.length).map fun t => fr.tmps.getD t undef).toArray ++ Array.replicate (fn.ntmps - ((List.range args.length).map fun t => fr.tmps.getD t undef).toArray.size) undef := by
          apply Array.ext
          · simp; omega
          · intro t ht1 ht2
            rw [Array.getElem_append]
            split
            · rename_i hlt
              simp [ht1]
            · rename_i hge
              have hge : args.length ≤ t := by simpa using hge
              have := hT' t (by omega)
              rw [List.getElem?_eq_none hge] at this
              have e := VR.v_iff.1 this
              have e2 : fr.tmps.getD t undef = fr.tmps[t] := by simp [Array.getD, ht1]
              rw [← e2, e]
              simp
        have hks : fr.todo = [.code c] := by
          generalize fr.todo = ys at hk
          cases hk with
          | cons hx hk => cases hx; cases hk; rfl
        have hd : fr.defers = [] := h2
        have hro : fr.roundOf = none := h4
        generalize hxs : ((List.range args.length).map fun t => fr.tmps.getD t undef) = xs at htm
        obtain ⟨f1, f2, f3, f4, f5, f6, f7⟩ := fr
        dsimp only at *
        subst h1 hd h3 hro hmode hks
        simp only [Frame.enter, hfn, Option.map_some, Option.getD_some, Option.bind_some, hc]
        congr 1
    · cases hG
  · cases hG

/-- A call of which a contract is known. -/
theorem Goes.call {G F : SF} {Fs : List SF} {g : FuncId} {args : List SV} (hG : enterF E g args .normal = some G)
    (hc : ∀ ν' M1 w1 w a cs, ν.Le ν' → Base M w0 M1 w1 → HR ν' M1 w1 s w → GR ν' E → VRL ν' args a → CallersR E ν' M1 w1 cs0 [] .normal (F :: Fs) cs →
      Calls E.P g a.toArray w fun e w' => ∃ y, e = .returned y ∧ ∀ fr cs', cs = fr :: cs' → Fin E.P f cs0 R (lone (fr.finish y) cs' w')) : Goes E M w0 cs0 f R ν ⟨G, F :: Fs, s⟩ := by
  intro ν' m M1 w1 hle hB hm
  obtain ⟨fr, cs, w, hl, rfl, hr, hg, htop, hcal⟩ := hm
  obtain ⟨xs, hxs, rfl⟩ := entered hG htop
  have hcal := hcal.clear
  have hk : G.kind = .normal := by
    unfold enterF at hG
    split at hG
    · split at hG
      · obtain ⟨tm, _, h⟩ := Option.map_eq_some_iff.1 hG
        rw [← h]
      · cases hG
    · cases hG
  dsimp only at hcal
  rw [hk] at hcal
  have hC := hc ν' M1 w1 w xs cs hle hB hr hg hxs hcal
  cases hcal with
  | wait hw ht =>
  rename_i fr0 cs1
  obtain ⟨e, w', fr, ⟨y, rfl, hfin⟩, hcomes, _, hleave⟩ := hC (fr0 :: cs1)
  refine (hfin fr0 cs1 rfl).steps (Steps.trans hcomes (.one (step_leave_returned hleave)))

/-! ### what lies still -/

/-- A heap, in part. -/
abbrev Hp := Nat → Option Obj
def Hp.Sub (H H' : Hp) : Prop := ∀ b o, H b = some o → H' b = some o
theorem Hp.Sub.refl (H : Hp) : H.Sub H := fun _ _ h => h
theorem Hp.Sub.trans {A B C : Hp} (h : A.Sub B) (k : B.Sub C) : A.Sub C := fun b o e => k b o (h b o e)
def _root_.Go.World.hp (w : World) : Hp := fun b => w.heap[b]?
/-- What is known of a heap, and all that is new since. -/
def Hp.grow (H : Hp) (w w' : World) : Hp := fun b => if b < w.heap.size then H b else w'.heap[b]?
theorem Hp.sub_grow {H : Hp} {w w' : World} (h : H.Sub w.hp) : H.Sub (H.grow w w') := by
  intro b o hb
  have := (Array.getElem?_eq_some_iff.1 (h b o hb)).1
  simp only [Hp.grow, if_pos this]; exact hb
theorem Hp.grow_sub {H : Hp} {w w' : World} (h : H.Sub w.hp) (k : Below w.heap.size w w') : (H.grow w w').Sub w'.hp := by
  intro b o hb
  simp only [Hp.grow] at hb
  split at hb
  · rename_i hlt; exact (k.block b hlt).trans (h b o hb)
  · exact hb

/-- What lies still from here on, out of what was known at the start, and new blocks. -/
structure Kept (H0 : Hp) (M00 : Own) (w00 : World) (H : Hp) (M : Own) (w : World) : Prop where
  sub0 : H0.Sub H
  still : ∀ b o, H b = some o → b < w.heap.size ∧ ¬ M b ∧ w.heap[b]? = some o
  old : ∀ b o, b < w00.heap.size → H b = some o → H0 b = some o
  base : Base M00 w00 M w

theorem Kept.start {H0 : Hp} {M : Own} {w : World} (h : H0.Sub w.hp) (hM : ∀ b o, H0 b = some o → ¬ M b) (hr : ∀ b, M.r b → b < w.heap.size) (hh : ∀ b, ¬ M.h b) : Kept H0 M w H0 M w :=
  ⟨Hp.Sub.refl _, fun b o hb => ⟨(Array.getElem?_eq_some_iff.1 (h b o hb)).1, hM b o hb, h b o hb⟩, fun _ _ _ h => h, Base.refl hr hh⟩

theorem Kept.now {H0 H : Hp} {M00 M M1 : Own} {w00 w0 w1 w : World} (k : Kept H0 M00 w00 H M w0) (hB : Base M w0 M1 w1) (hr : HR ν M1 w1 s w) : H.Sub w.hp := by
  intro b o hb
  obtain ⟨h1, h2, h3⟩ := k.still b o hb
  obtain ⟨h4, h5⟩ := hB.frame b h1 h2
  exact (hr.frame b (Nat.lt_of_lt_of_le h1 hB.size) h5).trans (h4.trans h3)

theorem Base.trans {M0 M M1 : Own} {w00 w0 w1 : World} (h : Base M0 w00 M w0) (k : Base M w0 M1 w1) : Base M0 w00 M1 w1 :=
  ⟨Nat.le_trans h.size k.size, k.os.trans h.os, k.tape.trans h.tape, k.output.trans h.output,
   fun b hb hM => by obtain ⟨h1, h2⟩ := h.frame b hb hM; obtain ⟨h3, h4⟩ := k.frame b (Nat.lt_of_lt_of_le hb h.size) h2; exact ⟨h3.trans h1, h4⟩,
   fun b hb => h.own b (k.own b hb), fun b => (k.ro b).trans (h.ro b), fun b hb => h.own b (k.hid b hb), k.rlt⟩

/-- No block is made ahead of its turn here. -/
def noLag (E : Env) (F : SF) : Bool := match F.todo with
  | .drw ops rem _ :: _ => rem.all fun i => !late E ops (Region.before ops) F.tm.nt i
  | _ => true

theorem noLag_ok {F : SF} {fr : Frame} {hl : List Nat} (h : noLag E F = true) (hw : WaitF E ν M w0 hl F fr) : hl = [] := by
  obtain ⟨fn, tm, todo, defers, ret, kind, ro⟩ := F
  obtain ⟨fn', tmps, todo', defers', mode', kind', ro'⟩ := fr
  obtain ⟨_, hret, hmode, hw⟩ := hw
  dsimp only at hw
  cases hw with
  | plain ht hk => rfl
  | drw hok hn d hnl hk =>
    rename_i ops e rem pend L lag z k k' _
    unfold noLag at h
    dsimp only at h
    cases lag with
    | nil => rfl
    | cons q lag =>
      exfalso
      have hm := d.lagrem q List.mem_cons_self
      obtain ⟨o, dd, so, r, h1, h2, h3, _⟩ := d.lagged q List.mem_cons_self
      have := List.all_eq_true.1 h q.1 hm
      have hs : tmps.size = tm.nt := d.size.trans d.tm.size
      rw [hs] at h2
      rw [h2] at this
      cases this

/-- What may turn from here on: the objects that are told, and may be written. -/
def liveOwn (ν : Val) (M : Own) (s : SH) : Own := ⟨fun b => ∃ i x c, i < 2 ^ s.d ∧ s.H.get i = some (x, true) ∧ ν i = some (b, c), M.r, fun _ => False⟩

/-- A call by contract, of a function that turns nothing that was there. -/
theorem Goes.callQ {G F : SF} {g : FuncId} {args : List SV} (hG : enterF E g args .normal = some G) (hlag : noLag E F = true) {H0 H : Hp} {M00 : Own} {w00 : World} (hk : Kept H0 M00 w00 H M w0)
    (hc : ∀ ν' w a, ν.Le ν' → H.Sub w.hp → GR ν' E → VRL ν' args a →
      Calls E.P g a.toArray w fun e w' => Below w.heap.size w w' ∧ ∃ y x, e = .returned y ∧ VR ν' x y ∧ (∀ M2, Kept H0 M00 w00 (H.grow w w') M2 w' →
        ∃ F' s3, finish E F x s = some (F', s3) ∧ s3.ob ∧ Goes E M2 w' cs0 f R ν' ⟨F', [], s3⟩)) : Goes E M w0 cs0 f R ν ⟨G, [F], s⟩ := by
  refine Goes.call hG fun ν' M1 w1 w a cs hle hB hr hg ha hcal => ?_
  have hsub := hk.now hB hr
  refine (hc ν' w a hle hsub hg ha).mono fun e w' ⟨hbel, y, x, he, hv, hnext⟩ => ⟨y, he, fun fr cs' hcs => ?_⟩
  subst hcs
  have hown : ∀ b, (liveOwn ν' M1 s) b → b < w.heap.size ∧ (w1.heap.size ≤ b ∨ M1 b) := by
    rintro b ⟨i, x, c, hi, hx, hb⟩
    obtain ⟨b', o, hb', ho, _, h4⟩ := hr.obj i hi _ hx
    rw [hb] at hb'; cases hb'
    exact ⟨(Array.getElem?_eq_some_iff.1 ho).1, h4 rfl⟩
  have hB2 : Base M w0 (liveOwn ν' M1 s) w' := by
    refine ⟨Nat.le_trans hB.size (Nat.le_trans hr.size hbel.size), hbel.os.trans (hr.os.trans hB.os), hbel.tape.trans (hr.tape.trans hB.tape), hbel.output.trans (hr.output.trans hB.output), fun b hb hM => ?_, fun b hb => ?_, hB.ro, fun b h => h.elim, fun b hb => ?_⟩
    · obtain ⟨h1, h2⟩ := hB.frame b hb hM
      have hb1 := Nat.lt_of_lt_of_le hb hB.size
      refine ⟨(hbel.block b (Nat.lt_of_lt_of_le hb1 hr.size)).trans ((hr.frame b hb1 h2).trans h1), fun hl => ?_⟩
      rcases (hown b hl).2 with h | h
      · omega
      · exact h2 h
    · rcases hb with hb | hb
      · exact .inl (Nat.le_trans hB.size (Nat.le_trans hr.size (Nat.le_trans hbel.size hb)))
      · exact hB.own b (hown b hb).2
    · exact Nat.lt_of_lt_of_le (hB.rlt b hb) (Nat.le_trans hr.size hbel.size)
  have hK2 : Kept H0 M00 w00 (H.grow w w') (liveOwn ν' M1 s) w' := by
    refine ⟨hk.sub0.trans (Hp.sub_grow hsub), fun b o hb => ?_, fun b o hb h => ?_, hk.base.trans hB2⟩
    · have hw' := Hp.grow_sub hsub hbel b o hb
      refine ⟨(Array.getElem?_eq_some_iff.1 hw').1, fun hl => ?_, hw'⟩
      obtain ⟨h1, h2⟩ := hown b hl
      simp only [Hp.grow, if_pos h1] at hb
      obtain ⟨h3, h4, _⟩ := hk.still b o hb
      have h5 := (hB.frame b h3 h4).2
      rcases h2 with h | h
      · have := hB.size; omega
      · exact h5 h
    · have hlt : b < w.heap.size := Nat.lt_of_lt_of_le hb (Nat.le_trans hk.base.size (Nat.le_trans hB.size hr.size))
      simp only [Hp.grow, if_pos hlt] at h
      exact hk.old b o hb h
  obtain ⟨F', s3, hfin, ob, hsafe⟩ := hnext _ hK2
  have hr2 : HR ν' (liveOwn ν' M1 s) w' s w' := by
    have hg := hr.grow hbel
    refine ⟨hg.full, hg.dom, hg.fresh, fun i hi x hx => ?_, hg.inj, Nat.le_refl _, fun _ _ _ => rfl, hg.ro, rfl, rfl, rfl⟩
    obtain ⟨b, o, h1, h2, h3, h4⟩ := hg.obj i hi x hx
    refine ⟨b, o, h1, h2, h3, fun hm => .inr ⟨i, x.1, b.2, hi, ?_, h1⟩⟩
    rw [hx, ← hm]
  cases hcal with
  | wait hw ht =>
  have hhl := noLag_ok hlag hw
  subst hhl
  have hw2 : WaitF E ν' (liveOwn ν' M1 s) w' [] F fr := ⟨hw.base, hw.ret, hw.mode, hw.todo.rebase fun b hb => by cases hb⟩
  have ht2 : CallersR E ν' (liveOwn ν' M1 s) w' cs0 [] F.kind [] cs' := by
    generalize F.kind = kk at ht
    cases ht with
    | nil h => exact .nil List.nodup_nil
  obtain ⟨_, hMR⟩ := finish_MR hw2 hr2 hg hv hfin ht2 ob
  exact hsafe ν' _ _ _ (Val.Le.refl _) (Base.refl (fun b hb => hB2.rlt b hb) fun b h => h) hMR
end
end Go.Rx
set_option linter.unusedVariables false
set_option linter.unusedSimpArgs false
namespace Go.Rx
open Go.RowKit (Below)

/-- Numbers of objects are told anew. -/
def Val.ren (ν : Val) (ren : List (Nat × Nat)) : Val := fun i => (ren.lookup i).bind ν

def aggOf : SV → Option (List SV)
  | .agg m => some m
  | .v (.agg cs) => some (cs.toList.map .v)
  | _ => none
def tupOf : SV → Option (List SV)
  | .tup m => some m
  | .v (.tuple cs) => some (cs.toList.map .v)
  | _ => none
def ifaceOf : SV → Option (TypeId × SV)
  | .iface u y => some (u, y)
  | .v (.iface u y) => some (u, .v y)
  | _ => none

theorem aggOf_ok {ν : Val} {b : SV} {m : List SV} {y : Value} (h : aggOf b = some m) (hv : VR ν b y) : ∃ a : List Value, y = .agg a.toArray ∧ VRL ν m a := by
  unfold aggOf at h
  split at h
  · cases h; exact VR.agg_iff.1 hv
  · rename_i cs
    cases h; rw [VR.v_iff.1 hv]; exact ⟨cs.toList, by simp, VRL.lits ν _⟩
  · cases h
theorem tupOf_ok {ν : Val} {b : SV} {m : List SV} {y : Value} (h : tupOf b = some m) (hv : VR ν b y) : ∃ a : List Value, y = .tuple a.toArray ∧ VRL ν m a := by
  unfold tupOf at h
  split at h
  · cases h; exact VR.tup_iff.1 hv
  · rename_i cs
    cases h; rw [VR.v_iff.1 hv]; exact ⟨cs.toList, by simp, VRL.lits ν _⟩
  · cases h
theorem ifaceOf_ok {ν : Val} {b : SV} {u : TypeId} {z : SV} {y : Value} (h : ifaceOf b = some (u, z)) (hv : VR ν b y) : ∃ v, y = .iface u v ∧ VR ν z v := by
  unfold ifaceOf at h
  split at h
  · cases h; exact VR.iface_iff.1 hv
  · cases h; exact ⟨_, VR.v_iff.1 hv, VR.v_iff.2 rfl⟩
  · cases h

mutual
/-- What is owed for the first to stand for whatever the second stands for. -/
def leV (ren : List (Nat × Nat)) : SV → SV → List Prop
  | .junk => fun _ => []
  | .v x => fun b => match plainV b with | some z => [z = x] | none => [False]
  | .ptr j o => fun b => match b with | .ptr i o' => bif ren.lookup j == some i then [o' = o] else [False] | _ => [False]
  | .sl j o l c => fun b => match b with | .sl i o' l' c' => bif ren.lookup j == some i then [o' = o ∧ l' = l ∧ c' = c] else [False] | _ => [False]
  | .map j => fun b => match b with | .map i => bif ren.lookup j == some i then [] else [False] | _ => [False]
  | .agg l => fun b => match aggOf b with | some m => leL ren l m | none => [False]
  | .tup l => fun b => match tupOf b with | some m => leL ren l m | none => [False]
  | .iface t x => fun b => match ifaceOf b with | some (u, y) => bif t == u then leV ren x y else [False] | none => [False]
  | .func fn p q => fun b => match b with | .func gn c d => (gn = fn) :: (leL ren p c ++ leL ren q d) | _ => [False]
  | .yield _ => fun _ => [False]
  | .fin j o l a => fun b => match b with | .fin i o' l' a' => bif ren.lookup j == some i then [o' = o ∧ l' = l ∧ a' = a] else [False] | _ => [False]
def leL (ren : List (Nat × Nat)) : List SV → List SV → List Prop
  | [] => fun m => match m with | [] => [] | _ => [False]
  | x :: xs => fun m => match m with | y :: ys => leV ren x y ++ leL ren xs ys | [] => [False]
end

theorem Owed.both : ∀ {l m : List Prop}, Owed l → Owed m → Owed (l ++ m)
  | [], _, _, k => k
  | _ :: _, _, h, k => ⟨Owed.both h.1 k, h.2⟩
theorem owed_app {l m : List Prop} : Owed (l ++ m) ↔ Owed l ∧ Owed m := ⟨Owed.append, fun ⟨h, k⟩ => h.both k⟩
theorem owed_one {p : Prop} : Owed [p] ↔ p := ⟨fun h => h.2, fun h => ⟨trivial, h⟩⟩
theorem owed_cons {p : Prop} {l : List Prop} : Owed (p :: l) ↔ Owed l ∧ p := Iff.rfl
theorem owed_false {q : Prop} (h : Owed [False]) : q := (owed_one.1 h).elim

theorem owed_bif {b : Bool} {l : List Prop} (h : Owed (bif b then l else [False])) : b = true ∧ Owed l := by
  cases b
  · exact owed_false h
  · exact ⟨rfl, h⟩

theorem ren_at {ν : Val} {ren : List (Nat × Nat)} {j i : Nat} (h : (ren.lookup j == some i) = true) {b : Nat × Nat} (hb : ν i = some b) : (ν.ren ren) j = some b := by
  unfold Val.ren
  rw [show ren.lookup j = some i by simpa using h]; exact hb

mutual
theorem leV_ok {ν : Val} {ren : List (Nat × Nat)} : ∀ {a b : SV} {y : Value}, Owed (leV ren a b) → VR ν b y → VR (ν.ren ren) a y
  | .junk, _, _, _, _ => by rw [VR]; trivial
  | .v x, b, y, h, hv => by
    rw [leV] at h
    dsimp only at h
    split at h
    · rename_i z hz
      rw [VR, plainV_ok hz hv]; exact owed_one.1 h
    · exact owed_false h
  | .ptr j o, b, y, h, hv => by
    rw [leV] at h
    dsimp only at h
    split at h
    · obtain ⟨h1, h2⟩ := owed_bif h
      obtain ⟨c, hc, rfl⟩ := VR.ptr_iff.1 hv
      obtain rfl := owed_one.1 h2
      exact VR.ptr_iff.2 ⟨c, ren_at h1 hc, rfl⟩
    · exact owed_false h
  | .sl j o l c, b, y, h, hv => by
    rw [leV] at h
    dsimp only at h
    split at h
    · obtain ⟨h1, h2⟩ := owed_bif h
      obtain ⟨d, hd, hl, rfl⟩ := VR.sl_iff.1 hv
      obtain ⟨rfl, rfl, rfl⟩ := owed_one.1 h2
      exact VR.sl_iff.2 ⟨d, ren_at h1 hd, hl, rfl⟩
    · exact owed_false h
  | .map j, b, y, h, hv => by
    rw [leV] at h
    dsimp only at h
    split at h
    · obtain ⟨h1, _⟩ := owed_bif h
      obtain ⟨d, hd, rfl⟩ := VR.map_iff.1 hv
      exact VR.map_iff.2 ⟨d, ren_at h1 hd, rfl⟩
    · exact owed_false h
  | .agg l, b, y, h, hv => by
    rw [leV] at h
    dsimp only at h
    split at h
    · rename_i m hm
      obtain ⟨a, rfl, ha⟩ := aggOf_ok hm hv
      exact VR.agg_iff.2 ⟨a, rfl, leL_ok h ha⟩
    · exact owed_false h
  | .tup l, b, y, h, hv => by
    rw [leV] at h
    dsimp only at h
    split at h
    · rename_i m hm
      obtain ⟨a, rfl, ha⟩ := tupOf_ok hm hv
      exact VR.tup_iff.2 ⟨a, rfl, leL_ok h ha⟩
    · exact owed_false h
  | .iface t x, b, y, h, hv => by
    rw [leV] at h
    dsimp only at h
    split at h
    · rename_i u z hz
      obtain ⟨h1, h2⟩ := owed_bif h
      obtain rfl : t = u := by simpa using h1
      obtain ⟨v, rfl, hv'⟩ := ifaceOf_ok hz hv
      exact VR.iface_iff.2 ⟨v, rfl, leV_ok h2 hv'⟩
    · exact owed_false h
  | .func fn p q, b, y, h, hv => by
    rw [leV] at h
    dsimp only at h
    split at h
    · obtain ⟨h1, h2⟩ := owed_cons.1 h
      obtain ⟨h3, h4⟩ := owed_app.1 h1
      obtain rfl := h2
      obtain ⟨a', b', rfl, ha, hb⟩ := VR.func_iff.1 hv
      exact VR.func_iff.2 ⟨a', b', rfl, leL_ok h3 ha, leL_ok h4 hb⟩
    · exact owed_false h
  | .yield _, b, y, h, hv => by rw [leV] at h; exact owed_false h
  | .fin j o l a, b, y, h, hv => by
    rw [leV] at h
    dsimp only at h
    split at h
    · obtain ⟨h1, h2⟩ := owed_bif h
      obtain ⟨d, hd, rfl⟩ := VR.fin_iff.1 hv
      obtain ⟨rfl, rfl, rfl⟩ := owed_one.1 h2
      exact VR.fin_iff.2 ⟨d, ren_at h1 hd, rfl⟩
    · exact owed_false h
theorem leL_ok {ν : Val} {ren : List (Nat × Nat)} : ∀ {l m : List SV} {ys : List Value}, Owed (leL ren l m) → VRL ν m ys → VRL (ν.ren ren) l ys
  | [], m, ys, h, hv => by
    rw [leL] at h
    dsimp only at h
    split at h
    · rw [hv.nil_inv]; exact VRL.nil
    · exact owed_false h
  | x :: xs, m, zs, h, hv => by
    rw [leL] at h
    dsimp only at h
    split at h
    · obtain ⟨h1, h2⟩ := owed_app.1 h
      obtain ⟨u, us, rfl, hu, hus⟩ := hv.cons_inv
      exact VRL.cons (leV_ok h1 hu) (leL_ok h2 hus)
    · exact owed_false h
end

/-! ### objects -/

/-- Values that name no object. -/
def closedSV : SV → Bool
  | .v _ | .junk => true
  | _ => false
theorem closed_VRL {ν ν' : Val} : ∀ {l : List SV} {ys : List Value}, l.all closedSV = true → VRL ν l ys → VRL ν' l ys
  | [], _, _, h => by rw [h.nil_inv]; exact VRL.nil
  | x :: xs, ys, hc, h => by
    obtain ⟨u, us, rfl, hu, hus⟩ := h.cons_inv
    simp only [List.all_cons, Bool.and_eq_true] at hc
    refine VRL.cons ?_ (closed_VRL hc.2 hus)
    cases x <;> first | (rw [VR]; trivial) | (rw [VR]; exact VR.v_iff.1 hu) | (cases hc.1)

def leRow (ren : List (Nat × Nat)) (eq : Bool) (xs ys : List SV) : List Prop := bif eq then [ys = xs, xs.all closedSV = true] else leL ren xs ys
theorem leRow_ok {ν : Val} {ren : List (Nat × Nat)} {eq : Bool} {xs ys : List SV} {zs : List Value} (h : Owed (leRow ren eq xs ys)) (hv : VRL ν ys zs) : VRL (ν.ren ren) xs zs := by
  unfold leRow at h
  cases eq
  · exact leL_ok h hv
  · obtain ⟨⟨_, h1⟩, h2⟩ := h
    subst h2
    exact closed_VRL h1 hv

def leEnts (ren : List (Nat × Nat)) : List (SV × SV × Nat) → List (SV × SV × Nat) → List Prop
  | [] => fun m => match m with | [] => [] | _ => [False]
  | x :: xs => fun m => match m with | y :: ys => (leV ren x.1 y.1 ++ leV ren x.2.1 y.2.1) ++ ((y.2.2 = x.2.2) :: leEnts ren xs ys) | [] => [False]
theorem leEnts_ok {ν : Val} {ren : List (Nat × Nat)} : ∀ {l m : List (SV × SV × Nat)} {ds : List MapEntry}, Owed (leEnts ren l m) → EntR ν m ds → EntR (ν.ren ren) l ds
  | [], m, ys, h, hv => by
    unfold leEnts at h
    cases m with
    | nil => exact hv
    | cons => exact owed_false h
  | x :: xs, m, zs, h, hv => by
    unfold leEnts at h
    cases m with
    | nil => exact owed_false h
    | cons y ys =>
      obtain ⟨h1, h2⟩ := owed_app.1 h
      obtain ⟨h3, h4⟩ := owed_app.1 h1
      obtain ⟨h5, h6⟩ := owed_cons.1 h2
      obtain ⟨u, us, rfl, hk, hu, hb, hus⟩ := hv
      exact ⟨u, us, rfl, leV_ok h3 hk, leV_ok h4 hu, h6 ▸ hb, leEnts_ok h5 hus⟩

/-- .. also within structs. -/
def closedE : SV → Bool
  | .v _ | .junk => true
  | .agg l => l.all closedSV
  | _ => false
theorem closedE_VR {ν ν' : Val} {x : SV} {y : Value} (h : closedE x = true) (hv : VR ν x y) : VR ν' x y := by
  cases x <;> first
    | (rw [VR]; trivial)
    | exact VR.v_iff.2 (VR.v_iff.1 hv)
    | (obtain ⟨a, rfl, ha⟩ := VR.agg_iff.1 hv; exact VR.agg_iff.2 ⟨a, rfl, closed_VRL h ha⟩)
    | (cases h)
theorem closedE_Ent {ν ν' : Val} : ∀ {l : List (SV × SV × Nat)} {ds : List MapEntry}, (l.all fun e => closedE e.1 && closedE e.2.1) = true → EntR ν l ds → EntR ν' l ds
  | [], _, _, h => h
  | x :: xs, ds, hc, h => by
    obtain ⟨u, us, rfl, hk, hu, hb, hus⟩ := h
    simp only [List.all_cons, Bool.and_eq_true] at hc
    exact ⟨u, us, rfl, closedE_VR hc.1.1 hk, closedE_VR hc.1.2 hu, hb, closedE_Ent (by simpa using hc.2) hus⟩
def leEntsQ (ren : List (Nat × Nat)) (eq : Bool) (es es' : List (SV × SV × Nat)) : List Prop := bif eq then [es' = es, (es.all fun e => closedE e.1 && closedE e.2.1) = true] else leEnts ren es es'
theorem leEntsQ_ok {ν : Val} {ren : List (Nat × Nat)} {eq : Bool} {l m : List (SV × SV × Nat)} {ds : List MapEntry} (h : Owed (leEntsQ ren eq l m)) (hv : EntR ν m ds) : EntR (ν.ren ren) l ds := by
  unfold leEntsQ at h
  cases eq
  · exact leEnts_ok h hv
  · obtain ⟨⟨_, h1⟩, h2⟩ := h
    subst h2
    exact closedE_Ent h1 hv
def leIt (ren : List (Nat × Nat)) : Option Nat → Option Nat → Prop
  | none, none => True
  | some j, some i => ren.lookup j = some i
  | _, _ => False

def leO (ren : List (Nat × Nat)) (eq : Bool) : SO → SO → List Prop
  | .row xs e fz ext => fun o => match o with
    | .row ys e' fz' ext' => bif e == e' && fz == fz' && ext == ext' then leRow ren eq xs ys else [False]
    | _ => [False]
  | .look xs => fun o => match o with
    | .look ys => leRow ren eq xs ys
    | .row ys _ _ _ => leRow ren eq xs ys
    | _ => [False]
  | .map es c => fun o => match o with
    | .map es' c' => (c' = c) :: leEntsQ ren eq es es'
    | _ => [False]
  | .miter m since seen st => fun o => match o with
    | .miter m' since' seen' st' => [leIt ren m m', since' = since, seen' = seen, st' = st]
    | _ => [False]
  | .dfr none => fun o => match o with
    | .dfr none => []
    | _ => [False]
  | _ => fun _ => [False]

theorem ExtR.ren {ν : Val} {ren : List (Nat × Nat)} {j i n size : Nat} (h : (ren.lookup j == some i) = true) {e : Option Nat} (r : ExtR ν i n size e) : ExtR (ν.ren ren) j n size e := by
  cases e with
  | none => exact r
  | some e => obtain ⟨h1, b, hb, h2⟩ := r; exact ⟨h1, b, ren_at h hb, h2⟩

theorem leO_ok {ν : Val} {ren : List (Nat × Nat)} {eq : Bool} {j i : Nat} (hji : (ren.lookup j == some i) = true) {a b : SO} {o : Obj} (h : Owed (leO ren eq a b)) (hv : OR ν i b o) : OR (ν.ren ren) j a o := by
  unfold leO at h
  split at h
  · split at h
    · obtain ⟨h1, h2⟩ := owed_bif h
      rw [Bool.and_eq_true, Bool.and_eq_true] at h1
      obtain ⟨⟨h3, h4⟩, h5⟩ := h1
      have h3 := eq_of_beq h3
      have h4 := eq_of_beq h4
      have h5 := eq_of_beq h5
      subst h3 h4 h5
      obtain ⟨zs, rest, rfl, hz, hx⟩ := hv
      have hz' := leRow_ok h2 hz
      refine ⟨zs, rest, rfl, hz', ?_⟩
      rw [← hz'.length, hz.length]; exact hx.ren hji
    · exact owed_false h
  · split at h
    · obtain ⟨zs, c, e, fz, rfl, hz, hc⟩ := hv
      exact ⟨zs, c, e, fz, rfl, leRow_ok h hz, hc⟩
    · obtain ⟨zs, rest, rfl, hz, hx⟩ := hv
      exact ⟨zs, _, _, _, rfl, leRow_ok h hz, fun k y hy => by simpa using getElem?_append_left' hy⟩
    · exact owed_false h
  · split at h
    · obtain ⟨h1, h2⟩ := owed_cons.1 h
      obtain ⟨l, rfl, hl⟩ := hv
      subst h2
      exact ⟨l, rfl, leEntsQ_ok h1 hl⟩
    · exact owed_false h
  · rename_i m since seen st
    split at h
    · rename_i m' since' seen' st'
      obtain ⟨⟨⟨⟨_, h4⟩, h3⟩, h2⟩, h1⟩ := h
      subst h2 h3 h4
      cases m with
      | none => cases m' with
        | none => exact hv
        | some i' => exact h1.elim
      | some j' => cases m' with
        | none => exact h1.elim
        | some i' =>
          obtain ⟨b, hb, ho⟩ := hv
          exact ⟨b, ren_at (by rw [h1]; simp) hb, ho⟩
    · exact owed_false h
  · split at h
    · exact hv
    · exact owed_false h
  · exact owed_false h

/-! ### states -/

/-- Nothing to be done names an object. -/
def plainTodo (l : List SI) : Bool := l.all fun x => match x with
  | .code _ | .inBlock _ | .inLoop _ | .inScope _ | .reg _ _ => true
  | _ => false

theorem plainTodo_ok {ν ν' : Val} {l : List SI} {ys : List Item} (hp : plainTodo l = true) (h : KsR ν l ys) : KsR ν' l ys := by
  induction h with
  | nil => exact .nil
  | cons hx hk ih =>
    simp only [plainTodo, List.all_cons, Bool.and_eq_true] at hp
    refine .cons ?_ (ih hp.2)
    cases hx <;> first | exact .code _ | exact .inBlock _ | exact .inLoop _ | exact .inScope _ | exact .reg _ _ | (cases hp.1)

def leTm (ren : List (Nat × Nat)) (a b : STm) : List Nat → List Prop
  | [] => []
  | t :: ts => leV ren (a.T.get t) (b.T.get t) ++ leTm ren a b ts

theorem leTm_ok {ν : Val} {ren : List (Nat × Nat)} {a b : STm} : ∀ {ts : List Nat}, Owed (leTm ren a b ts) → ∀ t ∈ ts, ∀ y, VR ν (b.T.get t) y → VR (ν.ren ren) (a.T.get t) y
  | [], _, _, ht => by cases ht
  | u :: ts, h, t, ht => by
    unfold leTm at h
    obtain ⟨h1, h2⟩ := owed_app.1 h
    rcases List.mem_cons.1 ht with rfl | ht
    · exact fun y hy => leV_ok h1 hy
    · exact leTm_ok h2 t ht

/-- Object by object. -/
def leMem (ren : List (Nat × Nat)) (eqs : List Nat) (T : SH) : Nat → List (Option (SO × Bool)) → List Prop
  | _, [] => []
  | j, none :: l => leMem ren eqs T (j + 1) l
  | j, some (o, m) :: l => (match ren.lookup j with
      | some i => match T.look i with
        | some (o', m') => bif m == m' then leO ren (eqs.contains j) o o' else [False]
        | none => [False]
      | none => [False]) ++ leMem ren eqs T (j + 1) l

theorem leMem_ok {ren : List (Nat × Nat)} {eqs : List Nat} {T : SH} : ∀ {l : List (Option (SO × Bool))} {j : Nat}, Owed (leMem ren eqs T j l) → ∀ k o m, l[k]? = some (some (o, m)) →
    ∃ i o', ren.lookup (j + k) = some i ∧ T.look i = some (o', m) ∧ Owed (leO ren (eqs.contains (j + k)) o o')
  | [], _, _, k, o, m, hk => by simp at hk
  | none :: l, j, h, k, o, m, hk => by
    unfold leMem at h
    cases k with
    | zero => simp at hk
    | succ k =>
      have := leMem_ok h k o m (by simpa using hk)
      rwa [show j + 1 + k = j + (k + 1) by omega] at this
  | some (o0, m0) :: l, j, h, k, o, m, hk => by
    unfold leMem at h
    obtain ⟨h1, h2⟩ := owed_app.1 h
    cases k with
    | zero =>
      simp only [List.getElem?_cons_zero, Option.some.injEq, Prod.mk.injEq] at hk
      obtain ⟨rfl, rfl⟩ := hk
      split at h1
      · rename_i i hi
        split at h1
        · rename_i o' m' hl
          obtain ⟨h3, h4⟩ := owed_bif h1
          obtain rfl : m0 = m' := by simpa using h3
          exact ⟨i, o', hi, hl, h4⟩
        · exact owed_false h1
      · exact owed_false h1
    | succ k =>
      have := leMem_ok h2 k o m (by simpa using hk)
      rwa [show j + 1 + k = j + (k + 1) by omega] at this

theorem fill_ok {α : Type} {d : Nat} : ∀ (l : List α) (i : Nat) (T : Tr α), Tr.Full d T → i + l.length ≤ 2 ^ d →
    Tr.Full d (Tr.fill T i l) ∧ ∀ t, t < 2 ^ d → (Tr.fill T i l).get t = if i ≤ t then (l[t - i]?).getD (T.get t) else T.get t
  | [], i, T, h, _ => ⟨h, fun t _ => by simp [Tr.fill]⟩
  | x :: xs, i, T, h, hl => by
    simp only [List.length_cons] at hl
    obtain ⟨h1, h2⟩ := fill_ok xs (i + 1) (T.set i x) (h.set _ _) (by omega)
    refine ⟨h1, fun t ht => ?_⟩
    rw [Tr.fill, h2 t ht, Tr.get_set h (by omega) ht]
    by_cases e1 : i + 1 ≤ t
    · rw [if_pos e1, if_neg (show ¬ t = i by omega), if_pos (show i ≤ t by omega)]
      have : t - i = (t - (i + 1)) + 1 := by omega
      rw [this, List.getElem?_cons_succ]
    · rw [if_neg e1]
      by_cases e2 : t = i
      · subst e2; simp
      · rw [if_neg e2, if_neg (show ¬ i ≤ t by omega)]

/-- A state of one frame, with these objects. -/
def SM.at (F : SF) (d : Nat) (l : List (Option (SO × Bool))) : SM := { top := F, callers := [], mem := memOf d l.length 0 l }

/-- What a frame is beside its temporaries and what is to be done. -/
def lone1 (F : SF) : Bool := !F.ret && F.ro.isNone && F.defers.isEmpty && (match F.kind with | .normal => true | _ => false)

/-- What is owed for a state to stand for whatever another one stands for. -/
def fits (E : Env) (ren : List (Nat × Nat)) (eqs : List Nat) (F : SF) (d : Nat) (l : List (Option (SO × Bool))) (T : SM) : List Prop :=
  bif Nat.beq F.fn T.top.fn && lone1 F && lone1 T.top && T.callers.isEmpty && plainTodo F.todo && Nat.beq F.tm.nt T.top.tm.nt && Tr.full F.tm.d F.tm.T && Nat.ble F.tm.nt (2 ^ F.tm.d) && Nat.ble l.length (2 ^ d)
      && ren.all (fun r => Nat.blt r.1 l.length) && decide ((ren.map (·.1)).Nodup ∧ (ren.map (·.2)).Nodup) && E.G.all (fun r => ren.lookup r.2 == some r.2) then
    leTm ren F.tm T.top.tm (List.range F.tm.nt) ++ leMem ren eqs T.mem 0 l
  else [False]

theorem lone1_ok {F : SF} (h : lone1 F = true) : F.ret = false ∧ F.ro = none ∧ F.defers = [] ∧ F.kind = .normal := by
  obtain ⟨fn, tm, todo, defers, ret, kind, ro⟩ := F
  unfold lone1 at h
  dsimp only at h
  rw [Bool.and_eq_true, Bool.and_eq_true, Bool.and_eq_true] at h
  obtain ⟨⟨⟨h1, h2⟩, h3⟩, h4⟩ := h
  refine ⟨by simpa using h1, by simpa using h2, by simpa using h3, ?_⟩
  cases kind <;> first | rfl | cases h4

theorem lookup_mem {ren : List (Nat × Nat)} {j i : Nat} (h : ren.lookup j = some i) : (j, i) ∈ ren := by
  induction ren with
  | nil => cases h
  | cons r l ih =>
    obtain ⟨g', k'⟩ := r
    rw [List.lookup_cons] at h
    split at h
    · rename_i e
      cases h
      have e : j = g' := by simpa using e
      rw [e]; exact List.mem_cons_self
    · exact List.mem_cons_of_mem _ (ih h)

theorem nodup_snd {ren : List (Nat × Nat)} (h : (ren.map (·.2)).Nodup) {a b i : Nat} (ha : (a, i) ∈ ren) (hb : (b, i) ∈ ren) : a = b := by
  obtain ⟨m, hm, e1⟩ := List.getElem_of_mem ha
  obtain ⟨n, hn, e2⟩ := List.getElem_of_mem hb
  have : m = n := (List.getElem_inj (h₀ := by simpa using hm) (h₁ := by simpa using hn) h).1 (by simp [e1, e2])
  subst this
  rw [e1] at e2; exact (Prod.mk.inj e2).1

section
variable {E : Env} {ν : Val} {M : Own} {w0 w : World} {s s' : SH} {cs0 : List Frame} {f : FuncId} {R : Ending → World → Prop}

theorem MR.fits {ren : List (Nat × Nat)} {eqs : List Nat} {F : SF} {d : Nat} {l : List (Option (SO × Bool))} {T : SM} {m : Machine} (hm : MR E M w0 cs0 ν T m) (h : Owed (Go.Rx.fits E ren eqs F d l T)) (htodo : T.top.todo = F.todo) :
    MR E M w0 cs0 (ν.ren ren) (SM.at F d l) m := by
  unfold Go.Rx.fits at h
  obtain ⟨hb, h⟩ := owed_bif h
  obtain ⟨h1, h2⟩ := owed_app.1 h
  simp only [Bool.and_eq_true] at hb
  obtain ⟨⟨⟨⟨⟨⟨⟨⟨⟨⟨⟨b1, b2⟩, b3⟩, b4⟩, b5⟩, b6⟩, b7⟩, b8⟩, b9⟩, b10⟩, b11⟩, b12⟩ := hb
  have b1 := Nat.eq_of_beq_eq_true b1
  have b6 := Nat.eq_of_beq_eq_true b6
  have b8 := Nat.le_of_ble_eq_true b8
  have b9 := Nat.le_of_ble_eq_true b9
  obtain ⟨hn1, hn2⟩ := of_decide_eq_true b11
  obtain ⟨r1, r2, r3, r4⟩ := lone1_ok b2
  obtain ⟨q1, q2, q3, q4⟩ := lone1_ok b3
  obtain ⟨fr, cs, w, hl, rfl, hr, hg, ⟨⟨g1, g2, g3, g4⟩, hrun, _⟩, hc⟩ := hm
  have hcal : T.callers = [] := List.isEmpty_iff.1 b4
  rw [hcal, q4] at hc
  obtain ⟨hmode, hR⟩ := hrun q1
  have hlk : ∀ j i, ren.lookup j = some i → j < l.length := fun j i h => blt_iff.1 (List.all_eq_true.1 b10 _ (lookup_mem h))
  rw [htodo] at hR
  have hpl : TmR ν T.top.tm fr.tmps ∧ KsR ν F.todo fr.todo := by
    revert hR b5
    generalize fr.todo = ys0
    generalize F.todo = xs
    intro b5 hR
    cases hR with
    | plain ht hk => exact ⟨ht, hk⟩
    | drw hok hn d st hk => simp [plainTodo] at b5
  obtain ⟨ht, hk⟩ := hpl
  have ht' : TmR (ν.ren ren) F.tm fr.tmps := by
    refine ⟨by rw [ht.size, b6], Tr.full_iff.1 b7, b8, fun t htt => ?_⟩
    exact leTm_ok h1 t (List.mem_range.2 htt) _ (ht.get t (by rw [← b6]; exact htt))
  have hgetl : ∀ i, i < 2 ^ d → (memOf d l.length 0 l).H.get i = (l[i]?).getD none := by
    intro i hi
    obtain ⟨_, hf⟩ := fill_ok l 0 (Tr.mk none d) (Tr.full_mk _ _) (by omega)
    have := hf i hi
    rw [if_pos (Nat.zero_le _), Tr.get_mk, Nat.sub_zero] at this
    exact this
  have hobj : ∀ i, i < 2 ^ d → ∀ x, (memOf d l.length 0 l).H.get i = some x → ∃ k o', ren.lookup i = some k ∧ T.mem.look k = some (o', x.2) ∧ Owed (leO ren (eqs.contains i) x.1 o') := by
    intro i hi x hx
    rw [hgetl i hi] at hx
    have hx' : l[i]? = some (some (x.1, x.2)) := by
      cases hli : l[i]? with
      | none => rw [hli] at hx; cases hx
      | some y => rw [hli] at hx; simp only [Option.getD_some] at hx; rw [hx]
    have := leMem_ok h2 i x.1 x.2 hx'
    simpa using this
  have hr' : HR (ν.ren ren) M w0 (memOf d l.length 0 l) w := by
    refine ⟨(fill_ok l 0 (Tr.mk none d) (Tr.full_mk _ _) (by omega)).1, fun i hi => ?_, fun i hi => ?_, fun i hi x hx => ?_, fun i j hi hj hgi hgj b c hb hc' e => ?_, hr.size, hr.frame, fun i hi x hx hf b hb => ?_, hr.os, hr.tape, hr.output⟩
    · have hi : 2 ^ d ≤ i := hi
      unfold Val.ren
      cases hlo : ren.lookup i with
      | none => rfl
      | some k => have := hlk _ _ hlo; omega
    · have hi : l.length ≤ i := hi
      unfold Val.ren
      cases hlo : ren.lookup i with
      | none => rfl
      | some k => have := hlk _ _ hlo; omega
    · obtain ⟨k, o', hlo, hl', ho⟩ := hobj i hi x hx
      obtain ⟨_, _, b, oo, hb, hoo, hor, hown⟩ := hr.look hl'
      have hji : (ren.lookup i == some k) = true := by rw [hlo]; simp
      exact ⟨b, oo, ren_at hji hb, hoo, leO_ok hji ho hor, hown⟩
    · have hx : ∀ u, u < 2 ^ d → (memOf d l.length 0 l).H.get u ≠ none → ∀ b, (ν.ren ren) u = some b → ∃ k, ren.lookup u = some k ∧ k < 2 ^ T.mem.d ∧ T.mem.H.get k ≠ none ∧ ν k = some b := by
        intro u hu hn b hb
        cases hxx : (memOf d l.length 0 l).H.get u with
        | none => exact absurd hxx hn
        | some x =>
          obtain ⟨k, o', hlo, hl', _⟩ := hobj u hu x hxx
          obtain ⟨k1, k2, _⟩ := hr.look hl'
          refine ⟨k, hlo, k1, by rw [k2]; simp, ?_⟩
          unfold Val.ren at hb
          rw [hlo] at hb; exact hb
      obtain ⟨k1, e1, l1, n1, v1⟩ := hx i hi hgi b hb
      obtain ⟨k2, e2, l2, n2, v2⟩ := hx j hj hgj c hc'
      have := hr.inj k1 k2 l1 l2 n1 n2 b c v1 v2 e
      subst this
      exact nodup_snd hn2 (lookup_mem e1) (lookup_mem e2)
    · obtain ⟨k, o', hlo, hl', _⟩ := hobj i hi x hx
      obtain ⟨k1, k2, _⟩ := hr.look hl'
      unfold Val.ren at hb
      rw [hlo] at hb
      rw [hf] at k2
      exact hr.ro k k1 _ k2 rfl b hb
  have hg' : GR (ν.ren ren) E := by
    intro g i h
    obtain ⟨c, hc'⟩ := hg g i h
    have := List.all_eq_true.1 b12 _ (lookup_mem h)
    exact ⟨c, ren_at this hc'⟩
  refine ⟨fr, cs, w, [], rfl, hr', hg', ⟨⟨by rw [g1, ← b1]; rfl, ?_, by rw [g3, q4]; exact r4.symm, ?_⟩, fun _ => ⟨hmode, .plain ht' (plainTodo_ok b5 hk)⟩, fun hcon => ?_⟩, ?_⟩
  · show DefsR _ F.defers _
    rw [r3]; rw [q3] at g2; exact g2
  · show RoR _ F.ro _
    rw [r2]; rw [q2] at g4; exact g4
  · have hcon : F.ret = true := hcon
    rw [r1] at hcon; cases hcon
  · show CallersR _ _ _ _ _ _ F.kind [] _
    rw [r4]
    cases hc with
    | nil _ => exact .nil List.nodup_nil

/-- One state instead of another. -/
theorem Goes.fits {ren : List (Nat × Nat)} {eqs : List Nat} {F : SF} {d : Nat} {l : List (Option (SO × Bool))} {T : SM} (h : Owed (Go.Rx.fits E ren eqs F d l T)) (htodo : T.top.todo = F.todo)
    (hν : ∀ i b, ν i = some b → ren.lookup i = some i) (hs : Goes E M w0 cs0 f R ν (SM.at F d l)) : Goes E M w0 cs0 f R ν T := by
  intro ν' m M1 w1 hle hB hm
  refine hs (ν'.ren ren) m M1 w1 (fun i b hb => ?_) hB (hm.fits h htodo)
  exact ren_at (by rw [hν i b hb]; simp) (hle i b hb)

/-! ### loops -/

/-- At a loop's head: so much is to be done behind it. -/
def atLoop (k : Nat) (S : SM) : Bool := S.callers.isEmpty && !S.top.ret && match S.top.todo with
  | .inLoop _ :: r => Nat.beq r.length k
  | .code (.loop _) :: r => Nat.beq r.length k
  | _ => false

/-- To a loop's head, and into it. -/
def goL (E : Env) (k n : Nat) (S : SM) : Option SM := match goS E (atLoop k) n S with
  | some T => match step1 E T with
    | some [U] => some U
    | _ => none
  | none => none

theorem Goes.goL (K : Facts E M w0) {k n : Nat} {S U : SM} {o : List (Nat × Ans)} (h : Go.Rx.goL E k n (S.with o) = some U) (ob : U.mem.ob) (hs : Goes E M w0 cs0 f R ν U) : Goes E M w0 cs0 f R ν S := by
  unfold Go.Rx.goL at h
  split at h
  · rename_i T hT
    split at h
    · rename_i V hV
      cases h
      have obT : T.mem.ob := (step1_mono hV).2 U List.mem_cons_self ob
      refine Goes.go K hT obT fun ν' m M1 w1 hle hB hm => ?_
      obtain ⟨S', hS', hS⟩ := step1_ok K hB hm hV
      obtain rfl := List.mem_singleton.1 hS'
      obtain ⟨_, ν2, m', M2, w2, hle2, hst, hB2, hMR⟩ := hS ob
      exact (hs ν2 m' M2 w2 (hle.trans hle2) hB2 hMR).steps hst
    · cases h
  · cases h
end
end Go.Rx
set_option linter.unusedVariables false
set_option linter.unusedSimpArgs false
namespace Go.Rx
open Go.RowKit (Below)

/-- What a function that only reckons comes to: its value, and what is wanted for that. -/
abbrev PS := List Value → Option (Value × Prop)

def pureSum (g : PS) : List SV → SH → Option (SV × SH) := fun args s =>
  match plainVs args with
  | some l => match g l with
    | some (v, p) => some (.v v, s.owe p)
    | none => none
  | none => none

/-- A contract holds, in each world in which something is so. -/
def PureOK (P : Program) (X : World → Prop) (r : FuncId × PS) : Prop :=
  (∃ fn, P.funcs[r.1]? = some fn ∧ fn.body.isSome = true ∧ (fn.name == "runtime.NumGoroutine") = false) ∧
    ∀ args v p, r.2 args = some (v, p) → p → ∀ w, X w → Calls P r.1 args.toArray w fun e w' => Below w.heap.size w w' ∧ e = .returned v

def sumsOf (l : List (FuncId × PS)) : FuncId → Option (List SV → SH → Option (SV × SH)) := fun f => (l.lookup f).map pureSum

theorem lookup_mem' {α : Type} {l : List (Nat × α)} {j : Nat} {i : α} (h : l.lookup j = some i) : (j, i) ∈ l := by
  induction l with
  | nil => cases h
  | cons r l ih =>
    obtain ⟨g', k'⟩ := r
    rw [List.lookup_cons] at h
    split at h
    · rename_i e
      cases h
      have e : j = g' := by simpa using e
      rw [e]; exact List.mem_cons_self
    · exact List.mem_cons_of_mem _ (ih h)

section
variable {E : Env} {ν : Val} {M : Own} {w0 w : World} {s s' : SH}

theorem pureSum_mono {g : PS} {args : List SV} {x : SV} (h : pureSum g args s = some (x, s')) : s'.ob → s.ob := by
  unfold pureSum at h
  split at h
  · split at h
    · cases h; exact fun ob => ob.1
    · cases h
  · cases h

theorem SumsOK.of {X : World → Prop} {l : List (FuncId × PS)} (hE : E.sums = sumsOf l) (h : ∀ r ∈ l, PureOK E.P X r) (hX : ∀ ν s w, HR ν M w0 s w → GR ν E → X w) : SumsOK E M w0 := by
  intro f g hg args x s s' hx
  rw [hE] at hg
  unfold sumsOf at hg
  obtain ⟨ps, hps, rfl⟩ := Option.map_eq_some_iff.1 hg
  obtain ⟨⟨fn, hf, hb, hn⟩, hc⟩ := h _ (lookup_mem' hps)
  unfold pureSum at hx
  split at hx
  · rename_i vs hvs
    split at hx
    · rename_i v p hp
      cases hx
      refine fun ob => ⟨ob.1, fun ν w a hr hgr ha => ?_⟩
      obtain rfl := plainVs_ok hvs ha
      refine ⟨run_callFunc hf (by intro e; rw [e] at hb; cases hb) (by intro e; rw [e] at hn; simp at hn), ?_⟩
      exact (hc a v p hp ob.2 w (hX ν s w hr hgr)).mono fun e w' ⟨hbel, he⟩ => ⟨v, he, .old hbel (.same (SH.owe_same _ _) (VR.v_iff.2 rfl))⟩
    · cases hx
  · cases hx

/-! ### pieces -/

/-- What is owed for a state to come to a loop's head as it is told. -/
def reach (E : Env) (k n : Nat) (S : SM) (o : List (Nat × Ans)) (ren : List (Nat × Nat)) (eqs : List Nat) (F : SF) (d : Nat) (l : List (Option (SO × Bool))) : List Prop :=
  match goL E k n (S.with o) with | some T => fits E ren eqs F d l T ++ T.mem.obl | none => [False]
/-- What is to be done there. -/
def todoL (E : Env) (k n : Nat) (S : SM) (o : List (Nat × Ans)) : List SI := match goL E k n (S.with o) with | some T => T.top.todo | none => []

/-- What is owed for a state to come to the call's end with this value. -/
def endsV (E : Env) (f : FuncId) (n : Nat) (S : SM) (o : List (Nat × Ans)) (v : Value) : List Prop :=
  match goS E SM.over n (S.with o) with
  | some T => match endS E f T with
    | some (y, s') => match plainV y with
      | some z => (z = v) :: s'.obl
      | none => [False]
    | none => [False]
  | none => [False]

variable {cs0 : List Frame} {f : FuncId} {R : Ending → World → Prop}

theorem resultsS_mono' {S : SM} {x : SV} (h : endS E f S = some (x, s')) : s'.ob → S.mem.ob := by
  unfold endS at h
  cases hov : (S.over && Nat.beq S.top.fn f)
  · rw [hov] at h; cases h
  · rw [hov] at h
    simp only [cond_true] at h
    split at h
    · exact resultsS_mono h
    · cases h

theorem Goes.reach (K : Facts E M w0) {k n d : Nat} {S : SM} {o : List (Nat × Ans)} {ren : List (Nat × Nat)} {eqs : List Nat} {F : SF} {l : List (Option (SO × Bool))} (h : Owed (Go.Rx.reach E k n S o ren eqs F d l)) (ht : todoL E k n S o = F.todo)
    (hν : ∀ i b, ν i = some b → ren.lookup i = some i) (hs : Goes E M w0 cs0 f R ν (SM.at F d l)) : Goes E M w0 cs0 f R ν S := by
  unfold Go.Rx.reach at h
  unfold todoL at ht
  split at h
  · rename_i T hT
    rw [hT] at ht
    obtain ⟨h1, h2⟩ := owed_app.1 h
    exact Goes.goL K hT h2 (Goes.fits h1 ht hν hs)
  · exact owed_false h

theorem Goes.endsV (K : Facts E M w0) {n : Nat} {S : SM} {o : List (Nat × Ans)} {v : Value} (h : Owed (Go.Rx.endsV E f n S o v))
    (hR : ∀ ν' M1 w1 s' w', ν.Le ν' → Base M w0 M1 w1 → HR ν' M1 w1 s' w' → R (.returned v) w') : Goes E M w0 cs0 f R ν S := by
  unfold Go.Rx.endsV at h
  split at h
  · rename_i T hT
    split at h
    · rename_i y s' hend
      split at h
      · rename_i z hz
        obtain ⟨h1, h2⟩ := owed_cons.1 h
        subst h2
        refine Goes.go K hT (resultsS_mono' hend h1) (Goes.done hend h1 fun ν' M1 w1 w' u hle hB hv hr hg => ?_)
        rw [plainV_ok hz hv]
        exact hR ν' M1 w1 s' w' hle hB hr
      · exact owed_false h
    · exact owed_false h
  · exact owed_false h

/-! ### the memory in which a call begins -/

def layVal (l : List (Nat × Nat)) : Val := fun i => l[i]?
def layOwn (l : List (Nat × Nat)) (os : List (SO × Bool)) : Own := ⟨fun b => ∃ (i : Nat) (o : SO) (c : Nat), os[i]? = some (o, true) ∧ l[i]? = some (b, c), fun b => ∃ (i : Nat) (o : SO) (c : Nat), os[i]? = some (o, false) ∧ l[i]? = some (b, c), fun _ => False⟩

theorem lay_HR {d : Nat} {l : List (Nat × Nat)} {os : List (SO × Bool)} (hlen : l.length = os.length) (hd : os.length ≤ 2 ^ d) (hn : (l.map (·.1)).Nodup)
    (ho : ∀ (i : Nat) (o : SO) (m : Bool) (b c : Nat), os[i]? = some (o, m) → l[i]? = some (b, c) → ∃ r, w.heap[b]? = some r ∧ OR (layVal l) i o r) : HR (layVal l) (layOwn l os) w (memOf d os.length 0 (os.map some)) w := by
  have hget : ∀ i, i < 2 ^ d → (memOf d os.length 0 (os.map some)).H.get i = os[i]? := by
    intro i hi
    obtain ⟨_, hf⟩ := fill_ok (os.map some) 0 (Tr.mk none d) (Tr.full_mk _ _) (by simpa using hd)
    have := hf i hi
    rw [if_pos (Nat.zero_le _), Tr.get_mk, Nat.sub_zero, List.getElem?_map] at this
    rw [show (memOf d os.length 0 (os.map some)).H = Tr.fill (Tr.mk none d) 0 (os.map some) from rfl, this]
    cases os[i]? <;> rfl
  have hli : ∀ (i : Nat) (x : SO × Bool), os[i]? = some x → ∃ (b c : Nat), l[i]? = some (b, c) := by
    intro i x hx
    have hlt := (List.getElem?_eq_some_iff.1 hx).1
    exact ⟨(l[i]'(by omega)).1, (l[i]'(by omega)).2, List.getElem?_eq_getElem (by omega)⟩
  refine ⟨(fill_ok (os.map some) 0 (Tr.mk none d) (Tr.full_mk _ _) (by simpa using hd)).1, fun i hi => ?_, fun i hi => ?_, fun i hi x hx => ?_, fun i j hi hj hgi hgj b c hb hc e => ?_, Nat.le_refl _, fun _ _ _ => rfl, fun i hi x hx hf b hb => ?_, rfl, rfl, rfl⟩
  · have hi : 2 ^ d ≤ i := hi
    exact List.getElem?_eq_none (by omega)
  · have hi : os.length ≤ i := hi
    exact List.getElem?_eq_none (by omega)
  · have hi : i < 2 ^ d := hi
    rw [hget i hi] at hx
    obtain ⟨b, c, hl⟩ := hli i x hx
    obtain ⟨r, hr, hor⟩ := ho i x.1 x.2 b c hx hl
    exact ⟨(b, c), r, hl, hr, hor, fun hm => .inr ⟨i, x.1, c, by rw [hx, ← hm], hl⟩⟩
  · obtain ⟨hi', hb⟩ := List.getElem?_eq_some_iff.1 hb
    obtain ⟨hj', hc⟩ := List.getElem?_eq_some_iff.1 hc
    refine (List.getElem_inj (h₀ := by simpa using hi') (h₁ := by simpa using hj') hn).1 ?_
    simp only [List.getElem_map, hb, hc]; exact e
  · have hi : i < 2 ^ d := hi
    rw [hget i hi] at hx
    exact ⟨i, x.1, b.2, by rw [hx, ← hf], hb⟩

theorem layOwn_r {l : List (Nat × Nat)} {os : List (SO × Bool)} (ho : ∀ (i : Nat) (o : SO) (m : Bool) (b c : Nat), os[i]? = some (o, m) → l[i]? = some (b, c) → ∃ r, w.heap[b]? = some r ∧ OR (layVal l) i o r) : ∀ b, (layOwn l os).r b → b < w.heap.size := by
  rintro b ⟨i, o, c, h1, h2⟩
  obtain ⟨r, hr, _⟩ := ho i o false b c h1 h2
  exact (Array.getElem?_eq_some_iff.1 hr).1

/-- A call that begins with objects which it only reads: nothing that was there turns. -/
theorem calls_of_read {P : Program} (hP : E.P = P) {args : List SV} {a : List Value} {d : Nat} {l : List (Nat × Nat)} {os : List SO} {S0 : SM} {Q : Value → Prop} (hlen : l.length = os.length) (hd : os.length ≤ 2 ^ d) (hn : (l.map (·.1)).Nodup)
    (ho : ∀ (i : Nat) (o : SO) (b c : Nat), os[i]? = some o → l[i]? = some (b, c) → ∃ r, w.heap[b]? = some r ∧ OR (layVal l) i o r) (hG : E.G = []) (hS0 : enterS E f args (memOf d os.length 0 (os.map fun o => some (o, false))) = some S0) (ha : VRL (layVal l) args a)
    (hs : ∀ cs0, Goes E (layOwn l (os.map fun o => (o, false))) w cs0 f (fun e w' => Below w.heap.size w w' ∧ ∃ v, e = .returned v ∧ Q v) (layVal l) S0) :
    Calls P f a.toArray w fun e w' => Below w.heap.size w w' ∧ ∃ v, e = .returned v ∧ Q v := by
  subst hP
  have ho' : ∀ (i : Nat) (o : SO) (m : Bool) (b c : Nat), (os.map fun o => (o, false))[i]? = some (o, m) → l[i]? = some (b, c) → ∃ r, w.heap[b]? = some r ∧ OR (layVal l) i o r := by
    intro i o m b c h1 h2
    rw [List.getElem?_map] at h1
    obtain ⟨o', h3, h4⟩ := Option.map_eq_some_iff.1 h1
    cases h4
    exact ho i o b c h3 h2
  have hr := lay_HR (d := d) (w := w) (by simpa using hlen) (by simpa using hd) hn ho'
  rw [List.map_map, List.length_map] at hr
  exact calls_of_safe hS0 hr (layOwn_r ho') (fun _ h => h) (fun g i h => by rw [hG] at h; cases h) ha hs

/-- Such a call's own memory: nothing old may turn. -/
theorem layOwn_none {l : List (Nat × Nat)} {os : List SO} {b : Nat} : ¬ (layOwn l (os.map fun o => (o, false))) b := by
  rintro ⟨i, o, c, h1, _⟩
  rw [List.getElem?_map] at h1
  obtain ⟨o', _, h4⟩ := Option.map_eq_some_iff.1 h1
  cases h4

/-- What a world has to do with the one in which the call began, where nothing old may turn. -/
theorem below_of {M1 : Own} {w1 : World} (hM : ∀ b, ¬ M b) (hB : Base M w0 M1 w1) (hr : HR ν M1 w1 s w) : Below w0.heap.size w0 w := by
  have h := hr.unbase hB
  exact ⟨h.os, h.tape, h.output, h.size, fun k hk => h.frame k hk (hM k)⟩

/-! ### rows of structs -/

theorem flatMap_at {α β : Type} {g : α → List β} {m : Nat} (hg : ∀ x, (g x).length = m) : ∀ {xs : List α} {k : Nat} {x : α}, xs[k]? = some x → ((xs.flatMap g).drop (k * m)).take m = g x
  | [], _, _, h => by simp at h
  | y :: ys, 0, x, h => by
    simp only [List.getElem?_cons_zero, Option.some.injEq] at h
    subst h
    rw [List.flatMap_cons, Nat.zero_mul, List.drop_zero, List.take_append_of_le_length (by rw [hg]; exact Nat.le_refl _), List.take_of_length_le (by rw [hg]; exact Nat.le_refl _)]
  | y :: ys, k + 1, x, h => by
    have e : ((y :: ys).flatMap g).drop m = ys.flatMap g := by
      rw [List.flatMap_cons, List.drop_append_of_le_length (by rw [hg]; exact Nat.le_refl _), List.drop_of_length_le (l := g y) (by rw [hg]; exact Nat.le_refl _), List.nil_append]
    rw [Nat.succ_mul, Nat.add_comm, ← List.drop_drop, e]
    exact flatMap_at hg (by simpa using h)

/-- A row of structs behind other cells. -/
def rowsAt {α : Type} (g : α → List SV) (off : Nat) (xs : List α) : List SV := List.replicate off .junk ++ xs.flatMap g

theorem rowsAt_at {α : Type} {g : α → List SV} {m off : Nat} (hg : ∀ x, (g x).length = m) {xs : List α} {k : Nat} {x : α} (h : xs[k]? = some x) : ((rowsAt g off xs).drop (off + k * m)).take m = g x := by
  unfold rowsAt
  have e : (List.replicate off SV.junk ++ xs.flatMap g).drop off = xs.flatMap g := by
    rw [List.drop_append_of_le_length (by simp), List.drop_of_length_le (l := List.replicate off SV.junk) (by simp), List.nil_append]
  rw [← List.drop_drop, e]
  exact flatMap_at hg h

theorem rowsAt_closed {α : Type} {g : α → List SV} (hg : ∀ x, (g x).all closedSV = true) {off : Nat} {xs : List α} : (rowsAt g off xs).all closedSV = true := by
  unfold rowsAt
  rw [List.all_append, Bool.and_eq_true]
  refine ⟨List.all_eq_true.2 fun x hx => by rw [(List.mem_replicate.1 hx).2]; rfl, ?_⟩
  refine List.all_eq_true.2 fun x hx => ?_
  obtain ⟨y, _, hy⟩ := List.mem_flatMap.1 hx
  exact List.all_eq_true.1 (hg y) x hy

/-- A row of structs that lies in a block is one that is told. -/
theorem rowsAt_look {α : Type} {g : α → List SV} {h : α → List Value} (hgh : ∀ ν x, VRL ν (g x) (h x)) {off : Nat} {xs : List α} {i : Nat} {ν : Val} {c : Array Value} {e : TypeId} {fz : Nat × Nat} (hoff : off ≤ c.size)
    (hc : ∀ (k : Nat) (v : Value), (xs.flatMap h)[k]? = some v → c[off + k]? = some v) : OR ν i (.look (rowsAt g off xs)) (.cells c e fz) := by
  refine ⟨c.toList.take off ++ xs.flatMap h, c, e, fz, rfl, ?_, fun k y hk => ?_⟩
  · unfold rowsAt
    refine VRL.append ?_ ?_
    · have : ∀ (n : Nat) (l : List Value), l.length = n → VRL ν (List.replicate n .junk) l := by
        intro n
        induction n with
        | zero => intro l hl; rw [List.length_eq_zero_iff.1 hl]; exact VRL.nil
        | succ n ih =>
          intro l hl
          match l, hl with
          | y :: l, hl => exact VRL.cons (by rw [VR]; trivial) (ih l (by simpa using hl))
      exact this off _ (by simp; omega)
    · clear hc
      induction xs with
      | nil => exact VRL.nil
      | cons x xs ih => exact VRL.append (hgh ν x) ih
  · by_cases hlt : k < off
    · rw [List.getElem?_append_left (by simp; omega), List.getElem?_take, if_pos hlt] at hk
      simpa using hk
    · rw [List.getElem?_append_right (by simp; omega)] at hk
      have := hc _ y hk
      rw [← this]; congr 1; simp; omega
end
end Go.Rx
set_option linter.unusedVariables false
set_option linter.unusedSimpArgs false
namespace Go.Rx
open Go.RowKit (Below)

/-- A slice's elements, as they lie in a world. -/
def ElemsIn {α : Type} (h : α → List Value) (W : World) (a : Option Addr) (l c : Nat) : Prop :=
  (l ≤ c ∧ c ≤ maxLen) ∧ (l = 0 ∨ ∃ (b off : Nat) (xs : List α) (cs : Array Value) (e : TypeId) (fz : Nat × Nat), a = some ⟨b, off, none⟩ ∧ xs.length = l ∧ W.heap[b]? = some (.cells cs e fz) ∧ off ≤ cs.size ∧
    ∀ (k : Nat) (v : Value), (xs.flatMap h)[k]? = some v → cs[off + k]? = some v)

theorem flatMap_get {α β : Type} {h : α → List β} {C : Nat} (hC : 0 < C) (hh : ∀ r, (h r).length = C) : ∀ {xs : List α} {k : Nat} {v : β}, (xs.flatMap h)[k]? = some v → ∃ x, xs[k / C]? = some x ∧ (h x)[k % C]? = some v
  | [], _, _, e => by simp at e
  | y :: ys, k, v, e => by
    rw [List.flatMap_cons] at e
    by_cases hk : k < C
    · rw [List.getElem?_append_left (by rw [hh]; exact hk)] at e
      exact ⟨y, by rw [Nat.div_eq_of_lt hk]; rfl, by rw [Nat.mod_eq_of_lt hk]; exact e⟩
    · rw [List.getElem?_append_right (by rw [hh]; omega), hh] at e
      obtain ⟨x, h1, h2⟩ := flatMap_get hC hh e
      refine ⟨x, ?_, ?_⟩
      · rw [Nat.div_eq_sub_div hC (by omega), List.getElem?_cons_succ]; exact h1
      · rw [Nat.mod_eq_sub_mod (by omega)]; exact h2

theorem flatMap_put {α β : Type} {h : α → List β} {C : Nat} (hh : ∀ r, (h r).length = C) {xs : List α} {i : Nat} {x : α} (hx : xs[i]? = some x) {j : Nat} (hj : j < C) : (xs.flatMap h)[i * C + j]? = (h x)[j]? := by
  have := flatMap_at hh hx
  have e : ((xs.flatMap h).drop (i * C)).take C = h x := this
  rw [← e, List.getElem?_take, if_pos hj, List.getElem?_drop]

section
variable {H : Type} {enc : TypeId × Value → H} {P : Program} {W : World} {base : Nat} {spare : Nat → Bool} {held : Bool}

theorem slice_rows {α : Type} {h : α → List Value} {C : Nat} (hC0 : 0 < C) (hh : ∀ r, (h r).length = C) {t e : TypeId} {a : Option Addr} {l c n : Nat} {x : DataW H × List MemPlace}
    (hform : ∀ (vs : List Value) (n : Nat) (y : DataW H × List MemPlace), DataW.trod enc P W base spare held n e vs = some y → ∃ r, vs = h r)
    (ht : P.underlying t = some (.slice e)) (hC : P.cellsOf e = C) (hd : DataW.trod enc P W base spare held n t [.slice a l c] = some x) : ElemsIn h W a l c := by
  rcases Deep.open_slice ht hd with ⟨h0, _⟩ | ⟨a', len, cap, m, n', D, Pl, hcs, hb, hl, hm, hmm, _, hi⟩
  · cases h0; exact ⟨⟨Nat.le_refl _, Nat.zero_le _⟩, .inl rfl⟩
  · cases hcs
    refine ⟨⟨hl, hm⟩, ?_⟩
    by_cases hl0 : l = 0
    · exact .inl hl0
    right
    have hlm : l ≤ m := by rw [hmm]; split <;> omega
    have hel : ∀ i, i < l → ∃ r : α, ∀ j, j < C → W.cell? (a'.add (i * C + j)) = (h r)[j]? := by
      intro i hil
      obtain ⟨cs', hc, htr⟩ := hi i (by omega)
      rw [hC] at hc
      obtain ⟨_, hcl, hat⟩ := World.cells?_some hc
      obtain ⟨r, hr⟩ := hform cs' _ _ htr
      refine ⟨r, fun j hj => ?_⟩
      have := hat j hj
      rw [← hr, ← this, Deep.add_add]
    obtain ⟨F, hF⟩ : ∃ F : Nat → α, ∀ i, i < l → ∀ j, j < C → W.cell? (a'.add (i * C + j)) = (h (F i))[j]? := by
      obtain ⟨r0, _⟩ := hel 0 (by omega)
      refine ⟨fun i => if hi : i < l then Classical.choose (hel i hi) else r0, fun i hi => ?_⟩
      simp only [dif_pos hi]
      exact Classical.choose_spec (hel i hi)
    have h00 := hF 0 (by omega) 0 hC0
    have hv0 : ∃ v, (h (F 0))[0]? = some v := ⟨_, List.getElem?_eq_getElem (by rw [hh]; exact hC0)⟩
    obtain ⟨v0, hv0⟩ := hv0
    rw [hv0, Nat.zero_mul, Nat.add_zero] at h00
    have ha0 : a'.add 0 = a' := by simp [Addr.add]
    rw [ha0] at h00
    unfold World.cell? at h00
    split at h00
    · rename_i cs el fz hheap
      have hsp : a'.spot = none := by
        cases hs : a'.spot with
        | none => rfl
        | some s => rw [hs] at h00; simp at h00
      rw [hsp] at h00
      simp only [Option.isSome_none, Bool.false_eq_true, if_false] at h00
      have hoff := (Array.getElem?_eq_some_iff.1 h00).1
      obtain ⟨b, off, sp⟩ := a'
      simp only at hsp hheap hoff
      subst hsp
      refine ⟨b, off, (List.range l).map F, cs, el, fz, rfl, by simp, hheap, by omega, fun k v hk => ?_⟩
      obtain ⟨x, h1, h2⟩ := flatMap_get hC0 hh hk
      rw [List.getElem?_map] at h1
      obtain ⟨i, h3, rfl⟩ := Option.map_eq_some_iff.1 h1
      obtain ⟨hlt, h3⟩ := List.getElem?_eq_some_iff.1 h3
      rw [List.getElem_range] at h3
      simp only [List.length_range] at hlt
      subst h3
      have := hF (k / C) hlt (k % C) (Nat.mod_lt _ hC0)
      rw [h2] at this
      have e : k / C * C + k % C = k := by rw [Nat.mul_comm]; exact Nat.div_add_mod k C
      rw [e, addr_add, cell_at hheap] at this
      exact this
    · cases h00

/-- A field of a struct that came in. -/
theorem trod_field {t : TypeId} {fs : Array Field} {vs : Array Value} {d : DataW H} {p : List MemPlace} (hs : P.underlying t = some (.struct fs)) (h : DataW.Trod enc P W base spare held t (.agg vs) d p) {i : Nat} {f : Field} (hf : fs[i]? = some f)
    (h1 : P.cellsOf f.type = 1) {v : Value} (hv : vs[f.offset]? = some v) : ∃ n y, DataW.trod enc P W base spare held n f.type [v] = some y := by
  obtain ⟨fuel, hd⟩ := h
  obtain ⟨xs, n, _, _, _, hlen, hg⟩ := DataW.trod_struct hs hd
  have hi : i < xs.length := by rw [hlen]; exact (Array.getElem?_eq_some_iff.1 hf).1
  have := hg i f hf
  rw [h1, List.getElem?_eq_getElem hi] at this
  have e : (List.drop f.offset (Value.agg vs).cells.toList).take 1 = [v] := by
    have hv' : vs.toList[f.offset]? = some v := by simpa using hv
    obtain ⟨hlt, hv'⟩ := List.getElem?_eq_some_iff.1 hv'
    show (List.drop f.offset vs.toList).take 1 = [v]
    rw [List.drop_eq_getElem_cons hlt, hv']; rfl
  rw [e] at this
  exact ⟨n, _, this⟩
end

def structFields (P : Program) (t : TypeId) : Array Field := match P.underlying t with | some (.struct fs) => fs | _ => #[]
def fieldAt (P : Program) (t : TypeId) (i : Nat) : Field := (structFields P t).getD i default

section
variable {H : Type} {enc : TypeId × Value → H} {P : Program} {W : World} {base : Nat} {spare : Nat → Bool} {held : Bool}

theorem trod_field' {t ft : TypeId} {i o : Nat} {vs : Array Value} {d : DataW H} {p : List MemPlace} (h : DataW.Trod enc P W base spare held t (.agg vs) d p) (hs : P.underlying t = some (.struct (structFields P t))) (hf : (structFields P t)[i]? = some (fieldAt P t i))
    (ho : (fieldAt P t i).offset = o) (hty : (fieldAt P t i).type = ft) (h1 : P.cellsOf ft = 1) {v : Value} (hv : vs[o]? = some v) : ∃ n y, DataW.trod enc P W base spare held n ft [v] = some y := by
  subst ho hty
  exact trod_field hs h hf h1 hv

/-- The cells of a struct of one-cell fields. -/
theorem trod_cells {e : TypeId} {vs : List Value} {n : Nat} {y : DataW H × List MemPlace} (h : DataW.trod enc P W base spare held n e vs = some y) (hs : P.underlying e = some (.struct (structFields P e)))
    (hone : Deep.oneCellFields P (structFields P e) = true) (hC : P.cellsOf e = (structFields P e).size) :
    vs.length = (structFields P e).size ∧ ∀ (i : Nat) (ft : TypeId), i < (structFields P e).size → (fieldAt P e i).type = ft → ∃ v n' y', vs[i]? = some v ∧ DataW.trod enc P W base spare held n' ft [v] = some y' := by
  obtain ⟨xs, n', _, _, hl, hlen, hg⟩ := DataW.trod_struct hs h
  refine ⟨hl.trans hC, fun i ft hi hty => ?_⟩
  have hf : (structFields P e)[i]? = some (fieldAt P e i) := by
    unfold fieldAt; rw [Array.getD_eq_getD_getElem?, Array.getElem?_eq_getElem hi]; rfl
  obtain ⟨ho, hk⟩ := Deep.hone_of hone i _ hf
  have := hg i _ hf
  have hi' : i < vs.length := by rw [hl, hC]; exact hi
  rw [hk, ho, List.getElem?_eq_getElem (by rw [hlen]; exact hi), List.drop_eq_getElem_cons hi'] at this
  subst hty
  exact ⟨_, _, _, List.getElem?_eq_getElem hi', this⟩
end

section
variable {E : Env} {w : World} {f : FuncId} {R : Ending → World → Prop}

theorem told_rlt {l : List (Nat × List SV)} (told : ∀ r ∈ l, Told w r) : ∀ b, (laidOwn l).r b → b < w.heap.size := by
  rintro b ⟨r, hr, rfl⟩
  obtain ⟨ys, c, e, fz, h1, _⟩ := told r hr
  exact (Array.getElem?_eq_some_iff.1 h1).1

/-- A call over told package variables, in pieces. -/
theorem calls_pieces {P : Program} (hP : E.P = P) {args : List SV} {a : List Value} {d : Nat} {l : List (Nat × List SV)} {S0 : SM} (hG : E.G = (l.map (·.1)).zipIdx) (hd : l.length ≤ 2 ^ d) (hn : (l.map (·.1)).Nodup) (told : ∀ r ∈ l, Told w r)
    (hS0 : enterS E f args (laidMem d l) = some S0) (ha : VRL (laidVal l) args a) (hs : ∀ cs0, Goes E (laidOwn l) w cs0 f R (laidVal l) S0) : Calls P f a.toArray w R := by
  subst hP
  exact calls_of_safe hS0 (laid_HR hd hn told) (told_rlt told) (fun _ h => h) (laid_GR hG) ha hs
end
end Go.Rx
set_option linter.unusedVariables false
set_option linter.unusedSimpArgs false
namespace Go.Rx
open Go.RowKit (Below)

/-- An end with 'true', with nothing owed. -/
def okEnd (E : Env) (f : FuncId) (S : SM) : Bool := match endS E f S with
  | some (.v (.bool true), s') => s'.obl.isEmpty
  | _ => false

/-- So many turns of a run; each end is to be 'true'. -/
def runV (E : Env) (f : FuncId) : Nat → List SM → Option (List SM)
  | 0, w => some w
  | _ + 1, [] => some []
  | n + 1, S :: w => bif S.over then (bif okEnd E f S then runV E f n w else none) else match step1 E S with
    | none => none
    | some l => runV E f n (l ++ w)

theorem runV_runK {E : Env} {f : FuncId} : ∀ {n : Nat} {w w' : List SM}, runV E f n w = some w' → ∀ d : List SM, (∀ S ∈ d, okEnd E f S = true) → ∃ d', runK E SM.over n w d = some (w', d') ∧ ∀ S ∈ d', okEnd E f S = true
  | 0, w, w', h, d, hd => by cases h; exact ⟨d, rfl, hd⟩
  | _ + 1, [], w', h, d, hd => by cases h; exact ⟨d, rfl, hd⟩
  | n + 1, S :: w, w', h, d, hd => by
    unfold runV at h
    unfold runK
    cases hs : S.over
    · rw [hs] at h
      simp only [cond_false] at h ⊢
      split at h
      · cases h
      · rename_i l hl
        rw [hl]
        exact runV_runK h d hd
    · rw [hs] at h
      simp only [cond_true] at h ⊢
      cases ho : okEnd E f S
      · rw [ho] at h; cases h
      · rw [ho] at h
        refine runV_runK h (S :: d) fun T hT => ?_
        rcases List.mem_cons.1 hT with rfl | hT
        · exact ho
        · exact hd T hT

theorem runV_trans {E : Env} {f : FuncId} : ∀ {n : Nat} {w w' : List SM}, runV E f n w = some w' → ∀ {m : Nat} {r : List SM}, runV E f m w' = some r → runV E f (n + m) w = some r
  | 0, w, w', h, m, r, k => by cases h; rw [Nat.zero_add]; exact k
  | n + 1, [], w', h, m, r, k => by
    cases h
    have e : ∀ m, runV E f m [] = some [] := by intro m; cases m <;> rfl
    rw [e] at k ⊢; exact k
  | n + 1, S :: w, w', h, m, r, k => by
    rw [Nat.add_right_comm]
    unfold runV at h ⊢
    cases hs : S.over
    · rw [hs] at h
      simp only [cond_false] at h ⊢
      split at h
      · cases h
      · rename_i l hl
        exact runV_trans h k
    · rw [hs] at h
      simp only [cond_true] at h ⊢
      cases ho : okEnd E f S
      · rw [ho] at h; cases h
      · rw [ho] at h
        exact runV_trans h k

theorem verdict_ok {E : Env} {f : FuncId} : ∀ {Ls : List SM}, (∀ S ∈ Ls, okEnd E f S = true) → verdict E f Ls
  | [], _ => trivial
  | S :: r, h => by
    refine ⟨?_, verdict_ok fun T hT => h T (List.mem_cons_of_mem _ hT)⟩
    have := h S List.mem_cons_self
    unfold okEnd at this
    split at this
    · rename_i s' he
      rw [he]
      show Owed s'.obl
      rw [List.isEmpty_iff.1 this]; trivial
    · cases this

/-- The verdict out of such a run. -/
theorem verdict_of_runV {E : Env} {f : FuncId} {args : List SV} {s0 : SH} {S0 : SM} {n : Nat} (h0 : enterS E f args s0 = some S0) (h : runV E f n [S0] = some []) : verdictO E f (runS E f args s0 n) := by
  obtain ⟨d, hk, hd⟩ := runV_runK h [] fun _ h => by cases h
  rw [runS_of h0 hk]
  exact verdict_ok hd

/-- Does a call come to this truth? -/
def okBool (E : Env) (f : FuncId) (n : Nat) (S : SM) (b : Bool) : Bool := match goS E SM.over n (S.with []) with
  | some T => match endS E f T with
    | some (.v (.bool x), s') => x == b && s'.obl.isEmpty
    | _ => false
  | none => false

theorem Goes.okBool {E : Env} {ν : Val} {M : Own} {w0 : World} {cs0 : List Frame} {f : FuncId} {R : Ending → World → Prop} (K : Facts E M w0) {n : Nat} {S : SM} {b : Bool} (h : Go.Rx.okBool E f n S b = true)
    (hR : ∀ ν' M1 w1 s' w', ν.Le ν' → Base M w0 M1 w1 → HR ν' M1 w1 s' w' → R (.returned (.bool b)) w') : Goes E M w0 cs0 f R ν S := by
  unfold Go.Rx.okBool at h
  split at h
  · rename_i T hT
    split at h
    · rename_i x s' hend
      rw [Bool.and_eq_true] at h
      obtain rfl : x = b := by simpa using h.1
      have ob : s'.ob := by
        show Owed s'.obl
        rw [List.isEmpty_iff.1 h.2]; trivial
      refine Goes.go K hT (resultsS_mono' hend ob) (Goes.done hend ob fun ν' M1 w1 w' u hle hB hv hr hg => ?_)
      rw [VR.v_iff.1 hv]
      exact hR ν' M1 w1 s' w' hle hB hr
    · cases h
  · cases h
end Go.Rx
set_option linter.unusedVariables false
set_option linter.unusedSimpArgs false
namespace Go.Rx
open Go.RowKit (Below)

/-- Cells that are texts. -/
def strsOf : List SV → Option (List ByteArray)
  | [] => some []
  | .v (.string b) :: r => (strsOf r).map (b :: ·)
  | _ => none
theorem strsOf_ok {ν : Val} : ∀ {l : List SV} {b : List ByteArray} {ys : List Value}, strsOf l = some b → VRL ν l ys → ys = b.map Value.string
  | [], _, _, h, hv => by cases h; exact hv.nil_inv
  | x :: r, _, _, h, hv => by
    obtain ⟨y, ys, rfl, hy, hys⟩ := hv.cons_inv
    unfold strsOf at h
    split at h
    · rename_i e; cases e
    · rename_i b r' e
      cases e
      obtain ⟨l, hl, rfl⟩ := Option.map_eq_some_iff.1 h
      rw [VR.v_iff.1 hy, strsOf_ok hl hys]; rfl
    · cases h
def joinB (l : List ByteArray) (sep : ByteArray) : ByteArray := ⟨(Lib.join (l.map (·.data.toList)) sep.data.toList).toArray⟩
def joinSum : List SV → SH → Option (SV × SH) := fun args s =>
  match args with
  | [.sl i off len (some cap), .v (.string sep)] =>
    match s.look i with
    | some (.row xs _ _ _, _) =>
      match strsOf ((xs.drop off).take len) with
      | some l => bif Nat.beq l.length len && Nat.ble len cap && Nat.ble len 1000000 then some (.v (.string (joinB l sep)), s.owe ((joinB l sep).size ≤ 140737488355328)) else none
      | none => none
    | _ => none
  | _ => none
/-- What strings.Join does. -/
def JoinOK (P : Program) (J : FuncId) : Prop :=
  (∃ fn, P.funcs[J]? = some fn ∧ fn.body.isSome = true ∧ (fn.name == "runtime.NumGoroutine") = false) ∧
  ∀ (bk o c : Nat) (xs : List ByteArray) (sep : ByteArray) (w : World), (∀ (j : Nat) x, xs[j]? = some x → w.cell? ⟨bk, o + j, none⟩ = some (.string x)) → bk < w.heap.size → xs.length ≤ 140737488355328 → xs.length ≤ c →
    (joinB xs sep).size ≤ 140737488355328 → Calls P J #[.slice (some ⟨bk, o, none⟩) xs.length c, .string sep] w fun e w' => e = .returned (.string (joinB xs sep)) ∧ Below w.heap.size w w'

section
variable {E : Env} {ν : Val} {M : Own} {w0 w : World} {s s' : SH}
theorem joinSum_mono {args : List SV} {x : SV} (h : joinSum args s = some (x, s')) : ∃ p, s' = s.owe p := by
  unfold joinSum at h
  split at h
  · split at h
    · split at h
      · rename_i l _
        generalize hc : (Nat.beq l.length _ && Nat.ble _ _ && Nat.ble _ 1000000) = c at h
        cases c
        · cases h
        · cases h; exact ⟨_, rfl⟩
      · cases h
    · cases h
  · cases h
theorem joinSum_ok {f : FuncId} (J : JoinOK E.P f) {args : List SV} {x : SV} (h : joinSum args s = some (x, s')) : s'.ob → s.ob ∧ ∀ ν w a, HR ν M w0 s w → GR ν E → VRL ν args a →
    (callFunc f a.toArray).run E.P w = .ok (.enter f a.toArray) w ∧ Calls E.P f a.toArray w fun e w' => Below w.heap.size w w' ∧ ∃ y, e = .returned y ∧ NewVal ν s w s' w' x y := by
  obtain ⟨p, hp⟩ := joinSum_mono h
  refine fun ob => ⟨by rw [hp] at ob; exact ob.1, fun ν w a hr hg ha => ?_⟩
  obtain ⟨⟨fn, hf, hb, hn⟩, hj⟩ := J
  unfold joinSum at h
  split at h
  · rename_i i off len cap sep
    split at h
    · rename_i xs el fz ext mk hl
      split at h
      · rename_i l hs
        cases hc : (Nat.beq l.length len && Nat.ble len cap && Nat.ble len 1000000)
        · rw [hc] at h; cases h
        rw [hc] at h
        simp only [cond_true] at h
        cases h
        rw [Bool.and_eq_true, Bool.and_eq_true] at hc
        obtain ⟨⟨c1, c2⟩, c3⟩ := hc
        have c1 := Nat.eq_of_beq_eq_true c1
        have c2 := Nat.le_of_ble_eq_true c2
        have c3 := Nat.le_of_ble_eq_true c3
        obtain ⟨y1, ys, rfl, h1, ha⟩ := ha.cons_inv
        obtain ⟨y2, ys, rfl, h2, ha⟩ := ha.cons_inv
        obtain rfl := ha.nil_inv
        obtain rfl := VR.v_iff.1 h2
        obtain ⟨b, hb1, _, rfl⟩ := VR.sl_iff.1 h1
        obtain ⟨_, _, b', o, hb2, ho, hor, _⟩ := hr.look hl
        rw [hb1] at hb2; cases hb2
        obtain ⟨zs, rest, rfl, hz, _⟩ := hor
        have hzs := strsOf_ok hs ((hz.drop off).take len)
        have hlt := (Array.getElem?_eq_some_iff.1 ho).1
        subst c1
        refine ⟨run_callFunc hf (by intro e; rw [e] at hb; cases hb) (by intro e; rw [e] at hn; simp at hn), ?_⟩
        refine (hj b.1 off cap l sep w (fun j x hx => ?_) hlt (by omega) c2 ob.2).mono fun e w' ⟨he, hB⟩ => ⟨hB, _, he, .same (SH.owe_same _ _) (VR.v_iff.2 rfl)⟩
        rw [cell_at ho]
        have hj1 := (List.getElem?_eq_some_iff.1 hx).1
        have : ((zs.drop off).take l.length)[j]? = some (.string x) := by rw [hzs, List.getElem?_map, hx]; rfl
        rw [List.getElem?_take, if_pos hj1, List.getElem?_drop] at this
        have hlen := (List.getElem?_eq_some_iff.1 this).1
        simp [List.getElem?_append_left hlen, this]
      · cases h
    · cases h
  · cases h
/-- Contracts of functions that only reckon, and strings.Join's. -/
theorem SumsOK.join {X : World → Prop} {l : List (FuncId × PS)} {J : FuncId} (hE : E.sums = fun f => bif Nat.beq f J then some joinSum else sumsOf l f) (hJ : JoinOK E.P J) (h : ∀ r ∈ l, PureOK E.P X r) (hX : ∀ ν s w, HR ν M w0 s w → GR ν E → X w) : SumsOK E M w0 := by
  intro f g hg args x s s' hx
  rw [hE] at hg
  cases hf : Nat.beq f J
  · rw [show ((fun f => bif Nat.beq f J then some joinSum else sumsOf l f) f) = sumsOf l f by show (bif Nat.beq f J then some joinSum else sumsOf l f) = _; rw [hf]; rfl] at hg
    have := SumsOK.of (E := { E with sums := sumsOf l }) (M := M) (w0 := w0) (X := X) rfl h (fun ν s w hr hgr => hX ν s w hr hgr) f g hg args x s s' hx
    exact this
  · have hfJ := Nat.eq_of_beq_eq_true hf
    subst hfJ
    rw [show ((fun f' => bif Nat.beq f' f then some joinSum else sumsOf l f') f) = some joinSum by show (bif Nat.beq f f then some joinSum else sumsOf l f) = _; rw [hf]; rfl] at hg
    cases hg
    intro ob
    obtain ⟨o1, h⟩ := joinSum_ok hJ hx ob
    exact ⟨o1, fun ν w a hr hg ha => ⟨(h ν w a hr hg ha).1, (h ν w a hr hg ha).2.mono fun e w' ⟨hB, y, he, n⟩ => ⟨y, he, .old hB n⟩⟩⟩
end
end Go.Rx
set_option linter.unusedVariables false
set_option linter.unusedSimpArgs false
namespace Go.Rx
open Go.RowKit (Below)

abbrev Sum := List SV → SH → Option (SV × SH)
/-- What such a contract says, in each world in which something is so. -/
def SumOK (P : Program) (X : World → Prop) (r : FuncId × Sum) : Prop :=
  (∃ fn, P.funcs[r.1]? = some fn ∧ fn.body.isSome = true ∧ (fn.name == "runtime.NumGoroutine") = false) ∧
  ∀ args x s s', r.2 args s = some (x, s') → s'.ob → s.ob ∧ ∀ ν M w0 w a, HR ν M w0 s w → X w → VRL ν args a →
    Calls P r.1 a.toArray w fun e w' => Below w.heap.size w w' ∧ ∃ y, e = .returned y ∧ NewVal ν s w s' w' x y
/-- .. or of a function that turns one object that is told. -/
def SumOKT (P : Program) (X : World → Prop) (r : FuncId × Sum) : Prop :=
  (∃ fn, P.funcs[r.1]? = some fn ∧ fn.body.isSome = true ∧ (fn.name == "runtime.NumGoroutine") = false) ∧
  ∀ args x s s', r.2 args s = some (x, s') → s'.ob → s.ob ∧ ∀ ν M w0 w a, HR ν M w0 s w → X w → VRL ν args a →
    Calls P r.1 a.toArray w fun e w' => ∃ y, e = .returned y ∧ TurnVal ν s w s' w' x y
theorem SumOK.t {P : Program} {X : World → Prop} {r : FuncId × Sum} (h : SumOK P X r) : SumOKT P X r :=
  ⟨h.1, fun args x s s' hx ob => ⟨(h.2 args x s s' hx ob).1, fun ν M w0 w a hr hX ha => ((h.2 args x s s' hx ob).2 ν M w0 w a hr hX ha).mono fun e w' ⟨hB, y, he, n⟩ => ⟨y, he, .old hB n⟩⟩⟩
theorem SumsOK.listT {E : Env} {M : Own} {w0 : World} {X : World → Prop} {l : List (FuncId × Sum)} (hE : E.sums = fun f => l.lookup f) (h : ∀ r ∈ l, SumOKT E.P X r) (hX : ∀ ν s w, HR ν M w0 s w → GR ν E → X w) : SumsOK E M w0 := by
  intro f g hg args x s s' hx ob
  rw [hE] at hg
  obtain ⟨⟨fn, hf, hb, hn⟩, hc⟩ := h _ (lookup_mem' hg)
  obtain ⟨ob1, hc⟩ := hc args x s s' hx ob
  exact ⟨ob1, fun ν w a hr hgr ha => ⟨run_callFunc hf (by intro e; rw [e] at hb; cases hb) (by intro e; rw [e] at hn; simp at hn), hc ν M w0 w a hr (hX ν s w hr hgr) ha⟩⟩
theorem SumsOK.list {E : Env} {M : Own} {w0 : World} {X : World → Prop} {l : List (FuncId × Sum)} (hE : E.sums = fun f => l.lookup f) (h : ∀ r ∈ l, SumOK E.P X r) (hX : ∀ ν s w, HR ν M w0 s w → GR ν E → X w) : SumsOK E M w0 :=
  SumsOK.listT hE (fun r hr => (h r hr).t) hX
theorem SumOK.pure {P : Program} {X : World → Prop} {r : FuncId × PS} (h : PureOK P X r) : SumOK P X (r.1, pureSum r.2) := by
  obtain ⟨hf, hc⟩ := h
  refine ⟨hf, fun args x s s' hx ob => ?_⟩
  dsimp only at hx
  unfold pureSum at hx
  split at hx
  · rename_i vs hvs
    split at hx
    · rename_i v p hp
      cases hx
      refine ⟨ob.1, fun ν M w0 w a hr hXw ha => ?_⟩
      obtain rfl := plainVs_ok hvs ha
      exact (hc a v p hp ob.2 w hXw).mono fun e w' ⟨hbel, he⟩ => ⟨hbel, v, he, .same (SH.owe_same _ _) (VR.v_iff.2 rfl)⟩
    · cases hx
  · cases hx
theorem SumOK.join {P : Program} {X : World → Prop} {J : FuncId} (h : JoinOK P J) : SumOK P X (J, joinSum) := by
  refine ⟨h.1, fun args x s s' hx ob => ?_⟩
  let E : Env := { P, ext := fun _ => none, G := [], orc := fun _ => none, sums := fun _ => none, qs := fun _ => none }
  have hE : JoinOK E.P J := h
  have hs := fun (M : Own) (w0 : World) => joinSum_ok (E := E) (M := M) (w0 := w0) hE hx ob
  refine ⟨(hs (Own.just fun _ => False) default).1, fun ν M w0 w a hr _ ha => ?_⟩
  exact ((hs M w0).2 ν w a hr (fun g i hgi => by cases hgi) ha).2
/-- A call that gives a slice of these texts, if something is so. -/
def wordsSum (elem : TypeId) (ws : List ByteArray) (p : ByteArray → ByteArray → Prop) : Sum := fun args s =>
  match args with
  | [.v (.string a), .v (.string b)] => (sNew (.row (ws.map fun b => SV.v (.string b)) elem (0, 0) none) (s.owe (p a b))).map fun r => (.sl r.1 0 ws.length (some ws.length), r.2)
  | _ => none
theorem words_row (ν : Val) (i : Nat) (ws : List ByteArray) (elem : TypeId) : OR ν i (.row (ws.map fun b => SV.v (.string b)) elem (0, 0) none) (.cells (ws.map Value.string).toArray elem) :=
  ⟨ws.map Value.string, [], by simp, by have := VRL.lits ν (ws.map Value.string); rwa [List.map_map] at this, by show _ = _; simp⟩
theorem SumOK.words {P : Program} {X : World → Prop} {f : FuncId} {elem : TypeId} {ws : List ByteArray} {p : ByteArray → ByteArray → Prop} (hf : ∃ fn, P.funcs[f]? = some fn ∧ fn.body.isSome = true ∧ (fn.name == "runtime.NumGoroutine") = false)
    (h : ∀ a b w, p a b → X w → Calls P f #[.string a, .string b] w fun e w' => e = .returned (.slice (some ⟨w.heap.size, 0, none⟩) ws.length ws.length) ∧ w' = w.alloc (.cells (ws.map Value.string).toArray elem)) : SumOK P X (f, wordsSum elem ws p) := by
  refine ⟨hf, fun args x s s' hx ob => ?_⟩
  dsimp only at hx
  unfold wordsSum at hx
  split at hx
  · rename_i ta tb
    obtain ⟨⟨i, s1⟩, hn, hx⟩ := Option.map_eq_some_iff.1 hx
    cases hx
    unfold sNew at hn
    cases hroom : (s.owe (p ta tb)).room
    · rw [hroom] at hn; cases hn
    rw [hroom] at hn
    simp only [cond_true] at hn
    cases hn
    have ob2 : (s.owe (p ta tb)).ob := ob
    refine ⟨ob2.1, fun ν M w0 w a hr hXw ha => ?_⟩
    obtain ⟨y1, ys, rfl, e1, ha⟩ := ha.cons_inv
    obtain ⟨y2, ys, rfl, e2, ha⟩ := ha.cons_inv
    obtain rfl := ha.nil_inv
    obtain rfl := VR.v_iff.1 e1
    obtain rfl := VR.v_iff.1 e2
    refine (h ta tb w ob2.2 hXw).mono fun e w' ⟨he, hw⟩ => ?_
    subst hw
    exact ⟨(Below.refl _ _).alloc (Nat.le_refl _) _, _, he, .made (s.owe (p ta tb)) _ w.heap.size 0 _ (SH.owe_same _ _) hroom rfl (Nat.le_refl _) (Array.getElem?_push_size) (words_row _ _ ws elem) (VR.sl_iff.2 ⟨(w.heap.size, 0), Val.put_self _ _ _, by simp, rfl⟩)⟩
  · cases hx
end Go.Rx
set_option linter.unusedVariables false
set_option linter.unusedSimpArgs false
namespace Go.Rx
open Go.RowKit (Below)
def noSM : SM := { top := { fn := 0, tm := tmOf 0 0 [], todo := [], defers := [], ret := false, kind := .normal, ro := none }, callers := [], mem := memOf 0 0 0 [] }
/-- A call that begins with nothing told. -/
def entE (E : Env) (f : FuncId) (args : List SV) : SM := (enterS E f args (memOf 6 0 0 [])).getD noSM
def ff (l : List Nat) (b : Bool) : List (Nat × Ans) := l.map fun n => (n, .b b)
/-- What is owed, folded. -/
structure Due (l : List Prop) : Prop where
  out : Owed l
/-- A call that begins with nothing told, in pieces. -/
theorem calls_bare {E : Env} {P : Program} (hP : E.P = P) (hG : E.G = []) {f : FuncId} {args : List SV} {a : List Value} {S0 : SM} {Q : Value → Prop} (w : World) (hS0 : enterS E f args (memOf 6 0 0 []) = some S0) (ha : VRL (layVal []) args a)
    (hs : ∀ cs0, Goes E (layOwn [] []) w cs0 f (fun e w' => Below w.heap.size w w' ∧ ∃ v, e = .returned v ∧ Q v) (layVal []) S0) : Calls P f a.toArray w fun e w' => Below w.heap.size w w' ∧ ∃ v, e = .returned v ∧ Q v :=
  calls_of_read (E := E) hP (d := 6) (l := []) (os := []) rfl (by simp) (by simp) (fun i o b c h => by simp at h) hG hS0 ha hs
theorem not_laid (b : Nat) : ¬ (layOwn [] []) b := by rintro ⟨i, o, c, h, _⟩; simp at h
/-- .. by one run. -/
theorem calls_endsV {E : Env} {P : Program} (hP : E.P = P) (hG : E.G = []) {f : FuncId} {args : List SV} {a : List Value} {n : Nat} {o : List (Nat × Ans)} {v : Value} {w : World} (K : Facts E (layOwn [] []) w)
    (hS0 : enterS E f args (memOf 6 0 0 []) = some (entE E f args)) (ha : VRL (layVal []) args a) (h : Due (endsV E f n (entE E f args) o v)) : Calls P f a.toArray w fun e w' => Below w.heap.size w w' ∧ e = .returned v :=
  (calls_bare (Q := fun u => u = v) hP hG w hS0 ha fun cs0 => Goes.endsV K h.out fun ν' M1 w1 s' w' _ hB hr => ⟨below_of not_laid hB hr, _, rfl, rfl⟩).mono fun e w' ⟨h1, u, h2, h3⟩ => ⟨h1, by rw [h2, h3]⟩
/-- A contract: the cases of its arguments are told by whoever uses it. -/
theorem PureOK.mk {P : Program} {X : World → Prop} {f : FuncId} {ps : PS} (hf : ∃ fn, P.funcs[f]? = some fn ∧ fn.body.isSome = true ∧ (fn.name == "runtime.NumGoroutine") = false)
    (h : ∀ args v p, ps args = some (v, p) → p → ∀ w, X w → Calls P f args.toArray w fun e w' => Below w.heap.size w w' ∧ e = .returned v) : PureOK P X (f, ps) := ⟨hf, h⟩
theorem cell_keep {w0 w : World} {g : Nat} {v : Value} (h : w0.cell? ⟨g, 0, none⟩ = some v) (hk : ∀ k, k < w0.heap.size → w.heap[k]? = w0.heap[k]?) : w.cell? ⟨g, 0, none⟩ = some v := by
  have hlt : g < w0.heap.size := by
    rcases Nat.lt_or_ge g w0.heap.size with h' | h'
    · exact h'
    · unfold World.cell? at h
      simp only at h
      rw [Array.getElem?_eq_none h'] at h
      cases h
  unfold World.cell? at h ⊢
  simp only at h ⊢
  rw [hk g hlt]; exact h
end Go.Rx
set_option linter.unusedVariables false
set_option linter.unusedSimpArgs false
namespace Go.Rx
open Go.RowKit (Below)
section
variable {E : Env} {ν : Val} {M : Own} {w0 w : World} {s s' : SH} {cs0 : List Frame} {f : FuncId} {R : Ending → World → Prop}

theorem Goes.mono {ν' : Val} {S : SM} (h : Goes E M w0 cs0 f R ν S) (k : ν.Le ν') : Goes E M w0 cs0 f R ν' S := fun ν1 m M1 w1 hle => h ν1 m M1 w1 (k.trans hle)

/-- So many turns, each end being 'true': all goes well if it goes well from what is left. -/
theorem runV_safe (K : Facts E M w0) (hR : ∀ ν' M1 w1 s' w', ν.Le ν' → Base M w0 M1 w1 → HR ν' M1 w1 s' w' → R (.returned (.bool true)) w') : ∀ {n : Nat} {l l' : List SM}, runV E f n l = some l' →
    (∀ S ∈ l', S.mem.ob ∧ Goes E M w0 cs0 f R ν S) → ∀ S ∈ l, S.mem.ob ∧ Goes E M w0 cs0 f R ν S
  | 0, _, _, h, hs => by cases h; exact hs
  | _ + 1, [], _, _, _ => fun S hS => by cases hS
  | n + 1, S :: l, l', h, hs => by
    unfold runV at h
    cases ho : S.over
    · rw [ho] at h
      simp only [cond_false] at h
      split at h
      · cases h
      · rename_i Ls hL
        have ih := runV_safe K hR h hs
        intro T hT
        rcases List.mem_cons.1 hT with rfl | hT
        · obtain ⟨hne, hmono⟩ := step1_mono hL
          obtain ⟨U, r, hU⟩ := List.exists_cons_of_ne_nil hne
          refine ⟨hmono U (by rw [hU]; exact List.mem_cons_self) (ih U (List.mem_append_left _ (by rw [hU]; exact List.mem_cons_self))).1, ?_⟩
          intro ν' m M1 w1 hle hB hm
          obtain ⟨V, hV, hstep⟩ := step1_ok K hB hm hL
          obtain ⟨ob, hgo⟩ := ih V (List.mem_append_left _ hV)
          obtain ⟨_, ν2, m', M2, w2, hle2, hst, hB2, hMR⟩ := hstep ob
          exact (hgo ν2 m' M2 w2 (hle.trans hle2) hB2 hMR).steps hst
        · exact ih T (List.mem_append_right _ hT)
    · rw [ho] at h
      simp only [cond_true] at h
      cases hk : okEnd E f S
      · rw [hk] at h; cases h
      · rw [hk] at h
        simp only [cond_true] at h
        have ih := runV_safe K hR h hs
        intro T hT
        rcases List.mem_cons.1 hT with rfl | hT
        · unfold okEnd at hk
          split at hk
          · rename_i s1 he
            have ob : s1.ob := by
              show Owed s1.obl
              rw [List.isEmpty_iff.1 hk]; trivial
            refine ⟨resultsS_mono' he ob, Goes.done he ob fun ν' M1 w1 w' v hle hB hv hr hg => ?_⟩
            rw [VR.v_iff.1 hv]
            exact hR ν' M1 w1 s1 w' hle hB hr
          · cases hk
        · exact ih T hT

/-! ### what is dead is forgotten -/

theorem TmR.junk {tm : STm} {a : Array Value} (r : TmR ν tm a) (t : Nat) : TmR ν (tm.set t .junk) a := by
  have h := r.set t (x := .junk) (y := a.getD t undef) (by rw [VR]; trivial)
  have e : a.setIfInBounds t (a.getD t undef) = a := by
    apply Array.ext
    · simp
    · intro i h1 h2
      rw [Array.getElem_setIfInBounds (by simpa using h1)]
      split
      · rename_i e; subst e
        have : t < a.size := h2
        simp [Array.getD, this]
      · rfl
  rwa [e] at h

def STm.junks (tm : STm) (l : List Nat) : STm := l.foldl (fun tm t => tm.set t .junk) tm
theorem TmR.junks : ∀ {l : List Nat} {tm : STm} {a : Array Value}, TmR ν tm a → TmR ν (tm.junks l) a
  | [], _, _, h => h
  | t :: l, _, _, h => TmR.junks (l := l) (h.junk t)

def notDrw : List SI → Bool
  | .drw _ _ _ :: _ => false
  | _ => true

def SF.junks (F : SF) (l : List Nat) : SF := bif notDrw F.todo then { F with tm := F.tm.junks l } else F

theorem WaitF.junks {hl : List Nat} {F : SF} {fr : Frame} (h : WaitF E ν M w0 hl F fr) (l : List Nat) : WaitF E ν M w0 hl (F.junks l) fr := by
  unfold SF.junks
  cases hn : notDrw F.todo
  · exact h
  · obtain ⟨fn, tm, todo, defers, ret, kind, ro⟩ := F
    obtain ⟨fn', tmps, todo', defers', mode', kind', ro'⟩ := fr
    obtain ⟨⟨h1, h2, h3, h4⟩, hret, hmode, hw⟩ := h
    dsimp only at h1 h2 h3 h4 hret hmode hw hn
    refine ⟨⟨h1, h2, h3, h4⟩, hret, hmode, ?_⟩
    cases hw with
    | plain ht hk => exact .plain (ht.junks) hk
    | drw hok hn' d hnl hk => cases hn

theorem RetF.junks {F : SF} {fr : Frame} (h : RetF ν F fr) (l : List Nat) : RetF ν (F.junks l) fr := by
  unfold SF.junks
  cases hn : notDrw F.todo
  · exact h
  · exact ⟨⟨h.base.fn, h.base.defers, h.base.kind, h.base.ro⟩, h.ret, h.mode, h.tm.junks⟩

theorem SF.junks_kind (F : SF) (l : List Nat) : (F.junks l).kind = F.kind := by unfold SF.junks; cases notDrw F.todo <;> rfl

def junksL : List SF → List (List Nat) → List SF
  | F :: Fs, l :: ls => F.junks l :: junksL Fs ls
  | Fs, [] => Fs
  | [], _ => []

theorem CallersR.junks {hl : List Nat} {k : CallKind} {Fs : List SF} {frs : List Frame} (c : CallersR E ν M w0 cs0 hl k Fs frs) : ∀ ls : List (List Nat), CallersR E ν M w0 cs0 hl k (junksL Fs ls) frs := by
  induction c with
  | nil hnd => intro ls; cases ls <;> exact .nil hnd
  | wait hf t ih =>
    intro ls
    cases ls with
    | nil => exact .wait hf t
    | cons l ls =>
      have := ih ls
      exact .wait (hf.junks l) (by rw [SF.junks_kind]; exact this)
  | ret hf t ih =>
    intro ls
    cases ls with
    | nil => exact .ret hf t
    | cons l ls => exact .ret (hf.junks l) (by rw [SF.junks_kind]; exact ih ls)

def SH.drops (s : SH) (l : List Nat) : SH := l.foldl (fun s i => bif Nat.blt i (2 ^ s.d) then s.drop i else s) s
theorem HR.drops : ∀ {l : List Nat} {s : SH}, HR ν M w0 s w → HR ν M w0 (s.drops l) w
  | [], _, h => h
  | i :: l, s, h => by
    show HR ν M w0 (SH.drops (bif Nat.blt i (2 ^ s.d) then s.drop i else s) l) w
    cases hb : Nat.blt i (2 ^ s.d)
    · exact HR.drops (l := l) h
    · exact HR.drops (l := l) (h.drop (blt_iff.1 hb))

/-- The numbers of a memory are set on: of the next object, and of the choices. -/
def SH.setOn (s : SH) (nx : Nat) : SH := { s with nx := bif Nat.ble s.nx nx then nx else s.nx, dc := 0 }
theorem HR.setOn (h : HR ν M w0 s w) (nx : Nat) : HR ν M w0 (s.setOn nx) w := by
  refine ⟨h.full, h.dom, fun i hi => h.fresh i (Nat.le_trans ?_ hi), h.obj, h.inj, h.size, h.frame, h.ro, h.os, h.tape, h.output⟩
  show s.nx ≤ (bif Nat.ble s.nx nx then nx else s.nx)
  cases hb : Nat.ble s.nx nx
  · exact Nat.le_refl _
  · exact Nat.le_of_ble_eq_true hb

/-- What a state is to forget: objects, temporaries of each frame; the next number that it is set on to (and 'false': it stays as it is). -/
abbrev Gc := Bool × List Nat × List (List Nat) × Nat
/-- A state of which some objects, and some temporaries of each frame, are forgotten. -/
def SM.gc (S : SM) (g : Gc) : SM :=
  bif g.1 && notDrw S.top.todo then { top := S.top.junks (g.2.2.1.headD []), callers := junksL S.callers g.2.2.1.tail, mem := (S.mem.drops g.2.1).setOn g.2.2.2 } else S

theorem drops_obl : ∀ {l : List Nat} {s : SH}, (s.drops l).obl = s.obl
  | [], _ => rfl
  | i :: l, s => by
    show (SH.drops (bif Nat.blt i (2 ^ s.d) then s.drop i else s) l).obl = s.obl
    rw [drops_obl (l := l)]
    cases Nat.blt i (2 ^ s.d) <;> rfl

theorem MR.gc {S : SM} {m : Machine} (h : MR E M w0 cs0 ν S m) (g : Gc) : MR E M w0 cs0 ν (S.gc g) m := by
  obtain ⟨on, os, ts, nx⟩ := g
  unfold SM.gc
  dsimp only
  cases on
  · exact h
  cases hn : notDrw S.top.todo
  · exact h
  simp only [Bool.and_self, cond_true]
  obtain ⟨fr, cs, w, hl, hm, hr, hg, ⟨h1, h2, h3⟩, hc⟩ := h
  refine ⟨fr, cs, w, hl, hm, (hr.drops).setOn nx, hg, ⟨?_, ?_, ?_⟩, ?_⟩
  · unfold SF.junks; rw [hn]; exact ⟨h1.fn, h1.defers, h1.kind, h1.ro⟩
  · intro hf
    have hf' : S.top.ret = false := by unfold SF.junks at hf; rw [hn] at hf; exact hf
    refine ⟨(h2 hf').1, ?_⟩
    have := (h2 hf').2
    unfold SF.junks; rw [hn]
    simp only [cond_true]
    revert this hn
    generalize S.top.todo = xs
    generalize fr.todo = ys
    intro hn this
    cases this with
    | plain ht hk => exact .plain ht.junks hk
    | drw hok hn' d st hk => cases hn
  · intro hf
    have hf' : S.top.ret = true := by unfold SF.junks at hf; rw [hn] at hf; exact hf
    refine ⟨(h3 hf').1, ?_⟩
    unfold SF.junks; rw [hn]; exact (h3 hf').2.junks
  · dsimp only
    rw [SF.junks_kind]; exact hc.junks _

theorem Goes.gc {S : SM} {g : Gc} (h : (S.gc g).mem.ob ∧ Goes E M w0 cs0 f R ν (S.gc g)) : S.mem.ob ∧ Goes E M w0 cs0 f R ν S := by
  refine ⟨?_, fun ν' m M1 w1 hle hB hm => h.2 ν' m M1 w1 hle hB (hm.gc g)⟩
  have := h.1
  unfold SM.gc at this
  cases hn : (g.1 && notDrw S.top.todo)
  · rw [hn] at this; exact this
  · rw [hn] at this
    show Owed S.mem.obl
    have e : ((S.mem.drops g.2.1).setOn g.2.2.2).ob := this
    have e : Owed (S.mem.drops g.2.1).obl := e
    rwa [drops_obl] at e

/-- What each of some states is to forget. -/
def gcs : List SM → List Gc → List SM
  | S :: l, g :: gs => S.gc g :: gcs l gs
  | l, [] => l
  | [], _ => []
theorem gcs_safe : ∀ {l : List SM} {gs : List Gc}, (∀ S ∈ gcs l gs, S.mem.ob ∧ Goes E M w0 cs0 f R ν S) → ∀ S ∈ l, S.mem.ob ∧ Goes E M w0 cs0 f R ν S
  | [], _, _ => fun S hS => by cases hS
  | S :: l, [], h => h
  | S :: l, g :: gs, h => by
    intro T hT
    rcases List.mem_cons.1 hT with rfl | hT
    · exact Goes.gc (h _ List.mem_cons_self)
    · exact gcs_safe (l := l) (gs := gs) (fun U hU => h U (List.mem_cons_of_mem _ hU)) T hT

/-- A stage: so many turns, then what is dead is forgotten. -/
def stageV (E : Env) (f : FuncId) (n : Nat) (l : List SM) (gs : List Gc) : Option (List SM) := (runV E f n l).map fun l => gcs l gs

theorem stageV_safe (K : Facts E M w0) (hR : ∀ ν' M1 w1 s' w', ν.Le ν' → Base M w0 M1 w1 → HR ν' M1 w1 s' w' → R (.returned (.bool true)) w') {n : Nat} {l l' : List SM} {gs : List Gc} (h : stageV E f n l gs = some l')
    (hs : ∀ S ∈ l', S.mem.ob ∧ Goes E M w0 cs0 f R ν S) : ∀ S ∈ l, S.mem.ob ∧ Goes E M w0 cs0 f R ν S := by
  unfold stageV at h
  obtain ⟨l1, h1, rfl⟩ := Option.map_eq_some_iff.1 h
  exact runV_safe K hR h1 (gcs_safe hs)

/-- From these states all goes well. -/
def AllSafe (E : Env) (M : Own) (w0 : World) (f : FuncId) (ν : Val) (l : List SM) : Prop :=
  ∀ cs0, ∀ S ∈ l, S.mem.ob ∧ Goes E M w0 cs0 f (fun e w' => e = .returned (.bool true) ∧ Below w0.heap.size w0 w') ν S
theorem AllSafe.cons {S : SM} {l : List SM} (h : AllSafe E M w0 f ν [S]) (k : AllSafe E M w0 f ν l) : AllSafe E M w0 f ν (S :: l) := fun cs0 T hT => by
  rcases List.mem_cons.1 hT with rfl | hT
  · exact h cs0 _ List.mem_cons_self
  · exact k cs0 T hT
theorem AllSafe.nil : AllSafe E M w0 f ν [] := fun _ _ h => by cases h
theorem AllSafe.stage (K : Facts E M w0) (hM : ∀ b, ¬ M b) {n : Nat} {l l' : List SM} {gs : List Gc} (h : stageV E f n l gs = some l') (hs : AllSafe E M w0 f ν l') : AllSafe E M w0 f ν l := fun cs0 =>
  stageV_safe K (fun ν' M1 w1 s' w' _ hB hr => ⟨rfl, below_of hM hB hr⟩) h (hs cs0)

/-- A call over told package variables, out of its stages. -/
theorem calls_stages {P : Program} (hP : E.P = P) {d : Nat} {l : List (Nat × List SV)} {S0 : SM} (hG : E.G = (l.map (·.1)).zipIdx) (hd : l.length ≤ 2 ^ d) (hn : (l.map (·.1)).Nodup) (told : ∀ r ∈ l, Told w r)
    (hS0 : enterS E f [] (laidMem d l) = some S0) (hs : AllSafe E (laidOwn l) w f (laidVal l) [S0]) : Calls P f #[] w fun e w' => e = .returned (.bool true) ∧ Below w.heap.size w w' :=
  calls_pieces (a := []) hP hG hd hn told hS0 VRL.nil fun cs0 => (hs cs0 S0 List.mem_cons_self).2
end

/-- A memory whose objects are told with their numbers. -/
def memAt (d nx dc : Nat) (l : List (Nat × SO × Bool)) : SH := { d, H := l.foldl (fun T x => T.set x.1 (some (x.2.1, x.2.2))) (Tr.mk none d), nx, obl := [], dc }
/-- Temporaries that are told with their numbers; the others are forgotten. -/
def tmAt (nt d k : Nat) (l : List (Nat × SV)) : STm := { nt, d, T := l.foldl (fun T x => T.set x.1 x.2) (Tr.fill (Tr.mk (.v undef) d) 0 (List.replicate k .junk)) }
end Go.Rx
set_option linter.unusedVariables false
set_option linter.unusedSimpArgs false
namespace Go.Rx
open Go.RowKit
theorem tab_of {P : Program} {W : World} {l : List (String × DataW Unit)} (h : laidMetH P l W) {v : String} {k : IntKind} {zs : List Int} (hm : (v, (Lib.tabData k zs : DataW Unit)) ∈ l.filter fun x => x.2.handleName?.isNone)
    {g : Nat} (hg : P.globalNamed v = some g) {t e : TypeId} (ht : (P.globals[g]?).map (·.type) = some t) {n : Nat} (hu : P.underlying t = some (.array n e)) (he : P.underlying e = some (.int k)) (hc : P.cellsOf e = 1) (hct : P.cellsOf t = n) : Lib.TabIs P W v k zs := by
  obtain ⟨ps, hl, _, _⟩ := laidMetH_plain' h
  obtain ⟨g', t', cs, fuel, p, h1, h2, h3, hd⟩ := laidVars_mem hl hm
  rw [hg] at h1; cases h1
  rw [ht] at h2; cases h2
  have hcs := Lib.cells_of_tab hu he hc hct hd
  unfold Lib.TabIs
  rw [h3, ← hcs]
theorem iface_cell {H : Type} {enc : TypeId × Value → H} {P : Program} {W : World} {base : Nat} {sp : Nat → Bool} {held : Bool} {fuel : Nat} {t : TypeId} {ms : Array (String × TypeId)} {cs : List Value} {x : DataW H × List MemPlace}
    (hu : P.underlying t = some (.interface ms)) (hd : DataW.trod enc P W base sp held fuel t cs = some x) : ∃ v, cs = [v] ∧ (v = .nilIface ∨ ∃ u z, v = .iface u z) := by
  cases fuel with
  | zero => simp [DataW.trod] at hd
  | succ n =>
    unfold DataW.trod at hd
    rw [hu] at hd
    split at hd <;> first | exact ⟨_, rfl, .inl rfl⟩ | exact ⟨_, rfl, .inr ⟨_, _, rfl⟩⟩ | simp_all
theorem err_of {P : Program} {W : World} {l : List (String × DataW Unit)} (h : laidMetH P l W) {v : String} {d : DataW Unit} (hm : (v, d) ∈ l.filter fun x => x.2.handleName?.isNone)
    {g : Nat} (hg : P.globalNamed v = some g) {t : TypeId} (ht : (P.globals[g]?).map (·.type) = some t) {ms : Array (String × TypeId)} (hu : P.underlying t = some (.interface ms)) :
    ∃ ev, W.cell? ⟨g, 0, none⟩ = some ev ∧ (ev = .nilIface ∨ ∃ te pe, ev = .iface te pe) := by
  obtain ⟨ps, hl, _, _⟩ := laidMetH_plain' h
  obtain ⟨g', t', cs, fuel, p, h1, h2, h3, hd⟩ := laidVars_mem hl hm
  rw [hg] at h1; cases h1
  rw [ht] at h2; cases h2
  obtain ⟨ev, hcs, hev⟩ := iface_cell hu hd
  have h0 := World.var?_cell hg h3 0
  refine ⟨ev, ?_, hev⟩
  rw [h0, ← Array.getElem?_toList, hcs]; rfl
section
variable {H : Type} {enc : TypeId × Value → H}
/-- As the kit's rule for rows with a condition, with the shape of the world handed on. -/
theorem returns_shaped {a : Assume} {C : Checked} {os : Os} {f : FuncId} {fn : Func} {s : ChangeSpec} {conds : List PathCond} {apart fresh handsOn again : Bool} {X : World → Array Value → Prop}
    (hX : ∀ (w w' : World) (args : Array Value), w.heap = w'.heap → X w args → X w' args) (own : ownKnob C.prog.godebug = none) (started : os.Started) (noInit : C.prog.inits.idxOf? f = none) (hfn : C.prog.funcs[f]? = some fn)
    (witness : ∃ (w : World) (tape : Tape) (i : Input), w.os = os ∧ (w.forCall tape i).Shaped C.prog ∧ i.vars = [] ∧ Input.okWide C.prog (w.forCall tape i) .any w.heap.size f i ∧
      ((s.pre enc C.prog fn conds apart (w.forCall tape i).memory i.args ∧ X (w.forCall tape i).memory i.args) ∧ sizedMet enc C.prog fn (OpenSpec.ofChange s) apart (w.forCall tape i).memory i.args) ∧ a.holds C.prog (lone (Frame.enter C.prog f i.args .normal) [] (w.forCall tape i)))
    (K : ∀ (W : World) (base : Nat) (args : Array Value) (ds gs : List (DataW H)) (before : List MemPlace), (∀ (j : Nat) t v, fn.params[j]? = some t → args[j]? = some v → Value.okWide C.prog W .any base t v) →
      DataW.Whole enc C.prog fn.params.toList s.vars apart W args.toList ds gs before → conds.all (PathCond.test C.prog ⟨fn.params.toList, ds, s.plain.varTypes C.prog, gs⟩) = true →
      (DataW.weightsEach C.prog (fn.params.toList ++ s.plain.varTypes C.prog) (ds ++ gs)).all (· ≤ reachBytes) = true → X W args → W.ShapedOpen C.prog →
      Calls C.prog f args W fun e W' => ∃ v, e = .returned v ∧ s.post enc C.prog fn apart fresh handsOn again W args v W') :
    ReturnsInHanded a C os f .any (fun w args => (s.pre enc C.prog fn conds apart w args ∧ X w args) ∧ sizedMet enc C.prog fn (OpenSpec.ofChange s) apart w args) (s.post enc C.prog fn apart fresh handsOn again) := by
  refine returnsInHanded_of_calls own started noInit witness fun w tape i _ hsh _ hok hpre _ => ?_
  obtain ⟨_, _, _, fn', hfn', _, _, _, _, hval⟩ := hok
  obtain rfl : fn' = fn := Option.some.inj (hfn'.symm.trans hfn)
  obtain ⟨⟨⟨ds, gs, before, hw, hc⟩, hx⟩, hz⟩ := hpre
  refine (K (w.forCall tape i) w.heap.size i.args ds gs before hval (DataW.Whole.of_heap (w' := w.forCall tape i) (by rfl) hw) hc (hz.weights hw) (hX _ _ _ (by rfl) hx) hsh).mono fun e W' ⟨v, he, hp⟩ => ?_
  subst he
  exact ChangeSpec.post_blind hp
end
end Go.Rx
set_option linter.unusedVariables false
set_option linter.unusedSimpArgs false
namespace Go.Rx
open Go.RowKit (Below)
section
variable {E : Env} {ν : Val} {M : Own} {w0 w : World} {s s' : SH} {cs0 : List Frame} {f : FuncId} {R : Ending → World → Prop}
/-- What is owed for a state to come to the call's end with this value, and with an object that is told. -/
def endsO (E : Env) (f : FuncId) (n : Nat) (S : SM) (o : List (Nat × Ans)) (x : SV) (i : Nat) (so : SO) : List Prop :=
  match goS E SM.over n (S.with o) with
  | some T => match endS E f T with
    | some (y, s') => match s'.look i with
      | some (so', true) => leV [(i, i)] x y ++ (leO [(i, i)] true so so' ++ s'.obl)
      | _ => [False]
    | none => [False]
  | none => [False]
theorem Goes.endsO (K : Facts E M w0) {n : Nat} {S : SM} {o : List (Nat × Ans)} {x : SV} {i : Nat} {so : SO} (h : Owed (Go.Rx.endsO E f n S o x i so))
    (hR : ∀ ν' w' y b ob, VR ν' x y → ν' i = some b → w'.heap[b.1]? = some ob → OR ν' i so ob → (w0.heap.size ≤ b.1 ∨ M b.1) → (∃ ν1 M1 w1 s', Base M w0 M1 w1 ∧ HR ν1 M1 w1 s' w') → R (.returned y) w') : Goes E M w0 cs0 f R ν S := by
  unfold Go.Rx.endsO at h
  split at h
  · rename_i T hT
    split at h
    · rename_i y s' hend
      split at h
      · rename_i so' hl
        obtain ⟨h1, h2⟩ := owed_app.1 h
        obtain ⟨h3, h4⟩ := owed_app.1 h2
        refine Goes.go K hT (resultsS_mono' hend h4) (Goes.done hend h4 fun ν' M1 w1 w' u hle hB hv hr hg => ?_)
        obtain ⟨_, _, b, ob, hb, ho, hor, hw⟩ := hr.look hl
        have hii : (([(i, i)] : List (Nat × Nat)).lookup i == some i) = true := by simp [List.lookup]
        exact hR (ν'.ren [(i, i)]) w' u b ob (leV_ok h1 hv) (ren_at hii hb) ho (leO_ok hii h3 hor) (hB.own _ (hw rfl)) ⟨ν', M1, w1, s', hB, hr⟩
      · exact owed_false h
    · exact owed_false h
  · exact owed_false h
end
/-- A call that begins with objects which it only reads, with whatever is told of its end. -/
theorem calls_readR {E : Env} {w : World} {f : FuncId} {R : Ending → World → Prop} {P : Program} (hP : E.P = P) {args : List SV} {a : List Value} {d : Nat} {l : List (Nat × Nat)} {os : List SO} {S0 : SM} (hlen : l.length = os.length) (hd : os.length ≤ 2 ^ d) (hn : (l.map (·.1)).Nodup)
    (ho : ∀ (i : Nat) (o : SO) (b c : Nat), os[i]? = some o → l[i]? = some (b, c) → ∃ r, w.heap[b]? = some r ∧ OR (layVal l) i o r) (hG : E.G = []) (hS0 : enterS E f args (memOf d os.length 0 (os.map fun o => some (o, false))) = some S0) (ha : VRL (layVal l) args a)
    (hs : ∀ cs0, Goes E (layOwn l (os.map fun o => (o, false))) w cs0 f R (layVal l) S0) : Calls P f a.toArray w R := by
  subst hP
  have ho' : ∀ (i : Nat) (o : SO) (m : Bool) (b c : Nat), (os.map fun o => (o, false))[i]? = some (o, m) → l[i]? = some (b, c) → ∃ r, w.heap[b]? = some r ∧ OR (layVal l) i o r := by
    intro i o m b c h1 h2
    rw [List.getElem?_map] at h1
    obtain ⟨o', h3, h4⟩ := Option.map_eq_some_iff.1 h1
    cases h4
    exact ho i o b c h3 h2
  have hr := lay_HR (d := d) (w := w) (by simpa using hlen) (by simpa using hd) hn ho'
  rw [List.map_map, List.length_map] at hr
  exact calls_of_safe hS0 hr (layOwn_r ho') (fun _ h => h) (fun g i h => by rw [hG] at h; cases h) ha hs
/-- .. with nothing told. -/
theorem calls_bareR {E : Env} {w : World} {f : FuncId} {R : Ending → World → Prop} {P : Program} (hP : E.P = P) (hG : E.G = []) {args : List SV} {a : List Value} {S0 : SM} (hS0 : enterS E f args (memOf 6 0 0 []) = some S0) (ha : VRL (layVal []) args a)
    (hs : ∀ cs0, Goes E (layOwn [] []) w cs0 f R (layVal []) S0) : Calls P f a.toArray w R :=
  calls_readR (E := E) hP (d := 6) (l := []) (os := []) rfl (by simp) (by simp) (fun i o b c h => by simp at h) hG hS0 ha hs
/-- A slice of so many elements of C cells, in a new block that begins with these cells. -/
def NewSl (W w' : World) (y : Value) (ys : List Value) (n C : Nat) (elem : TypeId) : Prop :=
  ∃ (b c : Nat) (rest : List Value), y = .slice (some ⟨b, 0, none⟩) n c ∧ W.heap.size ≤ b ∧ n ≤ c ∧ w'.heap[b]? = some (.cells (ys ++ rest).toArray elem) ∧ (ys ++ rest).length = c * C
theorem NewSl.of_row {ν : Val} {W w' : World} {i n C : Nat} {xs : List SV} {ys : List Value} {elem : TypeId} {y : Value} {b : Nat × Nat} {ob : Obj} (hv : VR ν (.sl i 0 n none) y) (hb : ν i = some b) (ho : w'.heap[b.1]? = some ob)
    (hor : OR ν i (.row xs elem (0, 0) (some C)) ob) (hn : W.heap.size ≤ b.1) (hu : ∀ zs, VRL ν xs zs → zs = ys) : NewSl W w' y ys n C elem := by
  obtain ⟨b', hb', hle, rfl⟩ := VR.sl_iff.1 hv
  rw [hb] at hb'; cases hb'
  obtain ⟨zs, rest, rfl, hz, _, b2, hb2, hsz⟩ := hor
  rw [hb] at hb2; cases hb2
  obtain rfl := hu zs hz
  have hle' : n ≤ b.2 := hle
  exact ⟨b.1, b.2, rest, rfl, hn, hle', by simpa using ho, hsz⟩
/-- .. where nothing was appended. -/
theorem NewSl.of_one {ν : Val} {W w' : World} {i n c C : Nat} {xs : List SV} {ys : List Value} {elem : TypeId} {y : Value} {b : Nat × Nat} {ob : Obj} (hv : VR ν (.sl i 0 n (some c)) y) (hb : ν i = some b) (ho : w'.heap[b.1]? = some ob)
    (hor : OR ν i (.row xs elem (0, 0) none) ob) (hn : W.heap.size ≤ b.1) (hu : ∀ zs, VRL ν xs zs → zs = ys) (hc : ys.length = c * C) : NewSl W w' y ys n C elem := by
  obtain ⟨b', hb', hle, rfl⟩ := VR.sl_iff.1 hv
  rw [hb] at hb'; cases hb'
  obtain ⟨zs, rest, rfl, hz, hsz⟩ := hor
  obtain rfl := hu zs hz
  have h0 : rest = [] := by
    have : (zs ++ rest).length = xs.length := hsz
    have h2 := hz.length
    rw [List.length_append] at this
    exact List.length_eq_zero_iff.1 (by omega)
  subst h0
  exact ⟨b.1, c, [], rfl, hn, hle, by simpa using ho, by simpa using hc⟩
/-- What such a call gives: its cells, how many elements, cells an element, their type, a second result, what is wanted. -/
abbrev SlS := List Value → Option (List Value × Nat × Nat × TypeId × Option Value × Prop)
def withEx (ex : Option Value) (x : SV) : SV := match ex with | none => x | some v => .tup [x, .v v]
def withExV (ex : Option Value) (y : Value) : Value := match ex with | none => y | some v => .tuple #[y, v]
def slSum (g : SlS) : Sum := fun args s => match plainVs args with
  | some vs => match g vs with
    | some (ys, n, C, elem, ex, p) => (sNew (.row (ys.map SV.v) elem (0, 0) (some C)) (s.owe p)).map fun r => (withEx ex (.sl r.1 0 n none), r.2)
    | none => none
  | none => none
theorem slSum_ok {P : Program} {X : World → Prop} {f : FuncId} {g : SlS} (hf : ∃ fn, P.funcs[f]? = some fn ∧ fn.body.isSome = true ∧ (fn.name == "runtime.NumGoroutine") = false)
    (h : ∀ vs ys n C elem ex p, g vs = some (ys, n, C, elem, ex, p) → p → ∀ w, X w → Calls P f vs.toArray w fun e w' => Below w.heap.size w w' ∧ ∃ y, e = .returned (withExV ex y) ∧ NewSl w w' y ys n C elem) : SumOK P X (f, slSum g) := by
  refine ⟨hf, fun args x s s' hx ob => ?_⟩
  dsimp only at hx
  unfold slSum at hx
  split at hx
  · rename_i vs hvs
    split at hx
    · rename_i ys n C elem ex p hp
      obtain ⟨⟨i, s1⟩, hn, hx⟩ := Option.map_eq_some_iff.1 hx
      cases hx
      unfold sNew at hn
      cases hroom : (s.owe p).room
      · rw [hroom] at hn; cases hn
      rw [hroom] at hn
      simp only [cond_true] at hn
      cases hn
      have ob2 : (s.owe p).ob := ob
      refine ⟨ob2.1, fun ν M w0 w a hr hXw ha => ?_⟩
      obtain rfl := plainVs_ok hvs ha
      refine (h a ys n C elem ex p hp ob2.2 w hXw).mono fun e w' ⟨hB, y, he, b, c, rest, hy, hb, hnc, ho, hsz⟩ => ?_
      have hv : VR (ν.put (s.owe p).nx (b, c)) (.sl (s.owe p).nx 0 n none) y := VR.sl_iff.2 ⟨(b, c), Val.put_self _ _ _, hnc, hy⟩
      refine ⟨hB, _, he, .made (s.owe p) _ b c _ (SH.owe_same _ _) hroom rfl hb ho ⟨ys, rest, by show _ = _; simp, VRL.lits _ _, ?_, (b, c), Val.put_self _ _ _, hsz⟩ ?_⟩
      · simp
      · cases ex with
        | none => exact hv
        | some v => exact VR.tup_iff.2 ⟨[y, v], rfl, VRL.cons hv (VRL.cons (VR.v_iff.2 rfl) VRL.nil)⟩
    · cases hx
  · cases hx
end Go.Rx
namespace Go.Rx
open Go.RowKit (Below)
/-- .. where the arguments stand for objects. -/
abbrev SlG := List SV → SH → Option (List Value × Nat × Nat × TypeId × Option Value × Prop)
def slSumG (g : SlG) : Sum := fun args s => match g args s with
  | some (ys, n, C, elem, ex, p) => (sNew (.row (ys.map SV.v) elem (0, 0) (some C)) (s.owe p)).map fun r => (withEx ex (.sl r.1 0 n none), r.2)
  | none => none
theorem slSumG_ok {P : Program} {X : World → Prop} {f : FuncId} {g : SlG} (hf : ∃ fn, P.funcs[f]? = some fn ∧ fn.body.isSome = true ∧ (fn.name == "runtime.NumGoroutine") = false)
    (h : ∀ args s ys n C elem ex p, g args s = some (ys, n, C, elem, ex, p) → p → ∀ ν M w0 w a, HR ν M w0 s w → X w → VRL ν args a → Calls P f a.toArray w fun e w' => Below w.heap.size w w' ∧ ∃ y, e = .returned (withExV ex y) ∧ NewSl w w' y ys n C elem) : SumOK P X (f, slSumG g) := by
  refine ⟨hf, fun args x s s' hx ob => ?_⟩
  dsimp only at hx
  unfold slSumG at hx
  split at hx
  · rename_i ys n C elem ex p hp
    obtain ⟨⟨i, s1⟩, hn, hx⟩ := Option.map_eq_some_iff.1 hx
    cases hx
    unfold sNew at hn
    cases hroom : (s.owe p).room
    · rw [hroom] at hn; cases hn
    rw [hroom] at hn
    simp only [cond_true] at hn
    cases hn
    have ob2 : (s.owe p).ob := ob
    refine ⟨ob2.1, fun ν M w0 w a hr hXw ha => ?_⟩
    refine (h args s ys n C elem ex p hp ob2.2 ν M w0 w a hr hXw ha).mono fun e w' ⟨hB, y, he, b, c, rest, hy, hb, hnc, ho, hsz⟩ => ?_
    have hv : VR (ν.put (s.owe p).nx (b, c)) (.sl (s.owe p).nx 0 n none) y := VR.sl_iff.2 ⟨(b, c), Val.put_self _ _ _, hnc, hy⟩
    refine ⟨hB, _, he, .made (s.owe p) _ b c _ (SH.owe_same _ _) hroom rfl hb ho ⟨ys, rest, by show _ = _; simp, VRL.lits _ _, ?_, (b, c), Val.put_self _ _ _, hsz⟩ ?_⟩
    · simp
    · cases ex with
      | none => exact hv
      | some v => exact VR.tup_iff.2 ⟨[y, v], rfl, VRL.cons hv (VRL.cons (VR.v_iff.2 rfl) VRL.nil)⟩
  · cases hx
/-- .. and a plain value comes back. -/
abbrev PlG := List SV → SH → Option (Value × Prop)
def plSumG (g : PlG) : Sum := fun args s => match g args s with
  | some (v, p) => some (.v v, s.owe p)
  | none => none
theorem plSumG_ok {P : Program} {X : World → Prop} {f : FuncId} {g : PlG} (hf : ∃ fn, P.funcs[f]? = some fn ∧ fn.body.isSome = true ∧ (fn.name == "runtime.NumGoroutine") = false)
    (h : ∀ args s v p, g args s = some (v, p) → p → ∀ ν M w0 w a, HR ν M w0 s w → X w → VRL ν args a → Calls P f a.toArray w fun e w' => Below w.heap.size w w' ∧ e = .returned v) : SumOK P X (f, plSumG g) := by
  refine ⟨hf, fun args x s s' hx ob => ?_⟩
  dsimp only at hx
  unfold plSumG at hx
  split at hx
  · rename_i v p hp
    cases hx
    exact ⟨ob.1, fun ν M w0 w a hr hXw ha => (h args s v p hp ob.2 ν M w0 w a hr hXw ha).mono fun e w' ⟨hB, he⟩ => ⟨hB, v, he, .same (SH.owe_same _ _) (VR.v_iff.2 rfl)⟩⟩
  · cases hx
end Go.Rx
set_option linter.unusedVariables false
set_option linter.unusedSimpArgs false
namespace Go.Rx
open Go.RowKit (Below)
/-- What an iterator is about to be asked: its number, the map's, since when it goes, which entries it has told, when it was last asked; the entries, the map's clock. -/
def nextD (E : Env) (S : SM) : Option (Nat × Nat × Nat × List Nat × Nat × List (SV × SV × Nat) × Nat) :=
  bif S.top.ret then none else match S.top.todo with
  | .reg ops (i :: _) :: _ => match ops[i]? with
    | some o => match o.guard, o.op with
      | none, .next it false => match evalOpd E S.top.tm it with
        | .ptr iter 0 => match S.mem.look iter with
          | some (.miter (some m) since seen last, true) => match S.mem.look m with
            | some (.map es clock, _) => some (iter, m, since, seen, last, es, clock)
            | _ => none
          | _ => none
        | _ => none
      | _, _ => none
    | none => none
  | _ => none
def atNext (E : Env) (S : SM) : Bool := (nextD E S).isSome
/-- The state behind it, where this entry comes. -/
def nextE (E : Env) (S : SM) (e : SV × SV × Nat) : Option SM := match nextD E S with
  | some (iter, m, since, seen, _, _, clock) => (finish E S.top (.tup [.v (.bool true), e.1, e.2.1]) (S.mem.put iter (.miter (some m) since (seen ++ [e.2.2]) clock))).map fun r => { top := r.1, callers := S.callers, mem := r.2 }
  | none => none
/-- .. where none comes. -/
def stopE (E : Env) (S : SM) : Option SM := (finish E S.top (.v (.tuple #[.bool false])) S.mem).map fun r => { top := r.1, callers := S.callers, mem := r.2 }
theorem joinM_all {f : SNext × SH → Option (List SM)} : ∀ {l : List (SNext × SH)}, (∀ x ∈ l, ∃ T, f x = some [T]) → ∃ Ls, joinM l f = some Ls ∧ ∀ T ∈ Ls, ∃ x ∈ l, f x = some [T]
  | [], _ => ⟨[], rfl, fun _ h => by cases h⟩
  | x :: xs, h => by
    obtain ⟨T, hT⟩ := h x List.mem_cons_self
    obtain ⟨Ls, h1, h2⟩ := joinM_all fun y hy => h y (List.mem_cons_of_mem _ hy)
    refine ⟨T :: Ls, by simp [joinM, hT, h1], fun U hU => ?_⟩
    rcases List.mem_cons.1 hU with rfl | hU
    · exact ⟨x, List.mem_cons_self, hT⟩
    · obtain ⟨y, hy, hf⟩ := h2 U hU
      exact ⟨y, List.mem_cons_of_mem _ hy, hf⟩
section
variable {E : Env} {ν : Val} {M : Own} {w0 : World} {cs0 : List Frame} {f : FuncId} {R : Ending → World → Prop}
theorem Goes.sstep (K : Facts E M w0) {S : SM} {Ls : List SM} (h : sStep E S = some Ls) (hs : ∀ T ∈ Ls, T.mem.ob ∧ Goes E M w0 cs0 f R ν T) : Goes E M w0 cs0 f R ν S := by
  intro ν' m M1 w1 hle hB hm
  obtain ⟨V, hV, hstep⟩ := sStep_ok K hB hm h
  obtain ⟨ob, hgo⟩ := hs V hV
  obtain ⟨_, ν2, m', M2, w2, hle2, hst, hB2, hMR⟩ := hstep ob
  exact (hgo ν2 m' M2 w2 (hle.trans hle2) hB2 hMR).steps hst
/-- An iterator is asked: whatever may come. -/
theorem Goes.next (K : Facts E M w0) {S : SM} {iter m since last clock : Nat} {seen : List Nat} {es : List (SV × SV × Nat)} (hd : nextD E S = some (iter, m, since, seen, last, es, clock))
    (hfree : (!seen.isEmpty && !es.isEmpty && es.all fun e => Nat.ble last e.2.2) = false)
    (hs : ∀ e ∈ es, seen.contains e.2.2 = false → ∃ T, nextE E S e = some T ∧ T.mem.ob ∧ Goes E M w0 cs0 f R ν T)
    (hend : (∀ e ∈ es, seen.contains e.2.2 = false → Nat.blt e.2.2 since = false) → ∃ T, stopE E S = some T ∧ T.mem.ob ∧ Goes E M w0 cs0 f R ν T) : Goes E M w0 cs0 f R ν S := by
  have hd0 := hd
  unfold nextD at hd
  cases hret : S.top.ret
  rotate_left
  · rw [hret] at hd; cases hd
  rw [hret, cond_false] at hd
  split at hd
  · rename_i ops i r k htodo
    split at hd
    · rename_i o ho
      split at hd
      · rename_i it hgd hop
        split at hd
        · rename_i iter' hit
          split at hd
          · rename_i m' since' seen' last' hl
            split at hd
            · rename_i es' clock' mk hm
              cases hd
              let old := (es.filter fun e => !seen.contains e.2.2).filter fun e => Nat.blt e.2.2 since
              let new := (es.filter fun e => !seen.contains e.2.2).filter fun e => Nat.ble since e.2.2
              let go := (old ++ new).map fun e => (SV.tup [.v (.bool true), e.1, e.2.1], S.mem.put iter (.miter (some m) since (seen ++ [e.2.2]) clock))
              have hn : sNextIt (.ptr iter 0) false S.mem = some (bif old.isEmpty then (.v (.tuple #[.bool false]), S.mem) :: go else go) := by
                show sNextIt (.ptr iter 0) false S.mem = _
                unfold sNextIt
                simp only [hl, hm, hfree, cond_false]
                rfl
              have hstep : sStep E S = joinM ((bif old.isEmpty then ((.v (.tuple #[.bool false]) : SV), S.mem) :: go else go).map fun r => (SNext.val r.1, r.2)) (after E S.top S.callers) := by
                unfold sStep
                simp only [hret, cond_false, htodo, ho]
                unfold turnS wanted
                simp only [hgd]
                unfold sOp
                simp only [hop, hit, hn, Option.map_some, Option.bind_some]
              have hmem : ∀ e ∈ old ++ new, e ∈ es ∧ seen.contains e.2.2 = false := fun e he => by
                rcases List.mem_append.1 he with he | he
                · have h1 := (List.mem_filter.1 (List.mem_filter.1 he).1)
                  exact ⟨h1.1, by simpa using h1.2⟩
                · have h1 := (List.mem_filter.1 (List.mem_filter.1 he).1)
                  exact ⟨h1.1, by simpa using h1.2⟩
              have hgo : ∀ x ∈ (bif old.isEmpty then ((.v (.tuple #[.bool false]) : SV), S.mem) :: go else go).map (fun r => (SNext.val r.1, r.2)), ∃ T, after E S.top S.callers x = some [T] ∧ T.mem.ob ∧ Goes E M w0 cs0 f R ν T := fun x hx => by
                obtain ⟨y, hy, rfl⟩ := List.mem_map.1 hx
                have hy' : (y ∈ go) ∨ (y = ((.v (.tuple #[.bool false]) : SV), S.mem) ∧ old.isEmpty = true) := by
                  cases hoe : old.isEmpty
                  · rw [hoe] at hy; exact .inl hy
                  · rw [hoe] at hy
                    rcases List.mem_cons.1 hy with h | h
                    · exact .inr ⟨h, rfl⟩
                    · exact .inl h
                rcases hy' with hy | ⟨rfl, hoe⟩
                · obtain ⟨e, he, rfl⟩ := List.mem_map.1 hy
                  obtain ⟨T, hT, hob, hg⟩ := hs e (hmem e he).1 (hmem e he).2
                  refine ⟨T, ?_, hob, hg⟩
                  unfold nextE at hT
                  rw [hd0] at hT
                  dsimp only at hT
                  unfold after
                  obtain ⟨r, hr, rfl⟩ := Option.map_eq_some_iff.1 hT
                  dsimp only
                  rw [hr]; rfl
                · obtain ⟨T, hT, hob, hg⟩ := hend fun e he hc => by
                    cases hb : Nat.blt e.2.2 since
                    · rfl
                    · exfalso
                      have : e ∈ old := List.mem_filter.2 ⟨List.mem_filter.2 ⟨he, by show (!seen.contains e.2.2) = true; rw [hc]; rfl⟩, hb⟩
                      rw [List.isEmpty_iff.1 hoe] at this
                      cases this
                  refine ⟨T, ?_, hob, hg⟩
                  unfold stopE at hT
                  unfold after
                  obtain ⟨r, hr, rfl⟩ := Option.map_eq_some_iff.1 hT
                  dsimp only
                  rw [hr]; rfl
              obtain ⟨Ls, h1, h2⟩ := joinM_all fun x hx => let ⟨T, h, _⟩ := hgo x hx; ⟨T, h⟩
              refine Goes.sstep K (hstep.trans h1) fun T hT => ?_
              obtain ⟨x, hx, hf⟩ := h2 T hT
              obtain ⟨U, hU, hob, hg⟩ := hgo x hx
              rw [hf] at hU
              cases hU
              exact ⟨hob, hg⟩
            · cases hd
          · cases hd
        · cases hd
      · cases hd
    · cases hd
  · cases hd
end
end Go.Rx
set_option linter.unusedVariables false
set_option linter.unusedSimpArgs false
namespace Go.Rx
open Go.RowKit (Below)
def brSum (f g : Sum) : Sum := fun args s => match s.orc s.dc with
  | some (.b true) => f args s
  | some (.b false) => g args s
  | _ => none
theorem SumOK.br {P : Program} {X : World → Prop} {h : FuncId} {f g : Sum} (hf : SumOK P X (h, f)) (hg : SumOK P X (h, g)) : SumOK P X (h, brSum f g) := by
  refine ⟨hf.1, fun args x s s' hx ob => ?_⟩
  dsimp only at hx
  unfold brSum at hx
  split at hx
  · exact hf.2 args x s s' hx ob
  · exact hg.2 args x s s' hx ob
  · cases hx
/-- A list of structs that lies in a told row: its own letters. -/
def decL {α : Type} (dec : List SV → α) (C : Nat) : Nat → List SV → List α
  | 0, _ => []
  | n + 1, l => dec (l.take C) :: decL dec C n (l.drop C)
theorem decL_flat {α : Type} {dec : List SV → α} {C : Nat} {g : α → List SV} (hg : ∀ x, (g x).length = C) (hd : ∀ x, dec (g x) = x) : ∀ (l : List α), decL dec C l.length (l.flatMap g) = l
  | [] => rfl
  | x :: l => by
    show dec ((g x ++ l.flatMap g).take C) :: decL dec C l.length ((g x ++ l.flatMap g).drop C) = _
    rw [← hg x, List.take_left, List.drop_left, hd, hg x, decL_flat hg hd l]
end Go.Rx
set_option linter.unusedVariables false
set_option linter.unusedSimpArgs false
namespace Go.Rx
open Go.RowKit (Below)
section
variable {E : Env} {ν : Val} {M : Own} {w0 w : World} {s s' : SH} {cs0 : List Frame} {f : FuncId} {R : Ending → World → Prop}
/-- What is owed for a state to come to the call's end with this value. -/
def endsX (E : Env) (f : FuncId) (n : Nat) (S : SM) (o : List (Nat × Ans)) (ren : List (Nat × Nat)) (x : SV) : List Prop :=
  match goS E SM.over n (S.with o) with
  | some T => match endS E f T with
    | some (y, s') => leV ren x y ++ s'.obl
    | none => [False]
  | none => [False]
theorem Goes.endsX (K : Facts E M w0) (hM : ∀ b, ¬ M b) {n : Nat} {S : SM} {o : List (Nat × Ans)} {ren : List (Nat × Nat)} {x : SV} (h : Owed (Go.Rx.endsX E f n S o ren x))
    (hR : ∀ ν' w' y, ν.Le ν' → VR (ν'.ren ren) x y → Below w0.heap.size w0 w' → R (.returned y) w') : Goes E M w0 cs0 f R ν S := by
  unfold Go.Rx.endsX at h
  split at h
  · rename_i T hT
    split at h
    · rename_i y s' hend
      obtain ⟨h1, h2⟩ := owed_app.1 h
      refine Goes.go K hT (resultsS_mono' hend h2) (Goes.done hend h2 fun ν' M1 w1 w' u hle hB hv hr hg => ?_)
      exact hR ν' w' u hle (leV_ok h1 hv) (below_of hM hB hr)
    · exact owed_false h
  · exact owed_false h
end
/-- Nothing is made; what comes back is made of what came. -/
def svSum (g : List SV → SH → Option (SV × Prop)) : Sum := fun args s => match g args s with
  | some (x, p) => some (x, s.owe p)
  | none => none
theorem svSum_ok {P : Program} {X : World → Prop} {f : FuncId} {g : List SV → SH → Option (SV × Prop)} (hf : ∃ fn, P.funcs[f]? = some fn ∧ fn.body.isSome = true ∧ (fn.name == "runtime.NumGoroutine") = false)
    (h : ∀ args s x p, g args s = some (x, p) → p → ∀ ν M w0 w a, HR ν M w0 s w → X w → VRL ν args a → Calls P f a.toArray w fun e w' => Below w.heap.size w w' ∧ ∃ y, e = .returned y ∧ VR ν x y) : SumOK P X (f, svSum g) := by
  refine ⟨hf, fun args x s s' hx ob => ?_⟩
  dsimp only at hx
  unfold svSum at hx
  split at hx
  · rename_i v p hp
    cases hx
    exact ⟨ob.1, fun ν M w0 w a hr hX ha => (h args s _ _ hp ob.2 ν M w0 w a hr hX ha).mono fun e w' ⟨hB, y, he, hv⟩ => ⟨hB, y, he, .same (SH.owe_same _ _) hv⟩⟩
  · cases hx
/-- A slice in a new block, and what is made of it. -/
abbrev SlM := List SV → SH → Option (List Value × Nat × Nat × TypeId × (SV → SV) × (Value → Value) × Prop)
def slSumM (g : SlM) : Sum := fun args s => match g args s with
  | some (ys, n, C, elem, mk, _, p) => (sNew (.row (ys.map SV.v) elem (0, 0) (some C)) (s.owe p)).map fun r => (mk (.sl r.1 0 n none), r.2)
  | none => none
theorem slSumM_ok {P : Program} {X : World → Prop} {f : FuncId} {g : SlM} (hf : ∃ fn, P.funcs[f]? = some fn ∧ fn.body.isSome = true ∧ (fn.name == "runtime.NumGoroutine") = false)
    (hm : ∀ args s ys n C elem mk mv p, g args s = some (ys, n, C, elem, mk, mv, p) → ∀ (ν : Val) x y, VR ν x y → VR ν (mk x) (mv y))
    (h : ∀ args s ys n C elem mk mv p, g args s = some (ys, n, C, elem, mk, mv, p) → p → ∀ ν M w0 w a, HR ν M w0 s w → X w → VRL ν args a → Calls P f a.toArray w fun e w' => Below w.heap.size w w' ∧ ∃ y, e = .returned (mv y) ∧ NewSl w w' y ys n C elem) : SumOK P X (f, slSumM g) := by
  refine ⟨hf, fun args x s s' hx ob => ?_⟩
  dsimp only at hx
  unfold slSumM at hx
  split at hx
  · rename_i ys n C elem mk mv p hp
    obtain ⟨⟨i, s1⟩, hn, hx⟩ := Option.map_eq_some_iff.1 hx
    cases hx
    unfold sNew at hn
    cases hroom : (s.owe p).room
    · rw [hroom] at hn; cases hn
    rw [hroom] at hn
    simp only [cond_true] at hn
    cases hn
    have ob2 : (s.owe p).ob := ob
    refine ⟨ob2.1, fun ν M w0 w a hr hXw ha => ?_⟩
    refine (h args s ys n C elem mk mv p hp ob2.2 ν M w0 w a hr hXw ha).mono fun e w' ⟨hB, y, he, b, c, rest, hy, hb, hnc, ho, hsz⟩ => ?_
    have hv : VR (ν.put (s.owe p).nx (b, c)) (.sl (s.owe p).nx 0 n none) y := VR.sl_iff.2 ⟨(b, c), Val.put_self _ _ _, hnc, hy⟩
    refine ⟨hB, _, he, .made (s.owe p) _ b c _ (SH.owe_same _ _) hroom rfl hb ho ⟨ys, rest, by show _ = _; simp, VRL.lits _ _, ?_, (b, c), Val.put_self _ _ _, hsz⟩ (hm _ _ _ _ _ _ _ _ _ hp _ _ _ hv)⟩
    simp
  · cases hx
end Go.Rx
set_option linter.unusedVariables false
set_option linter.unusedSimpArgs false
namespace Go.Rx
open Go.RowKit (Below)
def close1 (j : Nat) (b : Nat × Nat) : SV → SV
  | .sl i 0 len none => bif Nat.beq i j then .v (.slice (some ⟨b.1, 0, none⟩) len b.2) else .sl i 0 len none
  | x => x
def closeV (j : Nat) (b : Nat × Nat) : SV → SV
  | .agg l => .agg (l.map (close1 j b))
  | x => x
def closeM (j : Nat) (b : Nat × Nat) (es : List (SV × SV × Nat)) : List (SV × SV × Nat) := es.map fun e => (e.1, closeV j b e.2.1, e.2.2)
theorem close1_ok {ν : Val} {j : Nat} {b : Nat × Nat} (hj : ν j = some b) {x : SV} {y : Value} (h : VR ν x y) : VR ν (close1 j b x) y := by
  unfold close1
  split
  · rename_i i len
    cases hi : Nat.beq i j
    · exact h
    · obtain rfl := Nat.eq_of_beq_eq_true hi
      obtain ⟨b', hb', _, rfl⟩ := VR.sl_iff.1 h
      rw [hj] at hb'; cases hb'
      exact VR.v_iff.2 rfl
  · exact h
theorem close1_list {ν : Val} {j : Nat} {b : Nat × Nat} (hj : ν j = some b) : ∀ {l : List SV} {ys : List Value}, VRL ν l ys → VRL ν (l.map (close1 j b)) ys
  | [], _, h => h
  | x :: l, _, h => by
    obtain ⟨z, zs, rfl, h1, h2⟩ := h.cons_inv
    exact VRL.cons (close1_ok hj h1) (close1_list hj h2)
theorem closeV_ok {ν : Val} {j : Nat} {b : Nat × Nat} (hj : ν j = some b) {x : SV} {y : Value} (h : VR ν x y) : VR ν (closeV j b x) y := by
  unfold closeV
  split
  · obtain ⟨a, rfl, ha⟩ := VR.agg_iff.1 h
    exact VR.agg_iff.2 ⟨a, rfl, close1_list hj ha⟩
  · exact h
theorem closeM_ok {ν : Val} {j : Nat} {b : Nat × Nat} (hj : ν j = some b) : ∀ {es : List (SV × SV × Nat)} {ds : List MapEntry}, EntR ν es ds → EntR ν (closeM j b es) ds
  | [], _, h => h
  | x :: xs, _, h => by
    obtain ⟨z, zs, rfl, h1, h2, h3, h4⟩ := h
    exact ⟨z, zs, rfl, h1, closeV_ok hj h2, h3, closeM_ok hj h4⟩
def SM.close (m j : Nat) (b : Nat × Nat) (es : List (SV × SV × Nat)) (cl : Nat) (S : SM) : SM := { S with mem := S.mem.put m (.map (closeM j b es) cl) }
def noDrw (S : SM) : Bool := match S.top.todo with | .drw _ _ _ :: _ => false | _ => true
section
variable {E : Env} {ν : Val} {M : Own} {w0 w : World} {s s' : SH} {cs0 : List Frame} {f : FuncId} {R : Ending → World → Prop}
theorem Goes.close {S : SM} {m j cl : Nat} {es : List (SV × SV × Nat)} {x : SO × Bool} (hm : S.mem.look m = some (.map es cl, true)) (hj : S.mem.look j = some x) (hd : noDrw S = true)
    (hs : ∀ b, Goes E M w0 cs0 f R ν (S.close m j b es cl)) : Goes E M w0 cs0 f R ν S := by
  intro ν' mm M1 w1 hle hB hmr
  obtain ⟨fr, cs, w, hl, rfl, hr, hg, ⟨h1, h2, h3⟩, hc⟩ := hmr
  obtain ⟨_, _, b, _, hb, _⟩ := hr.look hj
  obtain ⟨_, _, bm, ob, hbm, ho, hor, _⟩ := hr.look hm
  refine hs b ν' _ M1 w1 hle hB ⟨fr, cs, w, hl, rfl, ?_, hg, ⟨h1, fun hf => ⟨(h2 hf).1, ?_⟩, h3⟩, hc⟩
  · refine hr.put hm hbm (r := ob) ?_ ?_ rfl rfl rfl
    · obtain ⟨l, rfl, hl'⟩ := hor
      exact ⟨l, rfl, closeM_ok hb hl'⟩
    · apply Array.ext
      · simp
      · intro k hk1 hk2
        rw [Array.getElem_setIfInBounds]
        split
        · rename_i h
          have := (Array.getElem?_eq_some_iff.1 ho).2
          subst h; exact this
        · rfl
  · have := (h2 hf).2
    revert this hd
    show noDrw S = true → _ → RunR E ν' M1 w1 _ hl S.top.tm S.top.todo fr.tmps fr.todo
    unfold noDrw
    generalize S.top.todo = xs
    generalize fr.todo = ys
    intro hd this
    cases this with
    | plain ht hk => exact .plain ht hk
    | drw hok hn d st hk => cases hd
/-- What is owed for a state to come to a loop's head as it is told, where what is put into a map lies at a place. -/
def reachC (E : Env) (k n : Nat) (S : SM) (o : List (Nat × Ans)) (ren : List (Nat × Nat)) (eqs : List Nat) (F : SF) (d : Nat) (l : List (Option (SO × Bool))) (m j : Nat) (b : Nat × Nat) : List Prop :=
  match goL E k n (S.with o) with
  | some T => match T.mem.look m, T.mem.look j with
    | some (.map es cl, true), some _ => bif noDrw T then fits E ren eqs F d l (T.close m j b es cl) ++ T.mem.obl else [False]
    | _, _ => [False]
  | none => [False]
theorem Goes.reachC (K : Facts E M w0) {k n d : Nat} {S : SM} {o : List (Nat × Ans)} {ren : List (Nat × Nat)} {eqs : List Nat} {F : SF} {l : Nat × Nat → List (Option (SO × Bool))} {m j : Nat} (h : ∀ b, Owed (Go.Rx.reachC E k n S o ren eqs F d (l b) m j b)) (ht : todoL E k n S o = F.todo)
    (hν : ∀ i b, ν i = some b → ren.lookup i = some i) (hs : ∀ b, Goes E M w0 cs0 f R ν (SM.at F d (l b))) : Goes E M w0 cs0 f R ν S := by
  have h0 := h (0, 0)
  unfold Go.Rx.reachC at h h0
  unfold todoL at ht
  cases hT : Go.Rx.goL E k n (S.with o) with
  | none => rw [hT] at h0; exact owed_false h0
  | some T =>
    simp only [hT] at h h0 ht
    split at h0
    · rename_i es cl x hm hj
      simp only [hm, hj] at h
      cases hd : noDrw T
      · rw [hd] at h0; exact owed_false h0
      · rw [hd] at h0
        obtain ⟨_, h2⟩ := owed_app.1 h0
        refine Goes.goL K hT h2 (Goes.close hm hj hd fun b => ?_)
        have hb := h b
        rw [hd] at hb
        exact Goes.fits (owed_app.1 hb).1 ht hν (hs b)
    · exact owed_false h0
end
end Go.Rx
set_option linter.unusedVariables false
set_option linter.unusedSimpArgs false
namespace Go.Rx
open Go.RowKit (Below)
/-- One block more lies still. -/
def Hp.put (H : Hp) (b : Nat) (o : Obj) : Hp := fun x => if x = b then some o else H x
theorem Hp.put_self (H : Hp) (b : Nat) (o : Obj) : H.put b o b = some o := by simp [Hp.put]
def SM.drop1 (S : SM) (j : Nat) : SM := { S with mem := S.mem.drop j }
section
variable {E : Env} {ν : Val} {M : Own} {w0 w : World} {s s' : SH} {cs0 : List Frame} {f : FuncId} {R : Ending → World → Prop}

theorem live_HR {M1 : Own} {w1 : World} (hr : HR ν M1 w1 s w) : HR ν (liveOwn ν M1 s) w s w := by
  refine ⟨hr.full, hr.dom, hr.fresh, fun i hi x hx => ?_, hr.inj, Nat.le_refl _, fun _ _ _ => rfl, hr.ro, rfl, rfl, rfl⟩
  obtain ⟨b, o, h1, h2, h3, h4⟩ := hr.obj i hi x hx
  refine ⟨b, o, h1, h2, h3, fun hm => .inr ⟨i, x.1, b.2, hi, ?_, h1⟩⟩
  rw [hx, ← hm]
theorem live_own {M1 : Own} {w1 : World} (hr : HR ν M1 w1 s w) {x : Nat} (h : (liveOwn ν M1 s) x) : x < w.heap.size ∧ (w1.heap.size ≤ x ∨ M1 x) := by
  obtain ⟨i, y, c, hi, hy, hx⟩ := h
  obtain ⟨b', o, hb', ho, _, h4⟩ := hr.obj i hi _ hy
  rw [hx] at hb'; cases hb'
  exact ⟨(Array.getElem?_eq_some_iff.1 ho).1, h4 rfl⟩
theorem live_base {M1 : Own} {w1 : World} (hB : Base M w0 M1 w1) (hr : HR ν M1 w1 s w) : Base M w0 (liveOwn ν M1 s) w := by
  refine ⟨Nat.le_trans hB.size hr.size, hr.os.trans hB.os, hr.tape.trans hB.tape, hr.output.trans hB.output, fun b hb hM => ?_, fun b hb => ?_, hB.ro, fun b h => h.elim, fun b hb => ?_⟩
  · obtain ⟨h1, h2⟩ := hB.frame b hb hM
    have hb1 := Nat.lt_of_lt_of_le hb hB.size
    refine ⟨(hr.frame b hb1 h2).trans h1, fun hl => ?_⟩
    rcases (live_own hr hl).2 with h | h
    · omega
    · exact h2 h
  · rcases hb with hb | hb
    · exact .inl (Nat.le_trans hB.size (Nat.le_trans hr.size hb))
    · exact hB.own b (live_own hr hb).2
  · exact Nat.lt_of_lt_of_le (hB.rlt b hb) hr.size

/-- An object that is forgotten lies still from here on. -/
theorem Goes.freeze {H0 H : Hp} {M00 : Own} {w00 : World} (hM00 : ∀ b, ¬ M00 b) (hk : Kept H0 M00 w00 H M w0) {S : SM} {j : Nat} {so : SO} (hcal : S.callers = []) (hret : S.top.ret = false) (hd : noDrw S = true) (hj : S.mem.look j = some (so, true))
    (hs : ∀ ν' b o M2 w2, ν.Le ν' → ν' j = some b → OR ν' j so o → Kept H0 M00 w00 (H.put b.1 o) M2 w2 → H.Sub (H.put b.1 o) → Goes E M2 w2 cs0 f R ν (S.drop1 j)) : Goes E M w0 cs0 f R ν S := by
  intro ν' m M1 w1 hle hB hm
  obtain ⟨fr, cs, w, hl, rfl, hr, hg, ⟨h1, h2, h3⟩, hc⟩ := hm
  obtain ⟨hjlt, hjg, b, o, hb, ho, hor, hown⟩ := hr.look hj
  have hown := hown rfl
  have hrd := hr.drop hjlt
  have hblt : b.1 < w.heap.size := (Array.getElem?_eq_some_iff.1 ho).1
  have hne : ¬ (liveOwn ν' M1 (S.mem.drop j)) b.1 := by
    rintro ⟨i, y, c, hi, hy, hx⟩
    have hy' : (S.mem.H.set j none).get i = some (y, true) := hy
    have hi' : i < 2 ^ S.mem.d := hi
    rw [Tr.get_set hr.full hjlt hi'] at hy'
    by_cases e : i = j
    · rw [if_pos e] at hy'; cases hy'
    · rw [if_neg e] at hy'
      exact e (hr.inj i j hi' hjlt (by rw [hy']; simp) (by rw [hjg]; simp) _ _ hx hb rfl)
  have hB2 := live_base hB hrd
  have hHb : H b.1 = none := by
    cases hq : H b.1 with
    | none => rfl
    | some o' =>
      obtain ⟨q1, q2, _⟩ := hk.still _ _ hq
      have q3 := (hB.frame _ q1 q2).2
      rcases hown with h | h
      · have := hB.size; omega
      · exact absurd h q3
  have hsub : H.Sub (H.put b.1 o) := fun x y hx => by
    unfold Hp.put
    by_cases e : x = b.1
    · rw [e, hHb] at hx; cases hx
    · rw [if_neg e]; exact hx
  have hnow := hk.now hB hr
  have hK : Kept H0 M00 w00 (H.put b.1 o) (liveOwn ν' M1 (S.mem.drop j)) w := by
    refine ⟨hk.sub0.trans hsub, fun x y hx => ?_, fun x y hx h => ?_, hk.base.trans hB2⟩
    · unfold Hp.put at hx
      by_cases e : x = b.1
      · rw [if_pos e] at hx
        cases hx
        subst e
        exact ⟨hblt, hne, ho⟩
      · rw [if_neg e] at hx
        obtain ⟨q1, q2, _⟩ := hk.still _ _ hx
        refine ⟨Nat.lt_of_lt_of_le q1 (Nat.le_trans hB.size hr.size), (hB2.frame _ q1 q2).2, hnow _ _ hx⟩
    · unfold Hp.put at h
      by_cases e : x = b.1
      · subst e
        exfalso
        rcases hk.base.own _ (hB.own _ hown) with h | h
        · omega
        · exact hM00 _ h
      · rw [if_neg e] at h
        exact hk.old x y hx h
  have hrun := (h2 hret).2
  have hpl : hl = [] ∧ TmR ν' S.top.tm fr.tmps ∧ KsR ν' S.top.todo fr.todo := by
    revert hrun hd
    unfold noDrw
    generalize S.top.todo = xs
    generalize fr.todo = ys
    intro hd hrun
    cases hrun with
    | plain ht hk => exact ⟨rfl, ht, hk⟩
    | drw hok hn d st hk => cases hd
  obtain ⟨rfl, ht, hks⟩ := hpl
  have hc' : CallersR E ν' (liveOwn ν' M1 (S.mem.drop j)) w cs0 [] S.top.kind S.callers cs := by
    rw [hcal] at hc ⊢
    generalize S.top.kind = kk at hc
    cases hc with
    | nil _ => exact .nil List.nodup_nil
  exact hs ν' b o _ w hle hb hor hK hsub ν' _ _ w hle (Base.refl (fun x hx => hB2.rlt x hx) fun x h => h)
    ⟨fr, cs, w, [], rfl, live_HR hrd, hg, ⟨h1, fun hf => ⟨(h2 hret).1, .plain ht hks⟩, fun hf => absurd (show S.top.ret = true from hf) (by rw [hret]; simp)⟩, hc'⟩

/-- What is owed for a state to come to a loop's head as it is told, where what is put into a map lies at a place, and lies still from then on. -/
def reachF (E : Env) (k n : Nat) (S : SM) (o : List (Nat × Ans)) (ren : List (Nat × Nat)) (eqs : List Nat) (F : SF) (d : Nat) (l : List (Option (SO × Bool))) (m j : Nat) (so : SO) (b : Nat × Nat) : List Prop :=
  match goL E k n (S.with o) with
  | some T => match T.mem.look m, T.mem.look j with
    | some (.map es cl, true), some (so', true) => bif noDrw T && T.callers.isEmpty && !T.top.ret && !Nat.beq m j && Nat.blt m (2 ^ T.mem.d) then leO [(j, j)] true so so' ++ (fits E ren eqs F d l ((T.close m j b es cl).drop1 j) ++ T.mem.obl) else [False]
    | _, _ => [False]
  | none => [False]
theorem look_put (hf : Tr.Full s.d s.H) {m j : Nat} {o : SO} {x : SO × Bool} (hm : m < 2 ^ s.d) (hj : s.look j = some x) (hne : j ≠ m) : (s.put m o).look j = some x := by
  unfold SH.look at hj ⊢
  show (bif Nat.blt j (2 ^ s.d) then (s.H.set m (some (o, true))).get j else none) = some x
  cases hb : Nat.blt j (2 ^ s.d)
  · rw [hb] at hj; cases hj
  · rw [hb] at hj
    simp only [cond_true] at hj ⊢
    rw [Tr.get_set hf hm (blt_iff.1 hb), if_neg hne]; exact hj
theorem Goes.close' {S : SM} {m j cl : Nat} {es : List (SV × SV × Nat)} {x : SO × Bool} (hm : S.mem.look m = some (.map es cl, true)) (hj : S.mem.look j = some x) (hd : noDrw S = true)
    (hs : ∀ ν1 b, ν.Le ν1 → ν1 j = some b → Goes E M w0 cs0 f R ν1 (S.close m j b es cl)) : Goes E M w0 cs0 f R ν S := by
  intro ν' mm M1 w1 hle hB hmr
  obtain ⟨fr, cs, w, hl, rfl, hr, hg, ⟨h1, h2, h3⟩, hc⟩ := hmr
  obtain ⟨_, _, b, _, hb, _⟩ := hr.look hj
  obtain ⟨_, _, bm, ob, hbm, ho, hor, _⟩ := hr.look hm
  refine hs ν' b hle hb ν' _ M1 w1 (Val.Le.refl _) hB ⟨fr, cs, w, hl, rfl, ?_, hg, ⟨h1, fun hf => ⟨(h2 hf).1, ?_⟩, h3⟩, hc⟩
  · refine hr.put hm hbm (r := ob) ?_ ?_ rfl rfl rfl
    · obtain ⟨l, rfl, hl'⟩ := hor
      exact ⟨l, rfl, closeM_ok hb hl'⟩
    · apply Array.ext
      · simp
      · intro k hk1 hk2
        rw [Array.getElem_setIfInBounds]
        split
        · rename_i h
          have := (Array.getElem?_eq_some_iff.1 ho).2
          subst h; exact this
        · rfl
  · have := (h2 hf).2
    revert this hd
    show noDrw S = true → _ → RunR E ν' M1 w1 _ hl S.top.tm S.top.todo fr.tmps fr.todo
    unfold noDrw
    generalize S.top.todo = xs
    generalize fr.todo = ys
    intro hd this
    cases this with
    | plain ht hk => exact .plain ht hk
    | drw hok hn d st hk => cases hd
theorem Goes.full {S : SM} (h : Tr.Full S.mem.d S.mem.H → Goes E M w0 cs0 f R ν S) : Goes E M w0 cs0 f R ν S := by
  intro ν' m M1 w1 hle hB hm
  have hm' := hm
  obtain ⟨fr, cs, w, hl, rfl, hr, _⟩ := hm'
  exact h hr.full ν' _ M1 w1 hle hB hm
theorem Goes.reachF (K : Facts E M w0) {H0 H : Hp} {M00 : Own} {w00 : World} (hM00 : ∀ b, ¬ M00 b) (hk : Kept H0 M00 w00 H M w0) {k n d : Nat} {S : SM} {o : List (Nat × Ans)} {ren : List (Nat × Nat)} {eqs : List Nat} {F : SF} {l : Nat × Nat → List (Option (SO × Bool))} {m j : Nat} {so : SO}
    (h : ∀ b, Owed (Go.Rx.reachF E k n S o ren eqs F d (l b) m j so b)) (ht : todoL E k n S o = F.todo) (hν : ∀ i b, ν i = some b → ren.lookup i = some i)
    (hs : ∀ ν1 b ob M2 w2, ν1 j = some b → OR ν1 j so ob → Kept H0 M00 w00 (H.put b.1 ob) M2 w2 → H.Sub (H.put b.1 ob) → Goes E M2 w2 cs0 f R ν (SM.at F d (l b))) : Goes E M w0 cs0 f R ν S := by
  have h0 := h (0, 0)
  unfold Go.Rx.reachF at h h0
  unfold todoL at ht
  cases hT : Go.Rx.goL E k n (S.with o) with
  | none => rw [hT] at h0; exact owed_false h0
  | some T =>
    simp only [hT] at h h0 ht
    split at h0
    · rename_i es cl so' hm hj
      simp only [hm, hj] at h
      obtain ⟨hb0, h0'⟩ := owed_bif h0
      obtain ⟨_, h00⟩ := owed_app.1 h0'
      obtain ⟨_, hob⟩ := owed_app.1 h00
      have hb := hb0
      simp only [Bool.and_eq_true] at hb
      obtain ⟨⟨⟨⟨b1, b2⟩, b3⟩, b4⟩, b5⟩ := hb
      have hmj : j ≠ m := by
        rintro rfl
        have : Nat.beq j j = true := by simp
        rw [this] at b4; cases b4
      refine Goes.goL K hT hob (Goes.full fun hfull => Goes.close' hm hj b1 fun ν1 b hle1 hb1 => ?_)
      have hq := h b
      rw [hb0] at hq
      obtain ⟨q1, q2⟩ := owed_app.1 hq
      obtain ⟨q3, _⟩ := owed_app.1 q2
      have hj' : (T.close m j b es cl).mem.look j = some (so', true) := look_put hfull (blt_iff.1 b5) hj hmj
      refine Goes.freeze hM00 hk (List.isEmpty_iff.1 b2) (show T.top.ret = false by simpa using b3) b1 hj' fun ν' b' o' M2 w2 hle hbj hor hK hsub => ?_
      obtain rfl : b = b' := by
        have := hle _ _ hb1
        rw [hbj] at this; exact (Option.some.inj this).symm
      have hjj : (([(j, j)] : List (Nat × Nat)).lookup j == some j) = true := by simp [List.lookup]
      exact (Goes.fits q3 ht hν (hs _ b o' M2 w2 (ren_at hjj hbj) (leO_ok hjj q1 hor) hK hsub)).mono hle1
    · exact owed_false h0
/-- What is owed for a state to come to the call's end with this value, and with these objects. -/
def endsM (E : Env) (f : FuncId) (n : Nat) (S : SM) (o : List (Nat × Ans)) (ren : List (Nat × Nat)) (eqs : List Nat) (x : SV) (l : List (Option (SO × Bool))) : List Prop :=
  match goS E SM.over n (S.with o) with
  | some T => match endS E f T with
    | some (y, s') => bif decide ((ren.map (·.2)).Nodup) then leV ren x y ++ (leMem ren eqs s' 0 l ++ s'.obl) else [False]
    | none => [False]
  | none => [False]
/-- What is known of objects at an end. -/
structure EndM (ν : Val) (M : Own) (w0 w' : World) (l : List (Option (SO × Bool))) : Prop where
  obj : ∀ k o m, l[k]? = some (some (o, m)) → ∃ b ob, ν k = some b ∧ w'.heap[b.1]? = some ob ∧ OR ν k o ob ∧ (m = true → w0.heap.size ≤ b.1 ∨ M b.1)
  inj : ∀ k k' o m o' m' b b', l[k]? = some (some (o, m)) → l[k']? = some (some (o', m')) → ν k = some b → ν k' = some b' → b.1 = b'.1 → k = k'
theorem Goes.endsM (K : Facts E M w0) {n : Nat} {S : SM} {o : List (Nat × Ans)} {ren : List (Nat × Nat)} {eqs : List Nat} {x : SV} {l : List (Option (SO × Bool))} (h : Owed (Go.Rx.endsM E f n S o ren eqs x l))
    (hR : ∀ ν' w' y, ν.Le ν' → VR (ν'.ren ren) x y → EndM (ν'.ren ren) M w0 w' l → (∃ M1 w1 s', Base M w0 M1 w1 ∧ HR ν' M1 w1 s' w') → R (.returned y) w') : Goes E M w0 cs0 f R ν S := by
  unfold Go.Rx.endsM at h
  split at h
  · rename_i T hT
    split at h
    · rename_i y s' hend
      obtain ⟨hb, h⟩ := owed_bif h
      have hnd := of_decide_eq_true hb
      obtain ⟨h1, h2⟩ := owed_app.1 h
      obtain ⟨h3, h4⟩ := owed_app.1 h2
      refine Goes.go K hT (resultsS_mono' hend h4) (Goes.done hend h4 fun ν' M1 w1 w' u hle hB hv hr hg => ?_)
      have hob : ∀ k o m, l[k]? = some (some (o, m)) → ∃ i o', ren.lookup k = some i ∧ s'.look i = some (o', m) ∧ Owed (leO ren (eqs.contains k) o o') := fun k o m hk => by
        have := leMem_ok h3 k o m hk
        simpa using this
      refine hR ν' w' u hle (leV_ok h1 hv) ⟨fun k o m hk => ?_, fun k k' o m o' m' b b' hk hk' hb hb' e => ?_⟩ ⟨M1, w1, s', hB, hr⟩
      · obtain ⟨i, o', hlo, hl, ho⟩ := hob k o m hk
        obtain ⟨_, _, b, ob, hb, hoo, hor, hown⟩ := hr.look hl
        have hji : (ren.lookup k == some i) = true := by rw [hlo]; simp
        exact ⟨b, ob, ren_at hji hb, hoo, leO_ok hji ho hor, fun hm => hB.own _ (hown hm)⟩
      · obtain ⟨i, o1, hlo, hl, _⟩ := hob k o m hk
        obtain ⟨i', o2, hlo', hl', _⟩ := hob k' o' m' hk'
        obtain ⟨q1, q2, _⟩ := hr.look hl
        obtain ⟨q3, q4, _⟩ := hr.look hl'
        unfold Val.ren at hb hb'
        rw [hlo] at hb
        rw [hlo'] at hb'
        have := hr.inj i i' q1 q3 (by rw [q2]; simp) (by rw [q4]; simp) b b' hb hb' e
        subst this
        exact nodup_snd hnd (lookup_mem hlo) (lookup_mem hlo')
    · exact owed_false h
  · exact owed_false h
/-! ### a call by contract, with an answer that is a plain value -/
/-- A call of g has just begun. -/
def atCall (g : FuncId) (S : SM) : Bool := Nat.beq S.top.fn g
/-- What is owed for a state to come to a call of g. -/
def callO (E : Env) (g : FuncId) (n : Nat) (S : SM) (o : List (Nat × Ans)) : List Prop := match goS E (atCall g) n (S.with o) with
  | some T => match T.callers with
    | [F] => bif noLag E F then T.mem.obl else [False]
    | _ => [False]
  | none => [False]
def callTop (E : Env) (g : FuncId) (n : Nat) (S : SM) (o : List (Nat × Ans)) : Option SF := (goS E (atCall g) n (S.with o)).map (·.top)
/-- The state in which it has answered. -/
def backS (E : Env) (g : FuncId) (n : Nat) (S : SM) (o : List (Nat × Ans)) (x : SV) : Option SM := match goS E (atCall g) n (S.with o) with
  | some T => match T.callers with
    | [F] => (finish E F x T.mem).map fun r => ⟨r.1, [], r.2⟩
    | _ => none
  | none => none
def backT (E : Env) (g : FuncId) (n : Nat) (S : SM) (o : List (Nat × Ans)) (x : SV) : SM := (backS E g n S o x).getD ⟨⟨0, tmOf 0 0 [], [], [], false, .normal, none⟩, [], memOf 0 0 0 []⟩
/-- What is owed for it. -/
def backO (E : Env) (g : FuncId) (n : Nat) (S : SM) (o : List (Nat × Ans)) (x : SV) : List Prop := match backS E g n S o x with
  | some T => T.mem.obl
  | none => [False]
theorem backO_ok {g : FuncId} {n : Nat} {S : SM} {o : List (Nat × Ans)} {x : SV} (h : Owed (backO E g n S o x)) : backS E g n S o x = some (backT E g n S o x) ∧ (backT E g n S o x).mem.ob := by
  unfold backO at h
  unfold backT
  split at h
  · rename_i T hT
    rw [hT]; exact ⟨rfl, h⟩
  · exact owed_false h
theorem Goes.callV (K : Facts E M w0) {H0 H : Hp} {M00 : Own} {w00 : World} (hk : Kept H0 M00 w00 H M w0) {n : Nat} {g : FuncId} {S : SM} {o : List (Nat × Ans)} {args : List SV} (h : Owed (callO E g n S o)) (hG : callTop E g n S o = enterF E g args .normal)
    (hc : ∀ ν' w a, ν.Le ν' → H.Sub w.hp → GR ν' E → VRL ν' args a → Calls E.P g a.toArray w fun e w' => Below w.heap.size w w' ∧ ∃ y, e = .returned y ∧ (∀ M2, Kept H0 M00 w00 (H.grow w w') M2 w' →
      Owed (backO E g n S o (.v y)) ∧ Goes E M2 w' cs0 f R ν (backT E g n S o (.v y)))) : Goes E M w0 cs0 f R ν S := by
  unfold callO at h
  cases hT : goS E (atCall g) n (S.with o) with
  | none => rw [hT] at h; exact owed_false h
  | some T =>
    rw [hT] at h
    dsimp only at h
    split at h
    · rename_i F hF
      obtain ⟨hlag, hob⟩ := owed_bif h
      unfold callTop at hG
      rw [hT] at hG
      obtain ⟨top, callers, mem⟩ := T
      dsimp only at hF hG hob
      subst hF
      refine Goes.go K hT hob (Goes.callQ (F := F) hG.symm hlag hk fun ν' w a hle hsub hgr ha => ?_)
      refine (hc ν' w a hle hsub hgr ha).mono fun e w' ⟨hB, y, he, hn⟩ => ⟨hB, y, .v y, he, VR.v_iff.2 rfl, fun M2 hK => ?_⟩
      obtain ⟨h1, h2⟩ := hn M2 hK
      obtain ⟨h3, h4⟩ := backO_ok h1
      have h5 := h3
      unfold backS at h5
      rw [hT] at h5
      dsimp only at h5
      obtain ⟨r, hr, he2⟩ := Option.map_eq_some_iff.1 h5
      refine ⟨r.1, r.2, hr, ?_, ?_⟩
      · have : (backT E g n S o (.v y)).mem = r.2 := by rw [← he2]
        have h6 : (backT E g n S o (.v y)).mem.ob := h4
        rw [this] at h6; exact h6
      · have : (⟨r.1, [], r.2⟩ : SM) = backT E g n S o (.v y) := he2
        rw [this]; exact h2.mono hle
    · exact owed_false h
end
end Go.Rx
