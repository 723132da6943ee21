/- The symbolic executor 'Rx', part YD: runs, and what they say of calls. By an AI agent. -/
import Derived.Test.YtjhmpmhkppglnaaGreatRyC
set_option linter.unusedVariables false
set_option linter.unusedSimpArgs false
namespace Go.Rx
section
variable {E : Env} {ν : Val} {M : Own} {w0 w : World} {s s' : SH} {hid : List Nat}

theorem HR.owed (h : HR ν M w0 s w) (l : List Prop) : HR ν M w0 { s with obl := l } w := ⟨h.full, h.dom, h.fresh, h.obj, h.inj, h.size, h.frame, h.ro, h.os, h.tape, h.output⟩

theorem MR.owed {cs0 : List Frame} {S : SM} {m : Machine} (h : MR E M w0 cs0 ν S m) (l : List Prop) : MR E M w0 cs0 ν { S with mem := { S.mem with obl := l } } m := by
  obtain ⟨fr, cs, w, hl, hm, hr, hg, ⟨h1, h2, h3⟩, hc⟩ := h
  refine ⟨fr, cs, w, hl, hm, hr.owed l, hg, ⟨h1, fun hf => ⟨(h2 hf).1, ?_⟩, h3⟩, hc⟩
  have := (h2 hf).2
  revert this
  generalize S.top.todo = xs
  generalize fr.todo = ys
  intro this
  cases this with
  | plain ht hk => exact .plain ht hk
  | drw hok hn d st hk => exact .drw hok hn d (fun M' w0' w' hr' => st M' w0' w' (hr'.owed S.mem.obl)) hk

theorem step1_form {S : SM} {Ls : List SM} (h : step1 E S = some Ls) : ∃ l, sStep E { S with mem := { S.mem with obl := [] } } = some l ∧ l ≠ [] ∧ Ls = l.map fun T => { T with mem := { T.mem with obl := T.mem.obl ++ S.mem.obl } } := by
  unfold step1 at h
  split at h
  · cases h
  · rename_i T hT; cases h; exact ⟨[T], hT, by simp, rfl⟩
  · rename_i l hn _ hl; cases h; exact ⟨l, hl, fun e => hn e, rfl⟩
  · cases h

theorem step1_mono {S : SM} {Ls : List SM} (h : step1 E S = some Ls) : Ls ≠ [] ∧ ∀ T ∈ Ls, T.mem.ob → S.mem.ob := by
  obtain ⟨l, _, hn, rfl⟩ := step1_form h
  refine ⟨fun e => hn (List.map_eq_nil_iff.1 e), fun T hT ob => ?_⟩
  obtain ⟨U, _, rfl⟩ := List.mem_map.1 hT
  exact (Owed.append ob).2

theorem step1_ok {M0 : Own} {w00 : World} (K : Facts E M0 w00) (B0 : Base M0 w00 M w0) {cs0 : List Frame} {S : SM} {Ls : List SM} {m : Machine} (hm : MR E M w0 cs0 ν S m) (h : step1 E S = some Ls) : OutB E M0 w00 cs0 ν S.mem.ob m Ls := by
  obtain ⟨l, hl, _, rfl⟩ := step1_form h
  obtain ⟨T, hT, hS⟩ := sStep_ok K B0 (hm.owed []) hl
  refine ⟨_, List.mem_map.2 ⟨T, hT, rfl⟩, fun ob => ?_⟩
  obtain ⟨o1, o2⟩ := Owed.append ob
  obtain ⟨_, ν', m', M1, w1, hle, hst, hB, hMR⟩ := hS o1
  exact ⟨o2, ν', m', M1, w1, hle, hst, hB, hMR.owed _⟩

theorem run_mono {stop : SM → Bool} : ∀ {n : Nat} {work done Ls : List SM}, run E stop n work done = some Ls → (∀ S ∈ done, S ∈ Ls) ∧ ∀ S ∈ work, ∃ S' ∈ Ls, S'.mem.ob → S.mem.ob := by
  intro n
  induction n with
  | zero =>
    intro work done Ls h
    cases work with
    | nil => cases h; exact ⟨fun _ hS => hS, fun _ hS => by cases hS⟩
    | cons S work => cases h
  | succ n ih =>
    intro work done Ls h
    cases work with
    | nil => cases h; exact ⟨fun _ hS => hS, fun _ hS => by cases hS⟩
    | cons S work =>
      unfold run at h
      cases hst : stop S
      · rw [hst] at h
        simp only [cond_false] at h
        have key : ∀ {l : List SM}, step1 E S = some l → run E stop n (l ++ work) done = some Ls → (∀ S ∈ done, S ∈ Ls) ∧ ∀ T ∈ S :: work, ∃ S' ∈ Ls, S'.mem.ob → T.mem.ob := by
          intro l hl h
          obtain ⟨h1, h2⟩ := ih h
          refine ⟨h1, fun T hT => ?_⟩
          rcases List.mem_cons.1 hT with rfl | hT
          · obtain ⟨hne, hmono⟩ := step1_mono hl
            obtain ⟨U, l', rfl⟩ := List.exists_cons_of_ne_nil hne
            obtain ⟨S', hS', ho⟩ := h2 U (List.mem_append_left _ List.mem_cons_self)
            exact ⟨S', hS', fun ob => hmono U List.mem_cons_self (ho ob)⟩
          · exact h2 T (List.mem_append_right _ hT)
        split at h
        · cases h
        · rename_i S' hs; exact key hs h
        · rename_i l _ hs; exact key hs h
      · rw [hst] at h
        simp only [cond_true] at h
        obtain ⟨h1, h2⟩ := ih h
        refine ⟨fun T hT => h1 T (List.mem_cons_of_mem _ hT), fun T hT => ?_⟩
        rcases List.mem_cons.1 hT with rfl | hT
        · exact ⟨T, h1 T List.mem_cons_self, id⟩
        · exact h2 T hT

theorem results_go_mono {tm : STm} : ∀ {l : List ResultVar} {s s' : SH} {r : List SV}, resultsS.go E tm l s = some (r, s') → s'.ob → s.ob
  | [], _, _, _, h => by cases h; exact id
  | .tmp t :: l, s, s', r, h => by
    unfold resultsS.go at h
    cases hg : resultsS.go E tm l s with
    | none => rw [hg] at h; cases h
    | some q => obtain ⟨r1, s1⟩ := q; rw [hg] at h; cases h; exact results_go_mono hg
  | .cell a t :: l, s, s', r, h => by
    unfold resultsS.go at h
    cases hl : sLoad E t (tm.get a) s with
    | none => rw [hl] at h; cases h
    | some q0 =>
    obtain ⟨x, s1⟩ := q0
    rw [hl] at h
    simp only at h
    cases hg : resultsS.go E tm l s1 with
    | none => rw [hg] at h; cases h
    | some q => obtain ⟨r1, s2⟩ := q; rw [hg] at h; cases h; exact fun ob => sLoad_mono hl (results_go_mono hg ob)

theorem resultsS_mono {fn : Func} {tm : STm} {x : SV} (h : resultsS E fn tm s = some (x, s')) : s'.ob → s.ob := by
  unfold resultsS at h
  cases hg : resultsS.go E tm fn.results.toList s with
  | none => rw [hg] at h; cases h
  | some q =>
  obtain ⟨l, s1⟩ := q
  rw [hg] at h
  simp only [Option.bind_some] at h
  have := results_go_mono hg
  split at h <;> (cases h; exact this)

/-- What a run comes to. -/
theorem run_ok (K : Facts E M w0) {stop : SM → Bool} {cs0 : List Frame} : ∀ {n : Nat} {work done Ls : List SM}, run E stop n work done = some Ls →
    (∀ S ∈ done, S ∈ Ls) ∧ (∀ S ∈ Ls, S ∈ done ∨ stop S = true) ∧ ∀ S ∈ work, ∀ ν m M1 w1, Base M w0 M1 w1 → MR E M1 w1 cs0 ν S m → ∃ S' ∈ Ls, (S'.mem.ob → S.mem.ob ∧ ∃ ν' m' M2 w2, ν.Le ν' ∧ Steps E.P m m' ∧ Base M w0 M2 w2 ∧ MR E M2 w2 cs0 ν' S' m') := by
  intro n
  induction n with
  | zero =>
    intro work done Ls h
    cases work with
    | nil => cases h; exact ⟨fun _ hS => hS, fun _ hS => .inl hS, fun _ hS => by cases hS⟩
    | cons S work => cases h
  | succ n ih =>
    intro work done Ls h
    cases work with
    | nil => cases h; exact ⟨fun _ hS => hS, fun _ hS => .inl hS, fun _ hS => by cases hS⟩
    | cons S work =>
      unfold run at h
      cases hst : stop S
      · rw [hst] at h
        simp only [cond_false] at h
        have key : ∀ {l : List SM}, step1 E S = some l → run E stop n (l ++ work) done = some Ls →
            (∀ S ∈ done, S ∈ Ls) ∧ (∀ S ∈ Ls, S ∈ done ∨ stop S = true) ∧ ∀ T ∈ S :: work, ∀ ν m M1 w1, Base M w0 M1 w1 → MR E M1 w1 cs0 ν T m → ∃ S' ∈ Ls, (S'.mem.ob → T.mem.ob ∧ ∃ ν' m' M2 w2, ν.Le ν' ∧ Steps E.P m m' ∧ Base M w0 M2 w2 ∧ MR E M2 w2 cs0 ν' S' m') := by
          intro l hl hrun
          obtain ⟨h1, h2, h3⟩ := ih hrun
          refine ⟨h1, h2, fun T hT ν m M1 w1 hB hm => ?_⟩
          rcases List.mem_cons.1 hT with rfl | hT
          · obtain ⟨S1, hS1, hS⟩ := step1_ok K hB hm hl
            by_cases hob : S1.mem.ob
            · obtain ⟨ob0, ν1, m1, M2, w2, hle, hst1, hB2, hm1⟩ := hS hob
              obtain ⟨S', hS', hS2⟩ := h3 S1 (List.mem_append_left _ hS1) ν1 m1 M2 w2 hB2 hm1
              refine ⟨S', hS', fun ob => ?_⟩
              obtain ⟨_, ν2, m2, M3, w3, hle2, hst2, hB3, hm2⟩ := hS2 ob
              exact ⟨ob0, ν2, m2, M3, w3, hle.trans hle2, Steps.trans hst1 hst2, hB3, hm2⟩
            · obtain ⟨S', hS', ho⟩ := (run_mono hrun).2 S1 (List.mem_append_left _ hS1)
              exact ⟨S', hS', fun ob => absurd (ho ob) hob⟩
          · exact h3 T (List.mem_append_right _ hT) ν m M1 w1 hB hm
        split at h
        · cases h
        · rename_i S' hs
          exact key hs h
        · rename_i l _ hs
          exact key hs h
      · rw [hst] at h
        simp only [cond_true] at h
        obtain ⟨h1, h2, h3⟩ := ih h
        refine ⟨fun T hT => h1 T (List.mem_cons_of_mem _ hT), fun T hT => ?_, fun T hT ν m M1 w1 hB hm => ?_⟩
        · rcases h2 T hT with h | h
          · rcases List.mem_cons.1 h with rfl | h
            · exact .inr hst
            · exact .inl h
          · exact .inr h
        · rcases List.mem_cons.1 hT with rfl | hT
          · exact ⟨T, h1 T List.mem_cons_self, fun ob => ⟨ob, ν, m, M1, w1, Val.Le.refl _, Steps.refl _ _, hB, hm⟩⟩
          · exact h3 T hT ν m M1 w1 hB hm

/-- The frame that a call of a function begins with. -/
def enterS (E : Env) (f : FuncId) (args : List SV) (s : SH) : Option SM := (enterF E f args .normal).map fun G => { top := G, callers := [], mem := s }

/-- What is seen of an end: is it one, its value, what is owed. -/
def endS (E : Env) (f : FuncId) (S : SM) : Option (SV × SH) :=
  bif S.over && Nat.beq S.top.fn f then match E.P.funcs[f]? with
    | some fn => resultsS E fn S.top.tm S.mem
    | none => none
  else none

theorem calls_ok (K : Facts E M w0) {f : FuncId} {args : List SV} {a : List Value} {s0 : SH} {S0 : SM} {n : Nat} {Ls : List SM} {R : Ending → World → Prop} (hS0 : enterS E f args s0 = some S0)
    (hrun : run E SM.over n [S0] [] = some Ls) (hr : HR ν M w0 s0 w) (hro : ∀ b, M.r b → b < w0.heap.size) (hh : ∀ b, ¬ M.h b) (hg : GR ν E) (ha : VRL ν args a)
    (hres : ∀ S' ∈ Ls, ∃ x s', endS E f S' = some (x, s') ∧ s'.ob ∧ ∀ ν' w' v, ν.Le ν' → VR ν' x v → HR ν' M w0 s' w' → GR ν' E → R (.returned v) w') :
    Calls E.P f a.toArray w R := by
  intro cs0
  unfold enterS at hS0
  cases hG : enterF E f args .normal with
  | none => rw [hG] at hS0; cases hS0
  | some G =>
  rw [hG] at hS0; cases hS0
  obtain ⟨htop, hkind, _⟩ := enterF_ok (E := E) hG ha _
  have hm : MR E M w0 cs0 ν { top := G, callers := [], mem := s0 } (lone (Frame.enter E.P f a.toArray .normal) cs0 w) :=
    ⟨_, _, w, [], rfl, hr, hg, htop, by show CallersR E ν M w0 cs0 [] G.kind [] cs0; rw [hkind]; exact .nil List.nodup_nil⟩
  obtain ⟨_, _, h3⟩ := run_ok (M := M) (w0 := w0) (cs0 := cs0) K hrun
  obtain ⟨S', hS', hS⟩ := h3 _ (List.mem_singleton.2 rfl) ν _ M w0 (Base.refl hro hh) hm
  obtain ⟨x, s', hend, hob, hR⟩ := hres S' hS'
  unfold endS at hend
  cases hov : (S'.over && Nat.beq S'.top.fn f)
  · rw [hov] at hend; cases hend
  · rw [hov] at hend
    simp only [cond_true] at hend
    rw [Bool.and_eq_true] at hov
    obtain ⟨hov, hfn⟩ := hov
    have hfn := Nat.eq_of_beq_eq_true hfn
    unfold SM.over at hov
    rw [Bool.and_eq_true, Bool.and_eq_true] at hov
    obtain ⟨⟨hcal, hret⟩, hdef⟩ := hov
    split at hend
    · rename_i fn hf
      obtain ⟨ob0, ht⟩ : S'.mem.ob ∧ True := ⟨resultsS_mono hend hob, trivial⟩
      obtain ⟨_, ν', m', M2, w2, hle, hsteps, hB, ⟨fr, cs, w', hl, rfl, hr', hg', htop', hc'⟩⟩ := hS ob0
      obtain ⟨hmode, htm⟩ := htop'.ret hret
      obtain ⟨hsame, hobr⟩ := results_ok (E := E) htm hr' hend
      obtain ⟨_, v, hv, hvr⟩ := hobr hob
      have hcs : S'.callers = [] := List.isEmpty_iff.1 hcal
      rw [hcs] at hc'
      have hk : S'.top.kind = .normal ∧ cs = cs0 := by
        generalize hkk : S'.top.kind = kk at hc'
        cases hc' with
        | nil _ => exact ⟨rfl, rfl⟩
      obtain ⟨hk, rfl⟩ := hk
      have hd := htop'.base.defers
      rw [List.isEmpty_iff.1 hdef] at hd
      refine ⟨.returned v, w', fr, hR ν' w' v hle hvr ((hr'.unbase hB).same hsame) hg', hsteps, by rw [htop'.base.fn]; exact hfn, hmode, hd, by rw [htop'.base.kind]; exact hk, fn, ?_, hv⟩
      rw [htop'.base.fn, hfn]; exact hf
    · cases hend
end
end Go.Rx
