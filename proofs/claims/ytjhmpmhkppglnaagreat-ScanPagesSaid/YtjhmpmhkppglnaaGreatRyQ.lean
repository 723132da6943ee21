/- The symbolic executor 'Rx', part YQ: stages of long runs, with what is dead forgotten in between. By an AI agent. -/
import Derived.Test.YtjhmpmhkppglnaaGreatRyP
set_option linter.unusedVariables false
set_option linter.unusedSimpArgs false
namespace Go.Rx
open Go.RowKit (Below)
section
variable {E : Env} {ν : Val} {M : Own} {w0 w : World} {s s' : SH} {cs0 : List Frame} {f : FuncId} {R : Ending → World → Prop}

theorem Goes.mono {ν' : Val} {S : SM} (h : Goes E M w0 cs0 f R ν S) (k : ν.Le ν') : Goes E M w0 cs0 f R ν' S := fun ν1 m M1 w1 hle => h ν1 m M1 w1 (k.trans hle)

/-- So many turns, each end being 'true': all goes well if it goes well from what is left. -/
theorem runV_safe (K : Facts E M w0) (hR : ∀ ν' M1 w1 s' w', ν.Le ν' → Base M w0 M1 w1 → HR ν' M1 w1 s' w' → R (.returned (.bool true)) w') : ∀ {n : Nat} {l l' : List SM}, runV E f n l = some l' →
    (∀ S ∈ l', S.mem.ob ∧ Goes E M w0 cs0 f R ν S) → ∀ S ∈ l, S.mem.ob ∧ Goes E M w0 cs0 f R ν S
  | 0, _, _, h, hs => by cases h; exact hs
  | _ + 1, [], _, _, _ => fun S hS => by cases hS
  | n + 1, S :: l, l', h, hs => by
    unfold runV at h
    cases ho : S.over
    · rw [ho] at h
      simp only [cond_false] at h
      split at h
      · cases h
      · rename_i Ls hL
        have ih := runV_safe K hR h hs
        intro T hT
        rcases List.mem_cons.1 hT with rfl | hT
        · obtain ⟨hne, hmono⟩ := step1_mono hL
          obtain ⟨U, r, hU⟩ := List.exists_cons_of_ne_nil hne
          refine ⟨hmono U (by rw [hU]; exact List.mem_cons_self) (ih U (List.mem_append_left _ (by rw [hU]; exact List.mem_cons_self))).1, ?_⟩
          intro ν' m M1 w1 hle hB hm
          obtain ⟨V, hV, hstep⟩ := step1_ok K hB hm hL
          obtain ⟨ob, hgo⟩ := ih V (List.mem_append_left _ hV)
          obtain ⟨_, ν2, m', M2, w2, hle2, hst, hB2, hMR⟩ := hstep ob
          exact (hgo ν2 m' M2 w2 (hle.trans hle2) hB2 hMR).steps hst
        · exact ih T (List.mem_append_right _ hT)
    · rw [ho] at h
      simp only [cond_true] at h
      cases hk : okEnd E f S
      · rw [hk] at h; cases h
      · rw [hk] at h
        simp only [cond_true] at h
        have ih := runV_safe K hR h hs
        intro T hT
        rcases List.mem_cons.1 hT with rfl | hT
        · unfold okEnd at hk
          split at hk
          · rename_i s1 he
            have ob : s1.ob := by
              show Owed s1.obl
              rw [List.isEmpty_iff.1 hk]; trivial
            refine ⟨resultsS_mono' he ob, Goes.done he ob fun ν' M1 w1 w' v hle hB hv hr hg => ?_⟩
            rw [VR.v_iff.1 hv]
            exact hR ν' M1 w1 s1 w' hle hB hr
          · cases hk
        · exact ih T hT

/-! ### what is dead is forgotten -/

theorem TmR.junk {tm : STm} {a : Array Value} (r : TmR ν tm a) (t : Nat) : TmR ν (tm.set t .junk) a := by
  have h := r.set t (x := .junk) (y := a.getD t undef) (by rw [VR]; trivial)
  have e : a.setIfInBounds t (a.getD t undef) = a := by
    apply Array.ext
    · simp
    · intro i h1 h2
      rw [Array.getElem_setIfInBounds (by simpa using h1)]
      split
      · rename_i e; subst e
        have : t < a.size := h2
        simp [Array.getD, this]
      · rfl
  rwa [e] at h

def STm.junks (tm : STm) (l : List Nat) : STm := l.foldl (fun tm t => tm.set t .junk) tm
theorem TmR.junks : ∀ {l : List Nat} {tm : STm} {a : Array Value}, TmR ν tm a → TmR ν (tm.junks l) a
  | [], _, _, h => h
  | t :: l, _, _, h => TmR.junks (l := l) (h.junk t)

def notDrw : List SI → Bool
  | .drw _ _ _ :: _ => false
  | _ => true

def SF.junks (F : SF) (l : List Nat) : SF := bif notDrw F.todo then { F with tm := F.tm.junks l } else F

theorem WaitF.junks {hl : List Nat} {F : SF} {fr : Frame} (h : WaitF E ν M w0 hl F fr) (l : List Nat) : WaitF E ν M w0 hl (F.junks l) fr := by
  unfold SF.junks
  cases hn : notDrw F.todo
  · exact h
  · obtain ⟨fn, tm, todo, defers, ret, kind, ro⟩ := F
    obtain ⟨fn', tmps, todo', defers', mode', kind', ro'⟩ := fr
    obtain ⟨⟨h1, h2, h3, h4⟩, hret, hmode, hw⟩ := h
    dsimp only at h1 h2 h3 h4 hret hmode hw hn
    refine ⟨⟨h1, h2, h3, h4⟩, hret, hmode, ?_⟩
    cases hw with
    | plain ht hk => exact .plain (ht.junks) hk
    | drw hok hn' d hnl hk => cases hn

theorem RetF.junks {F : SF} {fr : Frame} (h : RetF ν F fr) (l : List Nat) : RetF ν (F.junks l) fr := by
  unfold SF.junks
  cases hn : notDrw F.todo
  · exact h
  · exact ⟨⟨h.base.fn, h.base.defers, h.base.kind, h.base.ro⟩, h.ret, h.mode, h.tm.junks⟩

theorem SF.junks_kind (F : SF) (l : List Nat) : (F.junks l).kind = F.kind := by unfold SF.junks; cases notDrw F.todo <;> rfl

def junksL : List SF → List (List Nat) → List SF
  | F :: Fs, l :: ls => F.junks l :: junksL Fs ls
  | Fs, [] => Fs
  | [], _ => []

theorem CallersR.junks {hl : List Nat} {k : CallKind} {Fs : List SF} {frs : List Frame} (c : CallersR E ν M w0 cs0 hl k Fs frs) : ∀ ls : List (List Nat), CallersR E ν M w0 cs0 hl k (junksL Fs ls) frs := by
  induction c with
  | nil hnd => intro ls; cases ls <;> exact .nil hnd
  | wait hf t ih =>
    intro ls
    cases ls with
    | nil => exact .wait hf t
    | cons l ls =>
      have := ih ls
      exact .wait (hf.junks l) (by rw [SF.junks_kind]; exact this)
  | ret hf t ih =>
    intro ls
    cases ls with
    | nil => exact .ret hf t
    | cons l ls => exact .ret (hf.junks l) (by rw [SF.junks_kind]; exact ih ls)

def SH.drops (s : SH) (l : List Nat) : SH := l.foldl (fun s i => bif Nat.blt i (2 ^ s.d) then s.drop i else s) s
theorem HR.drops : ∀ {l : List Nat} {s : SH}, HR ν M w0 s w → HR ν M w0 (s.drops l) w
  | [], _, h => h
  | i :: l, s, h => by
    show HR ν M w0 (SH.drops (bif Nat.blt i (2 ^ s.d) then s.drop i else s) l) w
    cases hb : Nat.blt i (2 ^ s.d)
    · exact HR.drops (l := l) h
    · exact HR.drops (l := l) (h.drop (blt_iff.1 hb))

/-- The numbers of a memory are set on: of the next object, and of the choices. -/
def SH.setOn (s : SH) (nx : Nat) : SH := { s with nx := bif Nat.ble s.nx nx then nx else s.nx, dc := 0 }
theorem HR.setOn (h : HR ν M w0 s w) (nx : Nat) : HR ν M w0 (s.setOn nx) w := by
  refine ⟨h.full, h.dom, fun i hi => h.fresh i (Nat.le_trans ?_ hi), h.obj, h.inj, h.size, h.frame, h.ro, h.os, h.tape, h.output⟩
  show s.nx ≤ (bif Nat.ble s.nx nx then nx else s.nx)
  cases hb : Nat.ble s.nx nx
  · exact Nat.le_refl _
  · exact Nat.le_of_ble_eq_true hb

/-- What a state is to forget: objects, temporaries of each frame; the next number that it is set on to (and 'false': it stays as it is). -/
abbrev Gc := Bool × List Nat × List (List Nat) × Nat
/-- A state of which some objects, and some temporaries of each frame, are forgotten. -/
def SM.gc (S : SM) (g : Gc) : SM :=
  bif g.1 && notDrw S.top.todo then { top := S.top.junks (g.2.2.1.headD []), callers := junksL S.callers g.2.2.1.tail, mem := (S.mem.drops g.2.1).setOn g.2.2.2 } else S

theorem drops_obl : ∀ {l : List Nat} {s : SH}, (s.drops l).obl = s.obl
  | [], _ => rfl
  | i :: l, s => by
    show (SH.drops (bif Nat.blt i (2 ^ s.d) then s.drop i else s) l).obl = s.obl
    rw [drops_obl (l := l)]
    cases Nat.blt i (2 ^ s.d) <;> rfl

theorem MR.gc {S : SM} {m : Machine} (h : MR E M w0 cs0 ν S m) (g : Gc) : MR E M w0 cs0 ν (S.gc g) m := by
  obtain ⟨on, os, ts, nx⟩ := g
  unfold SM.gc
  dsimp only
  cases on
  · exact h
  cases hn : notDrw S.top.todo
  · exact h
  simp only [Bool.and_self, cond_true]
  obtain ⟨fr, cs, w, hl, hm, hr, hg, ⟨h1, h2, h3⟩, hc⟩ := h
  refine ⟨fr, cs, w, hl, hm, (hr.drops).setOn nx, hg, ⟨?_, ?_, ?_⟩, ?_⟩
  · unfold SF.junks; rw [hn]; exact ⟨h1.fn, h1.defers, h1.kind, h1.ro⟩
  · intro hf
    have hf' : S.top.ret = false := by unfold SF.junks at hf; rw [hn] at hf; exact hf
    refine ⟨(h2 hf').1, ?_⟩
    have := (h2 hf').2
    unfold SF.junks; rw [hn]
    simp only [cond_true]
    revert this hn
    generalize S.top.todo = xs
    generalize fr.todo = ys
    intro hn this
    cases this with
    | plain ht hk => exact .plain ht.junks hk
    | drw hok hn' d st hk => cases hn
  · intro hf
    have hf' : S.top.ret = true := by unfold SF.junks at hf; rw [hn] at hf; exact hf
    refine ⟨(h3 hf').1, ?_⟩
    unfold SF.junks; rw [hn]; exact (h3 hf').2.junks
  · dsimp only
    rw [SF.junks_kind]; exact hc.junks _

theorem Goes.gc {S : SM} {g : Gc} (h : (S.gc g).mem.ob ∧ Goes E M w0 cs0 f R ν (S.gc g)) : S.mem.ob ∧ Goes E M w0 cs0 f R ν S := by
  refine ⟨?_, fun ν' m M1 w1 hle hB hm => h.2 ν' m M1 w1 hle hB (hm.gc g)⟩
  have := h.1
  unfold SM.gc at this
  cases hn : (g.1 && notDrw S.top.todo)
  · rw [hn] at this; exact this
  · rw [hn] at this
    show Owed S.mem.obl
    have e : ((S.mem.drops g.2.1).setOn g.2.2.2).ob := this
    have e : Owed (S.mem.drops g.2.1).obl := e
    rwa [drops_obl] at e

/-- What each of some states is to forget. -/
def gcs : List SM → List Gc → List SM
  | S :: l, g :: gs => S.gc g :: gcs l gs
  | l, [] => l
  | [], _ => []
theorem gcs_safe : ∀ {l : List SM} {gs : List Gc}, (∀ S ∈ gcs l gs, S.mem.ob ∧ Goes E M w0 cs0 f R ν S) → ∀ S ∈ l, S.mem.ob ∧ Goes E M w0 cs0 f R ν S
  | [], _, _ => fun S hS => by cases hS
  | S :: l, [], h => h
  | S :: l, g :: gs, h => by
    intro T hT
    rcases List.mem_cons.1 hT with rfl | hT
    · exact Goes.gc (h _ List.mem_cons_self)
    · exact gcs_safe (l := l) (gs := gs) (fun U hU => h U (List.mem_cons_of_mem _ hU)) T hT

/-- A stage: so many turns, then what is dead is forgotten. -/
def stageV (E : Env) (f : FuncId) (n : Nat) (l : List SM) (gs : List Gc) : Option (List SM) := (runV E f n l).map fun l => gcs l gs

theorem stageV_safe (K : Facts E M w0) (hR : ∀ ν' M1 w1 s' w', ν.Le ν' → Base M w0 M1 w1 → HR ν' M1 w1 s' w' → R (.returned (.bool true)) w') {n : Nat} {l l' : List SM} {gs : List Gc} (h : stageV E f n l gs = some l')
    (hs : ∀ S ∈ l', S.mem.ob ∧ Goes E M w0 cs0 f R ν S) : ∀ S ∈ l, S.mem.ob ∧ Goes E M w0 cs0 f R ν S := by
  unfold stageV at h
  obtain ⟨l1, h1, rfl⟩ := Option.map_eq_some_iff.1 h
  exact runV_safe K hR h1 (gcs_safe hs)

/-- From these states all goes well. -/
def AllSafe (E : Env) (M : Own) (w0 : World) (f : FuncId) (ν : Val) (l : List SM) : Prop :=
  ∀ cs0, ∀ S ∈ l, S.mem.ob ∧ Goes E M w0 cs0 f (fun e w' => e = .returned (.bool true) ∧ Below w0.heap.size w0 w') ν S
theorem AllSafe.cons {S : SM} {l : List SM} (h : AllSafe E M w0 f ν [S]) (k : AllSafe E M w0 f ν l) : AllSafe E M w0 f ν (S :: l) := fun cs0 T hT => by
  rcases List.mem_cons.1 hT with rfl | hT
  · exact h cs0 _ List.mem_cons_self
  · exact k cs0 T hT
theorem AllSafe.nil : AllSafe E M w0 f ν [] := fun _ _ h => by cases h
theorem AllSafe.stage (K : Facts E M w0) (hM : ∀ b, ¬ M b) {n : Nat} {l l' : List SM} {gs : List Gc} (h : stageV E f n l gs = some l') (hs : AllSafe E M w0 f ν l') : AllSafe E M w0 f ν l := fun cs0 =>
  stageV_safe K (fun ν' M1 w1 s' w' _ hB hr => ⟨rfl, below_of hM hB hr⟩) h (hs cs0)

/-- A call over told package variables, out of its stages. -/
theorem calls_stages {P : Program} (hP : E.P = P) {d : Nat} {l : List (Nat × List SV)} {S0 : SM} (hG : E.G = (l.map (·.1)).zipIdx) (hd : l.length ≤ 2 ^ d) (hn : (l.map (·.1)).Nodup) (told : ∀ r ∈ l, Told w r)
    (hS0 : enterS E f [] (laidMem d l) = some S0) (hs : AllSafe E (laidOwn l) w f (laidVal l) [S0]) : Calls P f #[] w fun e w' => e = .returned (.bool true) ∧ Below w.heap.size w w' :=
  calls_pieces (a := []) hP hG hd hn told hS0 VRL.nil fun cs0 => (hs cs0 S0 List.mem_cons_self).2
end

/-- A memory whose objects are told with their numbers. -/
def memAt (d nx dc : Nat) (l : List (Nat × SO × Bool)) : SH := { d, H := l.foldl (fun T x => T.set x.1 (some (x.2.1, x.2.2))) (Tr.mk none d), nx, obl := [], dc }
/-- Temporaries that are told with their numbers; the others are forgotten. -/
def tmAt (nt d k : Nat) (l : List (Nat × SV)) : STm := { nt, d, T := l.foldl (fun T x => T.set x.1 x.2) (Tr.fill (Tr.mk (.v undef) d) 0 (List.replicate k .junk)) }
end Go.Rx
