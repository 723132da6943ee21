/- The symbolic executor 'Rx', part YH: long runs, stage by stage. By an AI agent. -/
import Derived.Test.YtjhmpmhkppglnaaGreatRyG
set_option linter.unusedVariables false
set_option linter.unusedSimpArgs false
namespace Go.Rx
open Go.RowKit (Below)

/-- So many turns of a run: the ways that are left, and those that have stopped. -/
def runK (E : Env) (stop : SM → Bool) : Nat → List SM → List SM → Option (List SM × List SM)
  | 0, w, d => some (w, d)
  | _ + 1, [], d => some ([], d)
  | n + 1, S :: w, d => bif stop S then runK E stop n w (S :: d) else match step1 E S with
    | none => none
    | some l => runK E stop n (l ++ w) d

theorem run_nil {E : Env} {stop : SM → Bool} {n : Nat} {d : List SM} : run E stop n [] d = some d := by
  cases n <;> rfl

/-- A run goes on from where its first turns led. -/
theorem runK_run {E : Env} {stop : SM → Bool} : ∀ {n : Nat} {w d w' d' : List SM}, runK E stop n w d = some (w', d') → ∀ {m : Nat} {Ls : List SM}, run E stop m w' d' = some Ls → run E stop (n + m) w d = some Ls
  | 0, w, d, w', d', h, m, Ls, k => by cases h; rw [Nat.zero_add]; exact k
  | n + 1, [], d, w', d', h, m, Ls, k => by
    cases h
    rw [run_nil] at k ⊢; exact k
  | n + 1, S :: w, d, w', d', h, m, Ls, k => by
    rw [Nat.add_right_comm]
    unfold runK at h
    unfold run
    cases hs : stop S
    · rw [hs] at h
      simp only [cond_false] at h ⊢
      split at h
      · cases h
      · rename_i l hl
        have := runK_run h k
        rw [hl]
        split
        · rename_i e; cases e
        · rename_i S' e; cases e; exact this
        · rename_i l' _ e; cases e; exact this
    · rw [hs] at h
      simp only [cond_true] at h ⊢
      exact runK_run h k

/-- One stage behind the other. -/
theorem runK_trans {E : Env} {stop : SM → Bool} : ∀ {n : Nat} {w d w' d' : List SM}, runK E stop n w d = some (w', d') → ∀ {m : Nat} {r : List SM × List SM}, runK E stop m w' d' = some r → runK E stop (n + m) w d = some r
  | 0, w, d, w', d', h, m, r, k => by cases h; rw [Nat.zero_add]; exact k
  | n + 1, [], d, w', d', h, m, r, k => by
    cases h
    have e : ∀ m, runK E stop m [] d = some ([], d) := by intro m; cases m <;> rfl
    rw [e] at k ⊢; exact k
  | n + 1, S :: w, d, w', d', h, m, r, k => by
    rw [Nat.add_right_comm]
    unfold runK at h ⊢
    cases hs : stop S
    · rw [hs] at h
      simp only [cond_false] at h ⊢
      split at h
      · cases h
      · rename_i l hl
        exact runK_trans h k
    · rw [hs] at h
      simp only [cond_true] at h ⊢
      exact runK_trans h k

/-- The whole run out of its stages. -/
theorem runS_of {E : Env} {f : FuncId} {args : List SV} {s0 : SH} {S0 : SM} {n : Nat} {d : List SM} (h0 : enterS E f args s0 = some S0) (h : runK E SM.over n [S0] [] = some ([], d)) : runS E f args s0 n = some d := by
  unfold runS
  rw [h0]
  have := runK_run h (m := 0) (Ls := d) (by rw [run_nil])
  simpa using this

/-! ### how a stage is written down -/

def Tr.fill {α : Type} (T : Tr α) (i : Nat) : List α → Tr α
  | [] => T
  | x :: xs => Tr.fill (T.set i x) (i + 1) xs

/-- Temporaries, one by one. -/
def tmOf (nt d : Nat) (l : List SV) : STm := { nt, d, T := Tr.fill (Tr.mk (.v undef) d) 0 l }

/-- A memory, object by object. -/
def memOf (d nx dc : Nat) (l : List (Option (SO × Bool))) : SH := { d, H := Tr.fill (Tr.mk none d) 0 l, nx, obl := [], dc }

/-- A part of a code: which child, and so on. -/
def codeAt : Code → List Nat → Code
  | c, [] => c
  | .seq a _, 0 :: p => codeAt a p
  | .seq _ b, _ :: p => codeAt b p
  | .cond _ a _, 0 :: p => codeAt a p
  | .cond _ _ b, _ :: p => codeAt b p
  | .block _ c, _ :: p => codeAt c p
  | .loop c, _ :: p => codeAt c p
  | .scope c, _ :: p => codeAt c p
  | .rangeFunc _ _ a _, 0 :: p => codeAt a p
  | .rangeFunc _ _ _ b, _ :: p => codeAt b p
  | c, _ => c

def bodyAt (P : Program) (f : FuncId) (p : List Nat) : Code :=
  match P.funcs[f]? with
  | some fn => match fn.body with
    | some c => codeAt c p
    | none => .skip
  | none => .skip

def opsOf : Code → Array Oper
  | .region _ ops _ => ops
  | _ => #[]

/-! ### a call that is told to come back with 'true' -/

theorem Told.keep {ν : Val} {l : List (Nat × List SV)} {W w : World} {s : SH} (h : HR ν (laidOwn l) W s w) {r : Nat × List SV} (t : Told W r) : Told w r := by
  obtain ⟨ys, c, e, fz, h1, h2, h3⟩ := t
  refine ⟨ys, c, e, fz, ?_, h2, h3⟩
  rw [h.frame _ (Array.getElem?_eq_some_iff.1 h1).1 (fun h => h), h1]

/-- What is told of one function without arguments. -/
def qTrue (LF : FuncId) : FuncId → Option (List SV → Option (List SV)) := fun f => bif Nat.beq f LF then some (fun args => match args with | [] => some [SV.v (.bool true)] | _ => none) else none

theorem QOK.one {E : Env} {LF : FuncId} {l : List (Nat × List SV)} {W : World} (hq : E.qs = qTrue LF) {fn : Func} (hf : E.P.funcs[LF]? = some fn) (hb : fn.body.isSome = true) (hn : (fn.name == "runtime.NumGoroutine") = false)
    (hc : ∀ w, (∀ r ∈ l, Told w r) → Calls E.P LF #[] w fun e w' => e = .returned (.bool true) ∧ Below w.heap.size w w') (ht : ∀ r ∈ l, Told W r) : QOK E (laidOwn l) W := by
  intro f g hg args L hL
  rw [hq] at hg
  unfold qTrue at hg
  cases hfe : Nat.beq f LF
  · rw [hfe] at hg; cases hg
  · rw [hfe] at hg
    obtain rfl := Nat.eq_of_beq_eq_true hfe
    cases hg
    match args, hL with
    | [], hL =>
      cases hL
      refine ⟨by simp, fun ν s w a hr hgr ha => ?_⟩
      obtain rfl := ha.nil_inv
      refine ⟨run_callFunc hf (by intro e; rw [e] at hb; cases hb) (by intro e; rw [e] at hn; simp at hn), ?_⟩
      exact (hc w fun r hr' => (ht r hr').keep hr).mono fun e w' ⟨he, hbel⟩ => ⟨hbel, _, List.mem_singleton.2 rfl, _, he, VR.v_iff.2 rfl⟩
    | _ :: _, hL => cases hL

end Go.Rx
