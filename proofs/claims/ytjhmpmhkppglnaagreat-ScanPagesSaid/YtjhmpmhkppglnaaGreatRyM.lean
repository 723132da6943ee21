/- The symbolic executor 'Rx', part YM: long runs whose ends are looked at as they come. By an AI agent. -/
import Derived.Test.YtjhmpmhkppglnaaGreatRyL
set_option linter.unusedVariables false
set_option linter.unusedSimpArgs false
namespace Go.Rx
open Go.RowKit (Below)

/-- An end with 'true', with nothing owed. -/
def okEnd (E : Env) (f : FuncId) (S : SM) : Bool := match endS E f S with
  | some (.v (.bool true), s') => s'.obl.isEmpty
  | _ => false

/-- So many turns of a run; each end is to be 'true'. -/
def runV (E : Env) (f : FuncId) : Nat → List SM → Option (List SM)
  | 0, w => some w
  | _ + 1, [] => some []
  | n + 1, S :: w => bif S.over then (bif okEnd E f S then runV E f n w else none) else match step1 E S with
    | none => none
    | some l => runV E f n (l ++ w)

theorem runV_runK {E : Env} {f : FuncId} : ∀ {n : Nat} {w w' : List SM}, runV E f n w = some w' → ∀ d : List SM, (∀ S ∈ d, okEnd E f S = true) → ∃ d', runK E SM.over n w d = some (w', d') ∧ ∀ S ∈ d', okEnd E f S = true
  | 0, w, w', h, d, hd => by cases h; exact ⟨d, rfl, hd⟩
  | _ + 1, [], w', h, d, hd => by cases h; exact ⟨d, rfl, hd⟩
  | n + 1, S :: w, w', h, d, hd => by
    unfold runV at h
    unfold runK
    cases hs : S.over
    · rw [hs] at h
      simp only [cond_false] at h ⊢
      split at h
      · cases h
      · rename_i l hl
        rw [hl]
        exact runV_runK h d hd
    · rw [hs] at h
      simp only [cond_true] at h ⊢
      cases ho : okEnd E f S
      · rw [ho] at h; cases h
      · rw [ho] at h
        refine runV_runK h (S :: d) fun T hT => ?_
        rcases List.mem_cons.1 hT with rfl | hT
        · exact ho
        · exact hd T hT

theorem runV_trans {E : Env} {f : FuncId} : ∀ {n : Nat} {w w' : List SM}, runV E f n w = some w' → ∀ {m : Nat} {r : List SM}, runV E f m w' = some r → runV E f (n + m) w = some r
  | 0, w, w', h, m, r, k => by cases h; rw [Nat.zero_add]; exact k
  | n + 1, [], w', h, m, r, k => by
    cases h
    have e : ∀ m, runV E f m [] = some [] := by intro m; cases m <;> rfl
    rw [e] at k ⊢; exact k
  | n + 1, S :: w, w', h, m, r, k => by
    rw [Nat.add_right_comm]
    unfold runV at h ⊢
    cases hs : S.over
    · rw [hs] at h
      simp only [cond_false] at h ⊢
      split at h
      · cases h
      · rename_i l hl
        exact runV_trans h k
    · rw [hs] at h
      simp only [cond_true] at h ⊢
      cases ho : okEnd E f S
      · rw [ho] at h; cases h
      · rw [ho] at h
        exact runV_trans h k

theorem verdict_ok {E : Env} {f : FuncId} : ∀ {Ls : List SM}, (∀ S ∈ Ls, okEnd E f S = true) → verdict E f Ls
  | [], _ => trivial
  | S :: r, h => by
    refine ⟨?_, verdict_ok fun T hT => h T (List.mem_cons_of_mem _ hT)⟩
    have := h S List.mem_cons_self
    unfold okEnd at this
    split at this
    · rename_i s' he
      rw [he]
      show Owed s'.obl
      rw [List.isEmpty_iff.1 this]; trivial
    · cases this

/-- The verdict out of such a run. -/
theorem verdict_of_runV {E : Env} {f : FuncId} {args : List SV} {s0 : SH} {S0 : SM} {n : Nat} (h0 : enterS E f args s0 = some S0) (h : runV E f n [S0] = some []) : verdictO E f (runS E f args s0 n) := by
  obtain ⟨d, hk, hd⟩ := runV_runK h [] fun _ h => by cases h
  rw [runS_of h0 hk]
  exact verdict_ok hd

/-- Does a call come to this truth? -/
def okBool (E : Env) (f : FuncId) (n : Nat) (S : SM) (b : Bool) : Bool := match goS E SM.over n (S.with []) with
  | some T => match endS E f T with
    | some (.v (.bool x), s') => x == b && s'.obl.isEmpty
    | _ => false
  | none => false

theorem Goes.okBool {E : Env} {ν : Val} {M : Own} {w0 : World} {cs0 : List Frame} {f : FuncId} {R : Ending → World → Prop} (K : Facts E M w0) {n : Nat} {S : SM} {b : Bool} (h : Go.Rx.okBool E f n S b = true)
    (hR : ∀ ν' M1 w1 s' w', ν.Le ν' → Base M w0 M1 w1 → HR ν' M1 w1 s' w' → R (.returned (.bool b)) w') : Goes E M w0 cs0 f R ν S := by
  unfold Go.Rx.okBool at h
  split at h
  · rename_i T hT
    split at h
    · rename_i x s' hend
      rw [Bool.and_eq_true] at h
      obtain rfl : x = b := by simpa using h.1
      have ob : s'.ob := by
        show Owed s'.obl
        rw [List.isEmpty_iff.1 h.2]; trivial
      refine Goes.go K hT (resultsS_mono' hend ob) (Goes.done hend ob fun ν' M1 w1 w' u hle hB hv hr hg => ?_)
      rw [VR.v_iff.1 hv]
      exact hR ν' M1 w1 s' w' hle hB hr
    · cases h
  · cases h
end Go.Rx
