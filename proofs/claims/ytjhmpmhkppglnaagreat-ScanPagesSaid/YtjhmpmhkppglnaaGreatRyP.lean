/- The symbolic executor 'Rx', part YP: short ways to contracts of functions that begin with nothing told. By an AI agent. -/
import Derived.Test.YtjhmpmhkppglnaaGreatRyO
set_option linter.unusedVariables false
set_option linter.unusedSimpArgs false
namespace Go.Rx
open Go.RowKit (Below)
def noSM : SM := { top := { fn := 0, tm := tmOf 0 0 [], todo := [], defers := [], ret := false, kind := .normal, ro := none }, callers := [], mem := memOf 0 0 0 [] }
/-- A call that begins with nothing told. -/
def entE (E : Env) (f : FuncId) (args : List SV) : SM := (enterS E f args (memOf 6 0 0 [])).getD noSM
def ff (l : List Nat) (b : Bool) : List (Nat × Ans) := l.map fun n => (n, .b b)
/-- What is owed, folded. -/
structure Due (l : List Prop) : Prop where
  out : Owed l
/-- A call that begins with nothing told, in pieces. -/
theorem calls_bare {E : Env} {P : Program} (hP : E.P = P) (hG : E.G = []) {f : FuncId} {args : List SV} {a : List Value} {S0 : SM} {Q : Value → Prop} (w : World) (hS0 : enterS E f args (memOf 6 0 0 []) = some S0) (ha : VRL (layVal []) args a)
    (hs : ∀ cs0, Goes E (layOwn [] []) w cs0 f (fun e w' => Below w.heap.size w w' ∧ ∃ v, e = .returned v ∧ Q v) (layVal []) S0) : Calls P f a.toArray w fun e w' => Below w.heap.size w w' ∧ ∃ v, e = .returned v ∧ Q v :=
  calls_of_read (E := E) hP (d := 6) (l := []) (os := []) rfl (by simp) (by simp) (fun i o b c h => by simp at h) hG hS0 ha hs
theorem not_laid (b : Nat) : ¬ (layOwn [] []) b := by rintro ⟨i, o, c, h, _⟩; simp at h
/-- .. by one run. -/
theorem calls_endsV {E : Env} {P : Program} (hP : E.P = P) (hG : E.G = []) {f : FuncId} {args : List SV} {a : List Value} {n : Nat} {o : List (Nat × Ans)} {v : Value} {w : World} (K : Facts E (layOwn [] []) w)
    (hS0 : enterS E f args (memOf 6 0 0 []) = some (entE E f args)) (ha : VRL (layVal []) args a) (h : Due (endsV E f n (entE E f args) o v)) : Calls P f a.toArray w fun e w' => Below w.heap.size w w' ∧ e = .returned v :=
  (calls_bare (Q := fun u => u = v) hP hG w hS0 ha fun cs0 => Goes.endsV K h.out fun ν' M1 w1 s' w' _ hB hr => ⟨below_of not_laid hB hr, _, rfl, rfl⟩).mono fun e w' ⟨h1, u, h2, h3⟩ => ⟨h1, by rw [h2, h3]⟩
/-- A contract: the cases of its arguments are told by whoever uses it. -/
theorem PureOK.mk {P : Program} {X : World → Prop} {f : FuncId} {ps : PS} (hf : ∃ fn, P.funcs[f]? = some fn ∧ fn.body.isSome = true ∧ (fn.name == "runtime.NumGoroutine") = false)
    (h : ∀ args v p, ps args = some (v, p) → p → ∀ w, X w → Calls P f args.toArray w fun e w' => Below w.heap.size w w' ∧ e = .returned v) : PureOK P X (f, ps) := ⟨hf, h⟩
theorem cell_keep {w0 w : World} {g : Nat} {v : Value} (h : w0.cell? ⟨g, 0, none⟩ = some v) (hk : ∀ k, k < w0.heap.size → w.heap[k]? = w0.heap[k]?) : w.cell? ⟨g, 0, none⟩ = some v := by
  have hlt : g < w0.heap.size := by
    rcases Nat.lt_or_ge g w0.heap.size with h' | h'
    · exact h'
    · unfold World.cell? at h
      simp only at h
      rw [Array.getElem?_eq_none h'] at h
      cases h
  unfold World.cell? at h ⊢
  simp only at h ⊢
  rw [hk g hlt]; exact h
end Go.Rx
