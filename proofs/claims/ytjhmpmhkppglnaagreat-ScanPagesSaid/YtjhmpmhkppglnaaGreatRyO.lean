/- The symbolic executor 'Rx', part YO: lists of contracts of several kinds; a call that gives a slice of texts. By an AI agent. -/
import Derived.Test.YtjhmpmhkppglnaaGreatRyN
import Derived.Lib.SplitLaws
set_option linter.unusedVariables false
set_option linter.unusedSimpArgs false
namespace Go.Rx
open Go.RowKit (Below)

abbrev Sum := List SV → SH → Option (SV × SH)
/-- What such a contract says, in each world in which something is so. -/
def SumOK (P : Program) (X : World → Prop) (r : FuncId × Sum) : Prop :=
  (∃ fn, P.funcs[r.1]? = some fn ∧ fn.body.isSome = true ∧ (fn.name == "runtime.NumGoroutine") = false) ∧
  ∀ args x s s', r.2 args s = some (x, s') → s'.ob → s.ob ∧ ∀ ν M w0 w a, HR ν M w0 s w → X w → VRL ν args a →
    Calls P r.1 a.toArray w fun e w' => Below w.heap.size w w' ∧ ∃ y, e = .returned y ∧ NewVal ν s w s' w' x y
theorem SumsOK.list {E : Env} {M : Own} {w0 : World} {X : World → Prop} {l : List (FuncId × Sum)} (hE : E.sums = fun f => l.lookup f) (h : ∀ r ∈ l, SumOK E.P X r) (hX : ∀ ν s w, HR ν M w0 s w → GR ν E → X w) : SumsOK E M w0 := by
  intro f g hg args x s s' hx ob
  rw [hE] at hg
  obtain ⟨⟨fn, hf, hb, hn⟩, hc⟩ := h _ (lookup_mem' hg)
  obtain ⟨ob1, hc⟩ := hc args x s s' hx ob
  exact ⟨ob1, fun ν w a hr hgr ha => ⟨run_callFunc hf (by intro e; rw [e] at hb; cases hb) (by intro e; rw [e] at hn; simp at hn), hc ν M w0 w a hr (hX ν s w hr hgr) ha⟩⟩
theorem SumOK.pure {P : Program} {X : World → Prop} {r : FuncId × PS} (h : PureOK P X r) : SumOK P X (r.1, pureSum r.2) := by
  obtain ⟨hf, hc⟩ := h
  refine ⟨hf, fun args x s s' hx ob => ?_⟩
  dsimp only at hx
  unfold pureSum at hx
  split at hx
  · rename_i vs hvs
    split at hx
    · rename_i v p hp
      cases hx
      refine ⟨ob.1, fun ν M w0 w a hr hXw ha => ?_⟩
      obtain rfl := plainVs_ok hvs ha
      exact (hc a v p hp ob.2 w hXw).mono fun e w' ⟨hbel, he⟩ => ⟨hbel, v, he, .same (SH.owe_same _ _) (VR.v_iff.2 rfl)⟩
    · cases hx
  · cases hx
theorem SumOK.join {P : Program} {X : World → Prop} {J : FuncId} (h : JoinOK P J) : SumOK P X (J, joinSum) := by
  refine ⟨h.1, fun args x s s' hx ob => ?_⟩
  let E : Env := { P, ext := fun _ => none, G := [], orc := fun _ => none, sums := fun _ => none, qs := fun _ => none }
  have hE : JoinOK E.P J := h
  have hs := fun (M : Own) (w0 : World) => joinSum_ok (E := E) (M := M) (w0 := w0) hE hx ob
  refine ⟨(hs (Own.just fun _ => False) default).1, fun ν M w0 w a hr _ ha => ?_⟩
  exact ((hs M w0).2 ν w a hr (fun g i hgi => by cases hgi) ha).2
/-- A call that gives a slice of these texts, if something is so. -/
def wordsSum (elem : TypeId) (ws : List ByteArray) (p : ByteArray → ByteArray → Prop) : Sum := fun args s =>
  match args with
  | [.v (.string a), .v (.string b)] => (sNew (.row (ws.map fun b => SV.v (.string b)) elem (0, 0) none) (s.owe (p a b))).map fun r => (.sl r.1 0 ws.length (some ws.length), r.2)
  | _ => none
theorem words_row (ν : Val) (i : Nat) (ws : List ByteArray) (elem : TypeId) : OR ν i (.row (ws.map fun b => SV.v (.string b)) elem (0, 0) none) (.cells (ws.map Value.string).toArray elem) :=
  ⟨ws.map Value.string, [], by simp, by have := VRL.lits ν (ws.map Value.string); rwa [List.map_map] at this, by show _ = _; simp⟩
theorem SumOK.words {P : Program} {X : World → Prop} {f : FuncId} {elem : TypeId} {ws : List ByteArray} {p : ByteArray → ByteArray → Prop} (hf : ∃ fn, P.funcs[f]? = some fn ∧ fn.body.isSome = true ∧ (fn.name == "runtime.NumGoroutine") = false)
    (h : ∀ a b w, p a b → X w → Calls P f #[.string a, .string b] w fun e w' => e = .returned (.slice (some ⟨w.heap.size, 0, none⟩) ws.length ws.length) ∧ w' = w.alloc (.cells (ws.map Value.string).toArray elem)) : SumOK P X (f, wordsSum elem ws p) := by
  refine ⟨hf, fun args x s s' hx ob => ?_⟩
  dsimp only at hx
  unfold wordsSum at hx
  split at hx
  · rename_i ta tb
    obtain ⟨⟨i, s1⟩, hn, hx⟩ := Option.map_eq_some_iff.1 hx
    cases hx
    unfold sNew at hn
    cases hroom : (s.owe (p ta tb)).room
    · rw [hroom] at hn; cases hn
    rw [hroom] at hn
    simp only [cond_true] at hn
    cases hn
    have ob2 : (s.owe (p ta tb)).ob := ob
    refine ⟨ob2.1, fun ν M w0 w a hr hXw ha => ?_⟩
    obtain ⟨y1, ys, rfl, e1, ha⟩ := ha.cons_inv
    obtain ⟨y2, ys, rfl, e2, ha⟩ := ha.cons_inv
    obtain rfl := ha.nil_inv
    obtain rfl := VR.v_iff.1 e1
    obtain rfl := VR.v_iff.1 e2
    refine (h ta tb w ob2.2 hXw).mono fun e w' ⟨he, hw⟩ => ?_
    subst hw
    exact ⟨(Below.refl _ _).alloc (Nat.le_refl _) _, _, he, .made (s.owe (p ta tb)) _ w.heap.size 0 _ (SH.owe_same _ _) hroom rfl (Nat.le_refl _) (Array.getElem?_push_size) (words_row _ _ ws elem) (VR.sl_iff.2 ⟨(w.heap.size, 0), Val.put_self _ _ _, by simp, rfl⟩)⟩
  · cases hx
end Go.Rx
