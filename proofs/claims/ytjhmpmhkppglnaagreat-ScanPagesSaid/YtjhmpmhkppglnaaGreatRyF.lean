/- The symbolic executor 'Rx', part YF: what a run says of a law. By an AI agent. -/
import Derived.Test.YtjhmpmhkppglnaaGreatRyE
set_option linter.unusedVariables false
set_option linter.unusedSimpArgs false
namespace Go.Rx
open Go.RowKit (Below)
section
variable {E : Env} {ν : Val} {M : Own} {w0 w : World} {s s' : SH}

/-! ### the memory in which a call begins: package variables that are told -/

def layGo (T : Tr (Option (SO × Bool))) (i : Nat) : List (Nat × List SV) → Tr (Option (SO × Bool))
  | [] => T
  | x :: xs => layGo (T.set i (some (.look x.2, false))) (i + 1) xs

def laidMem (d : Nat) (l : List (Nat × List SV)) : SH := { d, H := layGo (Tr.mk none d) 0 l, nx := l.length, obl := [], dc := 0 }

theorem layGo_ok (d : Nat) : ∀ (l : List (Nat × List SV)) (i : Nat) (T : Tr (Option (SO × Bool))), Tr.Full d T → i + l.length ≤ 2 ^ d →
    Tr.Full d (layGo T i l) ∧ ∀ t, t < 2 ^ d → (layGo T i l).get t = if i ≤ t then ((l[t - i]?).map fun x => some (SO.look x.2, false)).getD (T.get t) else T.get t
  | [], i, T, h, _ => ⟨h, fun t _ => by simp [layGo]⟩
  | x :: xs, i, T, h, hl => by
    simp only [List.length_cons] at hl
    obtain ⟨h1, h2⟩ := layGo_ok d xs (i + 1) (T.set i (some (.look x.2, false))) (h.set _ _) (by omega)
    refine ⟨h1, fun t ht => ?_⟩
    rw [layGo, h2 t ht, Tr.get_set h (by omega) ht]
    by_cases e1 : i + 1 ≤ t
    · rw [if_pos e1, if_neg (show ¬ t = i by omega), if_pos (show i ≤ t by omega)]
      have : t - i = (t - (i + 1)) + 1 := by omega
      rw [this, List.getElem?_cons_succ]
    · rw [if_neg e1]
      by_cases e2 : t = i
      · subst e2; simp
      · rw [if_neg e2, if_neg (show ¬ i ≤ t by omega)]

/-- A package variable holds what is told of it. -/
def Told (w : World) (r : Nat × List SV) : Prop :=
  ∃ (ys : List Value) (c : Array Value) (e : TypeId) (fz : Nat × Nat), w.heap[r.1]? = some (.cells c e fz) ∧ (∀ ν, VRL ν r.2 ys) ∧ ∀ (k : Nat) (y : Value), ys[k]? = some y → c[k]? = some y

def laidVal (l : List (Nat × List SV)) : Val := fun i => (l[i]?).map fun x => (x.1, 0)
def laidOwn (l : List (Nat × List SV)) : Own := Own.just fun b => ∃ r ∈ l, r.1 = b

theorem laid_HR {d : Nat} {l : List (Nat × List SV)} (hd : l.length ≤ 2 ^ d) (hn : (l.map (·.1)).Nodup) (ht : ∀ r ∈ l, Told w r) : HR (laidVal l) (laidOwn l) w (laidMem d l) w := by
  obtain ⟨hf, hg⟩ := layGo_ok d l 0 (Tr.mk none d) (Tr.full_mk _ _) (by omega)
  have hget : ∀ t, t < 2 ^ d → (laidMem d l).H.get t = (l[t]?).map fun x => (SO.look x.2, false) := by
    intro t ht
    show (layGo (Tr.mk none d) 0 l).get t = _
    rw [hg t ht, if_pos (Nat.zero_le _), Tr.get_mk, Nat.sub_zero]
    cases l[t]? <;> rfl
  have hx : ∀ i, i < 2 ^ d → ∀ x, (laidMem d l).H.get i = some x → ∃ r, l[i]? = some r ∧ r ∈ l ∧ x = (SO.look r.2, false) := by
    intro i hi x hx
    rw [hget i hi] at hx
    obtain ⟨r, hr, rfl⟩ := Option.map_eq_some_iff.1 hx
    exact ⟨r, hr, List.mem_of_getElem? hr, rfl⟩
  refine ⟨hf, fun i hi => ?_, fun i hi => ?_, fun i hi x hxx => ?_, fun i j hi hj hgi hgj b c hb hc e => ?_, Nat.le_refl _, fun _ _ _ => rfl, fun i hi x hxx _ b hb => ?_, rfl, rfl, rfl⟩
  · have hi : 2 ^ d ≤ i := hi
    simp only [laidVal]; rw [List.getElem?_eq_none (by omega)]; rfl
  · have hi : l.length ≤ i := hi
    simp only [laidVal]; rw [List.getElem?_eq_none hi]; rfl
  · obtain ⟨r, hr, hm, rfl⟩ := hx i hi x hxx
    obtain ⟨ys, c, e, fz, h1, h2, h3⟩ := ht r hm
    exact ⟨(r.1, 0), _, by simp [laidVal, hr], h1, ⟨ys, c, e, fz, rfl, h2 _, h3⟩, fun h => by cases h⟩
  · simp only [laidVal, Option.map_eq_some_iff] at hb hc
    obtain ⟨r, hr, rfl⟩ := hb
    obtain ⟨q, hq, rfl⟩ := hc
    obtain ⟨hi', hr⟩ := List.getElem?_eq_some_iff.1 hr
    obtain ⟨hj', hq⟩ := List.getElem?_eq_some_iff.1 hq
    refine (List.getElem_inj (h₀ := by simpa using hi') (h₁ := by simpa using hj') hn).1 ?_
    simp only [List.getElem_map, hr, hq]; exact e
  · obtain ⟨r, hr, hm, rfl⟩ := hx i hi x hxx
    simp only [laidVal, hr, Option.map_some, Option.some.injEq] at hb
    subst hb
    exact ⟨r, hm, rfl⟩

theorem laid_GR {l : List (Nat × List SV)} (hG : E.G = (l.map (·.1)).zipIdx) : GR (laidVal l) E := by
  intro g i h
  rw [hG] at h
  have hm : (g, i) ∈ (l.map (·.1)).zipIdx := by
    have : ∀ (l : List (Nat × Nat)), l.lookup g = some i → (g, i) ∈ l := by
      intro l
      induction l with
      | nil => intro h; cases h
      | cons r l ih =>
        intro h
        obtain ⟨g', k'⟩ := r
        rw [List.lookup_cons] at h
        split at h
        · rename_i e
          cases h
          have e : g = g' := by simpa using e
          rw [e]; exact List.mem_cons_self
        · exact List.mem_cons_of_mem _ (ih h)
    exact this _ h
  have := List.mem_zipIdx hm
  obtain ⟨_, hlt, e⟩ := this
  simp only [Nat.zero_add, List.length_map] at hlt
  refine ⟨0, ?_⟩
  simp only [laidVal]
  have hi : i < l.length := by simpa using hlt
  rw [List.getElem?_eq_getElem hi]
  simp only [Option.map_some, Option.some.injEq, Prod.mk.injEq, and_true]
  simpa using e.symm

/-! ### a law -/

/-- Each way ends with 'true', and what is owed there. -/
def verdict (E : Env) (f : FuncId) : List SM → Prop
  | [] => True
  | S :: r => (match endS E f S with | some (.v (.bool true), s') => s'.ob | _ => False) ∧ verdict E f r

def verdictO (E : Env) (f : FuncId) : Option (List SM) → Prop
  | some Ls => verdict E f Ls
  | none => False

theorem verdict_mem {f : FuncId} : ∀ {Ls : List SM}, verdict E f Ls → ∀ S ∈ Ls, ∃ s', endS E f S = some (.v (.bool true), s') ∧ s'.ob
  | [], _, _, h => by cases h
  | T :: r, ⟨h, k⟩, S, hS => by
    rcases List.mem_cons.1 hS with rfl | hS
    · split at h
      · rename_i s' he; exact ⟨s', he, h⟩
      · exact h.elim
    · exact verdict_mem k S hS

/-- The whole run of a function. -/
def runS (E : Env) (f : FuncId) (args : List SV) (s0 : SH) (n : Nat) : Option (List SM) := (enterS E f args s0).bind fun S0 => run E SM.over n [S0] []

theorem calls_true {r : Nat → Prop} (K : Facts E (Own.just r) w) {f : FuncId} {args : List SV} {a : List Value} {s0 : SH} {n : Nat} (hv : verdictO E f (runS E f args s0 n))
    (hr : HR ν (Own.just r) w s0 w) (hro : ∀ b, r b → b < w.heap.size) (hg : GR ν E) (ha : VRL ν args a) :
    Calls E.P f a.toArray w fun e w' => e = .returned (.bool true) ∧ Below w.heap.size w w' := by
  unfold runS at hv
  cases hS : enterS E f args s0 with
  | none => rw [hS] at hv; exact hv.elim
  | some S0 =>
  rw [hS] at hv
  simp only [Option.bind_some] at hv
  cases hrun : run E SM.over n [S0] [] with
  | none => rw [hrun] at hv; exact hv.elim
  | some Ls =>
  rw [hrun] at hv
  refine calls_ok (M := Own.just r) K hS hrun hr hro (fun _ h => h) hg ha fun S' hS' => ?_
  obtain ⟨s', he, hob⟩ := verdict_mem hv S' hS'
  refine ⟨_, s', he, hob, fun ν' w' v _ hv hr' _ => ⟨?_, hr'.below⟩⟩
  rw [VR.v_iff.1 hv]

/-- The same, package variables told. -/
theorem calls_laid {l : List (Nat × List SV)} (K : Facts E (laidOwn l) w) {f : FuncId} {a : List Value} {d n : Nat} (hG : E.G = (l.map (·.1)).zipIdx) (hd : l.length ≤ 2 ^ d) (hn : (l.map (·.1)).Nodup) (ht : ∀ r ∈ l, Told w r)
    (hv : verdictO E f (runS E f (a.map .v) (laidMem d l) n)) : Calls E.P f a.toArray w fun e w' => e = .returned (.bool true) ∧ Below w.heap.size w w' := by
  refine calls_true K hv (laid_HR hd hn ht) (fun b hb => ?_) (laid_GR hG) (VRL.lits _ a)
  obtain ⟨r, hr, rfl⟩ := hb
  obtain ⟨_, _, _, _, h, _⟩ := ht r hr
  exact (Array.getElem?_eq_some_iff.1 h).1

theorem Facts.of (mixed : E.P.follows .mixedOrders = true) (calls : (E.P.funcs.all fun fn => fn.body.isNone || fn.name != "runtime.NumGoroutine") = true) (ext : ExtOK E) (sums : E.sums = fun _ => none) (qs : QOK E M w0) : Facts E M w0 :=
  ⟨mixed, fun f fn hf hb => by
    have := Array.all_eq_true'.1 calls fn (Array.mem_of_getElem? hf)
    cases h : fn.body with
    | none => exact absurd h hb
    | some c => (rw [h] at this; simpa using this), ext, fun f g h => (by rw [sums] at h; cases h), qs⟩

theorem Facts.of' (mixed : E.P.follows .mixedOrders = true) (calls : (E.P.funcs.all fun fn => fn.body.isNone || fn.name != "runtime.NumGoroutine") = true) (ext : ExtOK E) (sums : SumsOK E M w0) (qs : QOK E M w0) : Facts E M w0 :=
  ⟨mixed, fun f fn hf hb => by
    have := Array.all_eq_true'.1 calls fn (Array.mem_of_getElem? hf)
    cases h : fn.body with
    | none => exact absurd h hb
    | some c => (rw [h] at this; simpa using this), ext, sums, qs⟩

end
end Go.Rx
