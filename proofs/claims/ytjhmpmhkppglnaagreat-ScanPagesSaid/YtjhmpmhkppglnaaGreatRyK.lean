/- The symbolic executor 'Rx', part YK: contracts of functions that only reckon; slices that come in. By an AI agent. -/
import Derived.Test.YtjhmpmhkppglnaaGreatRyJ
set_option linter.unusedVariables false
set_option linter.unusedSimpArgs false
namespace Go.Rx
open Go.RowKit (Below)

/-- What a function that only reckons comes to: its value, and what is wanted for that. -/
abbrev PS := List Value → Option (Value × Prop)

def pureSum (g : PS) : List SV → SH → Option (SV × SH) := fun args s =>
  match plainVs args with
  | some l => match g l with
    | some (v, p) => some (.v v, s.owe p)
    | none => none
  | none => none

/-- A contract holds, in each world in which something is so. -/
def PureOK (P : Program) (X : World → Prop) (r : FuncId × PS) : Prop :=
  (∃ fn, P.funcs[r.1]? = some fn ∧ fn.body.isSome = true ∧ (fn.name == "runtime.NumGoroutine") = false) ∧
    ∀ args v p, r.2 args = some (v, p) → p → ∀ w, X w → Calls P r.1 args.toArray w fun e w' => Below w.heap.size w w' ∧ e = .returned v

def sumsOf (l : List (FuncId × PS)) : FuncId → Option (List SV → SH → Option (SV × SH)) := fun f => (l.lookup f).map pureSum

theorem lookup_mem' {α : Type} {l : List (Nat × α)} {j : Nat} {i : α} (h : l.lookup j = some i) : (j, i) ∈ l := by
  induction l with
  | nil => cases h
  | cons r l ih =>
    obtain ⟨g', k'⟩ := r
    rw [List.lookup_cons] at h
    split at h
    · rename_i e
      cases h
      have e : j = g' := by simpa using e
      rw [e]; exact List.mem_cons_self
    · exact List.mem_cons_of_mem _ (ih h)

section
variable {E : Env} {ν : Val} {M : Own} {w0 w : World} {s s' : SH}

theorem pureSum_mono {g : PS} {args : List SV} {x : SV} (h : pureSum g args s = some (x, s')) : s'.ob → s.ob := by
  unfold pureSum at h
  split at h
  · split at h
    · cases h; exact fun ob => ob.1
    · cases h
  · cases h

theorem SumsOK.of {X : World → Prop} {l : List (FuncId × PS)} (hE : E.sums = sumsOf l) (h : ∀ r ∈ l, PureOK E.P X r) (hX : ∀ ν s w, HR ν M w0 s w → GR ν E → X w) : SumsOK E M w0 := by
  intro f g hg args x s s' hx
  rw [hE] at hg
  unfold sumsOf at hg
  obtain ⟨ps, hps, rfl⟩ := Option.map_eq_some_iff.1 hg
  obtain ⟨⟨fn, hf, hb, hn⟩, hc⟩ := h _ (lookup_mem' hps)
  unfold pureSum at hx
  split at hx
  · rename_i vs hvs
    split at hx
    · rename_i v p hp
      cases hx
      refine fun ob => ⟨ob.1, fun ν w a hr hgr ha => ?_⟩
      obtain rfl := plainVs_ok hvs ha
      refine ⟨run_callFunc hf (by intro e; rw [e] at hb; cases hb) (by intro e; rw [e] at hn; simp at hn), ?_⟩
      exact (hc a v p hp ob.2 w (hX ν s w hr hgr)).mono fun e w' ⟨hbel, he⟩ => ⟨hbel, v, he, .same (SH.owe_same _ _) (VR.v_iff.2 rfl)⟩
    · cases hx
  · cases hx

/-! ### pieces -/

/-- What is owed for a state to come to a loop's head as it is told. -/
def reach (E : Env) (k n : Nat) (S : SM) (o : List (Nat × Ans)) (ren : List (Nat × Nat)) (eqs : List Nat) (F : SF) (d : Nat) (l : List (Option (SO × Bool))) : List Prop :=
  match goL E k n (S.with o) with | some T => fits E ren eqs F d l T ++ T.mem.obl | none => [False]
/-- What is to be done there. -/
def todoL (E : Env) (k n : Nat) (S : SM) (o : List (Nat × Ans)) : List SI := match goL E k n (S.with o) with | some T => T.top.todo | none => []

/-- What is owed for a state to come to the call's end with this value. -/
def endsV (E : Env) (f : FuncId) (n : Nat) (S : SM) (o : List (Nat × Ans)) (v : Value) : List Prop :=
  match goS E SM.over n (S.with o) with
  | some T => match endS E f T with
    | some (y, s') => match plainV y with
      | some z => (z = v) :: s'.obl
      | none => [False]
    | none => [False]
  | none => [False]

variable {cs0 : List Frame} {f : FuncId} {R : Ending → World → Prop}

theorem resultsS_mono' {S : SM} {x : SV} (h : endS E f S = some (x, s')) : s'.ob → S.mem.ob := by
  unfold endS at h
  cases hov : (S.over && Nat.beq S.top.fn f)
  · rw [hov] at h; cases h
  · rw [hov] at h
    simp only [cond_true] at h
    split at h
    · exact resultsS_mono h
    · cases h

theorem Goes.reach (K : Facts E M w0) {k n d : Nat} {S : SM} {o : List (Nat × Ans)} {ren : List (Nat × Nat)} {eqs : List Nat} {F : SF} {l : List (Option (SO × Bool))} (h : Owed (Go.Rx.reach E k n S o ren eqs F d l)) (ht : todoL E k n S o = F.todo)
    (hν : ∀ i b, ν i = some b → ren.lookup i = some i) (hs : Goes E M w0 cs0 f R ν (SM.at F d l)) : Goes E M w0 cs0 f R ν S := by
  unfold Go.Rx.reach at h
  unfold todoL at ht
  split at h
  · rename_i T hT
    rw [hT] at ht
    obtain ⟨h1, h2⟩ := owed_app.1 h
    exact Goes.goL K hT h2 (Goes.fits h1 ht hν hs)
  · exact owed_false h

theorem Goes.endsV (K : Facts E M w0) {n : Nat} {S : SM} {o : List (Nat × Ans)} {v : Value} (h : Owed (Go.Rx.endsV E f n S o v))
    (hR : ∀ ν' M1 w1 s' w', ν.Le ν' → Base M w0 M1 w1 → HR ν' M1 w1 s' w' → R (.returned v) w') : Goes E M w0 cs0 f R ν S := by
  unfold Go.Rx.endsV at h
  split at h
  · rename_i T hT
    split at h
    · rename_i y s' hend
      split at h
      · rename_i z hz
        obtain ⟨h1, h2⟩ := owed_cons.1 h
        subst h2
        refine Goes.go K hT (resultsS_mono' hend h1) (Goes.done hend h1 fun ν' M1 w1 w' u hle hB hv hr hg => ?_)
        rw [plainV_ok hz hv]
        exact hR ν' M1 w1 s' w' hle hB hr
      · exact owed_false h
    · exact owed_false h
  · exact owed_false h

/-! ### the memory in which a call begins -/

def layVal (l : List (Nat × Nat)) : Val := fun i => l[i]?
def layOwn (l : List (Nat × Nat)) (os : List (SO × Bool)) : Own := ⟨fun b => ∃ (i : Nat) (o : SO) (c : Nat), os[i]? = some (o, true) ∧ l[i]? = some (b, c), fun b => ∃ (i : Nat) (o : SO) (c : Nat), os[i]? = some (o, false) ∧ l[i]? = some (b, c), fun _ => False⟩

theorem lay_HR {d : Nat} {l : List (Nat × Nat)} {os : List (SO × Bool)} (hlen : l.length = os.length) (hd : os.length ≤ 2 ^ d) (hn : (l.map (·.1)).Nodup)
    (ho : ∀ (i : Nat) (o : SO) (m : Bool) (b c : Nat), os[i]? = some (o, m) → l[i]? = some (b, c) → ∃ r, w.heap[b]? = some r ∧ OR (layVal l) i o r) : HR (layVal l) (layOwn l os) w (memOf d os.length 0 (os.map some)) w := by
  have hget : ∀ i, i < 2 ^ d → (memOf d os.length 0 (os.map some)).H.get i = os[i]? := by
    intro i hi
    obtain ⟨_, hf⟩ := fill_ok (os.map some) 0 (Tr.mk none d) (Tr.full_mk _ _) (by simpa using hd)
    have := hf i hi
    rw [if_pos (Nat.zero_le _), Tr.get_mk, Nat.sub_zero, List.getElem?_map] at this
    rw [show (memOf d os.length 0 (os.map some)).H = Tr.fill (Tr.mk none d) 0 (os.map some) from rfl, this]
    cases os[i]? <;> rfl
  have hli : ∀ (i : Nat) (x : SO × Bool), os[i]? = some x → ∃ (b c : Nat), l[i]? = some (b, c) := by
    intro i x hx
    have hlt := (List.getElem?_eq_some_iff.1 hx).1
    exact ⟨(l[i]'(by omega)).1, (l[i]'(by omega)).2, List.getElem?_eq_getElem (by omega)⟩
  refine ⟨(fill_ok (os.map some) 0 (Tr.mk none d) (Tr.full_mk _ _) (by simpa using hd)).1, fun i hi => ?_, fun i hi => ?_, fun i hi x hx => ?_, fun i j hi hj hgi hgj b c hb hc e => ?_, Nat.le_refl _, fun _ _ _ => rfl, fun i hi x hx hf b hb => ?_, rfl, rfl, rfl⟩
  · have hi : 2 ^ d ≤ i := hi
    exact List.getElem?_eq_none (by omega)
  · have hi : os.length ≤ i := hi
    exact List.getElem?_eq_none (by omega)
  · have hi : i < 2 ^ d := hi
    rw [hget i hi] at hx
    obtain ⟨b, c, hl⟩ := hli i x hx
    obtain ⟨r, hr, hor⟩ := ho i x.1 x.2 b c hx hl
    exact ⟨(b, c), r, hl, hr, hor, fun hm => .inr ⟨i, x.1, c, by rw [hx, ← hm], hl⟩⟩
  · obtain ⟨hi', hb⟩ := List.getElem?_eq_some_iff.1 hb
    obtain ⟨hj', hc⟩ := List.getElem?_eq_some_iff.1 hc
    refine (List.getElem_inj (h₀ := by simpa using hi') (h₁ := by simpa using hj') hn).1 ?_
    simp only [List.getElem_map, hb, hc]; exact e
  · have hi : i < 2 ^ d := hi
    rw [hget i hi] at hx
    exact ⟨i, x.1, b.2, by rw [hx, ← hf], hb⟩

theorem layOwn_r {l : List (Nat × Nat)} {os : List (SO × Bool)} (ho : ∀ (i : Nat) (o : SO) (m : Bool) (b c : Nat), os[i]? = some (o, m) → l[i]? = some (b, c) → ∃ r, w.heap[b]? = some r ∧ OR (layVal l) i o r) : ∀ b, (layOwn l os).r b → b < w.heap.size := by
  rintro b ⟨i, o, c, h1, h2⟩
  obtain ⟨r, hr, _⟩ := ho i o false b c h1 h2
  exact (Array.getElem?_eq_some_iff.1 hr).1

/-- A call that begins with objects which it only reads: nothing that was there turns. -/
theorem calls_of_read {P : Program} (hP : E.P = P) {args : List SV} {a : List Value} {d : Nat} {l : List (Nat × Nat)} {os : List SO} {S0 : SM} {Q : Value → Prop} (hlen : l.length = os.length) (hd : os.length ≤ 2 ^ d) (hn : (l.map (·.1)).Nodup)
    (ho : ∀ (i : Nat) (o : SO) (b c : Nat), os[i]? = some o → l[i]? = some (b, c) → ∃ r, w.heap[b]? = some r ∧ OR (layVal l) i o r) (hG : E.G = []) (hS0 : enterS E f args (memOf d os.length 0 (os.map fun o => some (o, false))) = some S0) (ha : VRL (layVal l) args a)
    (hs : ∀ cs0, Goes E (layOwn l (os.map fun o => (o, false))) w cs0 f (fun e w' => Below w.heap.size w w' ∧ ∃ v, e = .returned v ∧ Q v) (layVal l) S0) :
    Calls P f a.toArray w fun e w' => Below w.heap.size w w' ∧ ∃ v, e = .returned v ∧ Q v := by
  subst hP
  have ho' : ∀ (i : Nat) (o : SO) (m : Bool) (b c : Nat), (os.map fun o => (o, false))[i]? = some (o, m) → l[i]? = some (b, c) → ∃ r, w.heap[b]? = some r ∧ OR (layVal l) i o r := by
    intro i o m b c h1 h2
    rw [List.getElem?_map] at h1
    obtain ⟨o', h3, h4⟩ := Option.map_eq_some_iff.1 h1
    cases h4
    exact ho i o b c h3 h2
  have hr := lay_HR (d := d) (w := w) (by simpa using hlen) (by simpa using hd) hn ho'
  rw [List.map_map, List.length_map] at hr
  exact calls_of_safe hS0 hr (layOwn_r ho') (fun _ h => h) (fun g i h => by rw [hG] at h; cases h) ha hs

/-- Such a call's own memory: nothing old may turn. -/
theorem layOwn_none {l : List (Nat × Nat)} {os : List SO} {b : Nat} : ¬ (layOwn l (os.map fun o => (o, false))) b := by
  rintro ⟨i, o, c, h1, _⟩
  rw [List.getElem?_map] at h1
  obtain ⟨o', _, h4⟩ := Option.map_eq_some_iff.1 h1
  cases h4

/-- What a world has to do with the one in which the call began, where nothing old may turn. -/
theorem below_of {M1 : Own} {w1 : World} (hM : ∀ b, ¬ M b) (hB : Base M w0 M1 w1) (hr : HR ν M1 w1 s w) : Below w0.heap.size w0 w := by
  have h := hr.unbase hB
  exact ⟨h.os, h.tape, h.output, h.size, fun k hk => h.frame k hk (hM k)⟩

/-! ### rows of structs -/

theorem flatMap_at {α β : Type} {g : α → List β} {m : Nat} (hg : ∀ x, (g x).length = m) : ∀ {xs : List α} {k : Nat} {x : α}, xs[k]? = some x → ((xs.flatMap g).drop (k * m)).take m = g x
  | [], _, _, h => by simp at h
  | y :: ys, 0, x, h => by
    simp only [List.getElem?_cons_zero, Option.some.injEq] at h
    subst h
    rw [List.flatMap_cons, Nat.zero_mul, List.drop_zero, List.take_append_of_le_length (by rw [hg]; exact Nat.le_refl _), List.take_of_length_le (by rw [hg]; exact Nat.le_refl _)]
  | y :: ys, k + 1, x, h => by
    have e : ((y :: ys).flatMap g).drop m = ys.flatMap g := by
      rw [List.flatMap_cons, List.drop_append_of_le_length (by rw [hg]; exact Nat.le_refl _), List.drop_of_length_le (l := g y) (by rw [hg]; exact Nat.le_refl _), List.nil_append]
    rw [Nat.succ_mul, Nat.add_comm, ← List.drop_drop, e]
    exact flatMap_at hg (by simpa using h)

/-- A row of structs behind other cells. -/
def rowsAt {α : Type} (g : α → List SV) (off : Nat) (xs : List α) : List SV := List.replicate off .junk ++ xs.flatMap g

theorem rowsAt_at {α : Type} {g : α → List SV} {m off : Nat} (hg : ∀ x, (g x).length = m) {xs : List α} {k : Nat} {x : α} (h : xs[k]? = some x) : ((rowsAt g off xs).drop (off + k * m)).take m = g x := by
  unfold rowsAt
  have e : (List.replicate off SV.junk ++ xs.flatMap g).drop off = xs.flatMap g := by
    rw [List.drop_append_of_le_length (by simp), List.drop_of_length_le (l := List.replicate off SV.junk) (by simp), List.nil_append]
  rw [← List.drop_drop, e]
  exact flatMap_at hg h

theorem rowsAt_closed {α : Type} {g : α → List SV} (hg : ∀ x, (g x).all closedSV = true) {off : Nat} {xs : List α} : (rowsAt g off xs).all closedSV = true := by
  unfold rowsAt
  rw [List.all_append, Bool.and_eq_true]
  refine ⟨List.all_eq_true.2 fun x hx => by rw [(List.mem_replicate.1 hx).2]; rfl, ?_⟩
  refine List.all_eq_true.2 fun x hx => ?_
  obtain ⟨y, _, hy⟩ := List.mem_flatMap.1 hx
  exact List.all_eq_true.1 (hg y) x hy

/-- A row of structs that lies in a block is one that is told. -/
theorem rowsAt_look {α : Type} {g : α → List SV} {h : α → List Value} (hgh : ∀ ν x, VRL ν (g x) (h x)) {off : Nat} {xs : List α} {i : Nat} {ν : Val} {c : Array Value} {e : TypeId} {fz : Nat × Nat} (hoff : off ≤ c.size)
    (hc : ∀ (k : Nat) (v : Value), (xs.flatMap h)[k]? = some v → c[off + k]? = some v) : OR ν i (.look (rowsAt g off xs)) (.cells c e fz) := by
  refine ⟨c.toList.take off ++ xs.flatMap h, c, e, fz, rfl, ?_, fun k y hk => ?_⟩
  · unfold rowsAt
    refine VRL.append ?_ ?_
    · have : ∀ (n : Nat) (l : List Value), l.length = n → VRL ν (List.replicate n .junk) l := by
        intro n
        induction n with
        | zero => intro l hl; rw [List.length_eq_zero_iff.1 hl]; exact VRL.nil
        | succ n ih =>
          intro l hl
          match l, hl with
          | y :: l, hl => exact VRL.cons (by rw [VR]; trivial) (ih l (by simpa using hl))
      exact this off _ (by simp; omega)
    · clear hc
      induction xs with
      | nil => exact VRL.nil
      | cons x xs ih => exact VRL.append (hgh ν x) ih
  · by_cases hlt : k < off
    · rw [List.getElem?_append_left (by simp; omega), List.getElem?_take, if_pos hlt] at hk
      simpa using hk
    · rw [List.getElem?_append_right (by simp; omega)] at hk
      have := hc _ y hk
      rw [← this]; congr 1; simp; omega
end
end Go.Rx
