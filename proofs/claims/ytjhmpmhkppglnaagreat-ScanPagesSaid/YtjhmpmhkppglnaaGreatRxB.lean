/- The symbolic executor 'Rx', part B: symbolic memory and what it stands for. By an AI agent. -/
import Derived.Test.YtjhmpmhkppglnaaGreatRxA
import Derived.Laws.Sem
import Derived.Laws.World
import Derived.Laws.NewBlocks
set_option linter.unusedVariables false
set_option linter.unusedSimpArgs false
namespace Go.Rx
open Go.RowKit (Below)

/-- A table of temporaries: how many there are, and the tree's depth. -/
structure STm where
  nt : Nat
  d : Nat
  T : Tr SV

def STm.get (s : STm) (t : Nat) : SV := bif Nat.blt t s.nt then s.T.get t else .v undef
def STm.set (s : STm) (t : Nat) (x : SV) : STm := bif Nat.blt t s.nt then { s with T := s.T.set t x } else s

structure TmR (ν : Val) (s : STm) (a : Array Value) : Prop where
  size : a.size = s.nt
  full : Tr.Full s.d s.T
  le : s.nt ≤ 2 ^ s.d
  get : ∀ t, t < s.nt → VR ν (s.T.get t) (a.getD t undef)

theorem TmR.mono {ν ν' : Val} (h : ν.Le ν') {s : STm} {a : Array Value} (r : TmR ν s a) : TmR ν' s a :=
  ⟨r.size, r.full, r.le, fun t ht => VR.mono h _ _ (r.get t ht)⟩

theorem blt_iff {a b : Nat} : Nat.blt a b = true ↔ a < b := by
  unfold Nat.blt; rw [Nat.ble_eq]; exact Iff.rfl
theorem blt_false {a b : Nat} (h : ¬ a < b) : Nat.blt a b = false := by
  cases hb : Nat.blt a b
  · rfl
  · exact absurd (blt_iff.1 hb) h

theorem TmR.at {ν : Val} {s : STm} {a : Array Value} (r : TmR ν s a) (t : Nat) : VR ν (s.get t) (a.getD t undef) := by
  unfold STm.get
  by_cases h : t < s.nt
  · rw [blt_iff.2 h]; exact r.get t h
  · rw [blt_false h]
    have : a.getD t undef = undef := by rw [Array.getD, dif_neg (by rw [r.size]; exact h)]
    simp only [cond_false]; rw [this, VR]

theorem TmR.set {ν : Val} {s : STm} {a : Array Value} (r : TmR ν s a) (t : Nat) {x : SV} {y : Value} (h : VR ν x y) :
    TmR ν (s.set t x) (a.setIfInBounds t y) := by
  unfold STm.set
  by_cases ht : t < s.nt
  · rw [blt_iff.2 ht]
    refine ⟨by simp [r.size], r.full.set _ _, r.le, ?_⟩
    intro u hu
    have hu' : u < s.nt := hu
    show VR ν ((s.T.set t x).get u) _
    rw [Tr.get_set r.full (Nat.lt_of_lt_of_le ht r.le) (Nat.lt_of_lt_of_le hu' r.le)]
    by_cases e : u = t
    · subst e
      simp [Array.getD, r.size, hu', h]
    · have := r.get u hu'
      simp only [Array.getD, Array.size_setIfInBounds] at this ⊢
      rw [if_neg e]
      have hs : u < a.size := by rw [r.size]; exact hu'
      rw [dif_pos hs] at this ⊢
      have : (a.setIfInBounds t y)[u]'(by simpa using hs) = a[u] := by
        rw [Array.getElem_setIfInBounds hs, if_neg (fun e' => e e'.symm)]
      first | (rw [this]; assumption) | simp_all
  · rw [blt_false ht]
    have : a.setIfInBounds t y = a := by
      rw [Array.setIfInBounds, dif_neg (by rw [r.size]; exact ht)]
    simp only [cond_false]; rw [this]; exact r

/-- A deferred call. -/
inductive SDef where
  | fn (fn : Fn) (capt args : List SV)
  | coll (i : Nat)

def DefR (ν : Val) : SDef → Deferred → Prop
  | .fn f c a, d => ∃ c' a' : List Value, d = { target := .fn f c'.toArray, args := a'.toArray } ∧ VRL ν c c' ∧ VRL ν a a'
  | .coll i, d => ∃ b, ν i = some b ∧ d = { target := .collected b.1, args := #[] }

def DefsR (ν : Val) : List SDef → List Deferred → Prop
  | [], l => l = []
  | x :: xs, l => ∃ z zs, l = z :: zs ∧ DefR ν x z ∧ DefsR ν xs zs

theorem DefR.mono {ν ν' : Val} (h : ν.Le ν') : ∀ {s : SDef} {d : Deferred}, DefR ν s d → DefR ν' s d
  | .fn _ _ _, _, ⟨c', a', e, hc, ha⟩ => ⟨c', a', e, hc.mono h, ha.mono h⟩
  | .coll _, _, ⟨b, hb, e⟩ => ⟨b, h _ _ hb, e⟩
theorem DefsR.mono {ν ν' : Val} (h : ν.Le ν') : ∀ {l : List SDef} {ds : List Deferred}, DefsR ν l ds → DefsR ν' l ds
  | [], _, e => e
  | _ :: _, _, ⟨z, zs, e, hz, hs⟩ => ⟨z, zs, e, hz.mono h, DefsR.mono h hs⟩

/-- An object. 'look': a row of which only the first cells' values are told. 'ext': a row of which only the first cells are told; it has room for 'cap' elements of so many cells. -/
inductive SO where
  | row (xs : List SV) (elem : TypeId) (fz : Nat × Nat) (ext : Option Nat)
  | look (xs : List SV)
  | rowO (n : Nat) (f : Nat → Value) (elem : TypeId) (fz : Nat × Nat) (ext : Option Nat)
  | map (es : List (SV × SV × Nat)) (clock : Nat)
  | siter (s : ByteArray) (pos : Nat)
  | miter (m : Option Nat) (since : Nat) (seen : List Nat) (stepped : Nat)
  | loop (st : LoopState) (pending : Option Code) (fn : FuncId) (tm : STm) (params : List Tmp) (assign body : Code) (defers : Nat)
  | dfr (calls : Option (List SDef))

/-- What of a row is frozen: (1, 0) stands for the mark behind a text's bytes. -/
def fzReal (fz : Nat × Nat) (n : Nat) : Nat × Nat := bif Nat.beq fz.1 1 && Nat.beq fz.2 0 then (n, n + 1) else fz
@[simp] theorem fzReal_zero (n : Nat) : fzReal (0, 0) n = (0, 0) := rfl

def ExtR (ν : Val) (i : Nat) (n : Nat) (size : Nat) : Option Nat → Prop
  | none => size = n
  | some e => n ≤ size ∧ ∃ b, ν i = some b ∧ size = b.2 * e

def EntR (ν : Val) : List (SV × SV × Nat) → List MapEntry → Prop
  | [], l => l = []
  | x :: xs, l => ∃ z zs, l = z :: zs ∧ VR ν x.1 z.key ∧ VR ν x.2.1 z.val ∧ x.2.2 = z.born ∧ EntR ν xs zs

theorem EntR.mono {ν ν' : Val} (h : ν.Le ν') : ∀ {l : List (SV × SV × Nat)} {ds : List MapEntry}, EntR ν l ds → EntR ν' l ds
  | [], _, e => e
  | _ :: _, _, ⟨z, zs, e, h1, h2, h3, hs⟩ => ⟨z, zs, e, VR.mono h _ _ h1, VR.mono h _ _ h2, h3, EntR.mono h hs⟩

def OR (ν : Val) (i : Nat) : SO → Obj → Prop
  | .row xs elem fz ext, o => ∃ ys rest : List Value, o = .cells (ys ++ rest).toArray elem (fzReal fz (ys ++ rest).length) ∧ VRL ν xs ys ∧ ExtR ν i xs.length (ys ++ rest).length ext
  | .look xs, o => ∃ (ys : List Value) (c : Array Value) (e : TypeId) (fz : Nat × Nat), o = .cells c e fz ∧ VRL ν xs ys ∧ ∀ (k : Nat) (y : Value), ys[k]? = some y → c[k]? = some y
  | .rowO n f elem fz ext, o => ∃ c : Array Value, o = .cells c elem (fzReal fz c.size) ∧ (∀ k, k < n → c[k]? = some (f k)) ∧ ExtR ν i n c.size ext
  | .map es clock, o => ∃ l : List MapEntry, o = .map l.toArray clock ∧ EntR ν es l
  | .siter s pos, o => o = .stringIter s pos
  | .miter none since seen stepped, o => o = .mapIter none since seen.toArray stepped
  | .miter (some m) since seen stepped, o => ∃ b, ν m = some b ∧ o = .mapIter (some b.1) since seen.toArray stepped
  | .loop st pending fn tm params assign body defers, o => ∃ (a : Array Value) (b : Nat × Nat), ν defers = some b ∧ TmR ν tm a ∧
      o = .loop { state := st, pending, fn, tmps := a, params := params.toArray, assign, body, defers := b.1 }
  | .dfr none, o => o = .deferred none
  | .dfr (some l), o => ∃ ds, o = .deferred (some ds) ∧ DefsR ν l ds

theorem ExtR.mono {ν ν' : Val} (h : ν.Le ν') {i n size : Nat} : ∀ {e : Option Nat}, ExtR ν i n size e → ExtR ν' i n size e
  | none, r => r
  | some _, ⟨r, b, hb, e⟩ => ⟨r, b, h _ _ hb, e⟩

theorem OR.mono {ν ν' : Val} (h : ν.Le ν') {i : Nat} : ∀ {s : SO} {o : Obj}, OR ν i s o → OR ν' i s o
  | .row .., _, ⟨ys, rest, e, hl, hx⟩ => ⟨ys, rest, e, hl.mono h, hx.mono h⟩
  | .look .., _, ⟨ys, c, e, fz, ho, hl, hx⟩ => ⟨ys, c, e, fz, ho, hl.mono h, hx⟩
  | .rowO .., _, ⟨c, e, hl, hx⟩ => ⟨c, e, hl, hx.mono h⟩
  | .map .., _, ⟨l, e, hl⟩ => ⟨l, e, hl.mono h⟩
  | .siter .., _, e => e
  | .miter none .., _, e => e
  | .miter (some _) .., _, ⟨b, hb, e⟩ => ⟨b, h _ _ hb, e⟩
  | .loop .., _, ⟨a, b, hb, ha, e⟩ => ⟨a, b, h _ _ hb, ha.mono h, e⟩
  | .dfr none, _, e => e
  | .dfr (some _), _, ⟨ds, e, hd⟩ => ⟨ds, e, hd.mono h⟩

/-- What is told of a choice: a truth; what cells are read (or appended, behind which others). -/
inductive Ans where
  | b (t : Bool)
  | cells (l : List SV)
  | app (old new : List SV)
  | app0
  | put
  | str (b : ByteArray)
  | eqs (b : Bool)

/-- The symbolic memory: the objects (with the mark: may it be written), the next number, what is owed, how many choices were made; what is told of choices. -/
structure SH where
  d : Nat
  H : Tr (Option (SO × Bool))
  nx : Nat
  obl : List Prop
  dc : Nat
  orc : Nat → Option Ans := fun _ => none
  soft : Bool := false

/-- All that is owed. -/
def Owed : List Prop → Prop
  | [] => True
  | p :: l => Owed l ∧ p

def SH.ob (s : SH) : Prop := Owed s.obl

theorem Owed.append : ∀ {l m : List Prop}, Owed (l ++ m) → Owed l ∧ Owed m
  | [], _, h => ⟨trivial, h⟩
  | _ :: _, _, h => ⟨⟨(Owed.append h.1).1, h.2⟩, (Owed.append h.1).2⟩

/-- Whose a block is: 'm': an old one that may turn; 'r': an old one that is told and may not turn; 'h': one of ours that is hidden. -/
structure Own where
  m : Nat → Prop
  r : Nat → Prop
  h : Nat → Prop
instance : CoeFun Own (fun _ => Nat → Prop) := ⟨Own.m⟩

/-- Nothing old may turn. -/
def Own.just (r : Nat → Prop) : Own := ⟨fun _ => False, r, fun _ => False⟩

/-- What a memory stands for. w0: the world in which the call began; M: which old blocks may turn. -/
structure HR (ν : Val) (M : Own) (w0 : World) (s : SH) (w : World) : Prop where
  full : Tr.Full s.d s.H
  dom : ∀ i, 2 ^ s.d ≤ i → ν i = none
  fresh : ∀ i, s.nx ≤ i → ν i = none
  obj : ∀ i, i < 2 ^ s.d → ∀ x, s.H.get i = some x → ∃ b o, ν i = some b ∧ w.heap[b.1]? = some o ∧ OR ν i x.1 o ∧ (x.2 = true → w0.heap.size ≤ b.1 ∨ M b.1)
  inj : ∀ i j, i < 2 ^ s.d → j < 2 ^ s.d → s.H.get i ≠ none → s.H.get j ≠ none → ∀ b c, ν i = some b → ν j = some c → b.1 = c.1 → i = j
  size : w0.heap.size ≤ w.heap.size
  frame : ∀ b, b < w0.heap.size → ¬ M b → w.heap[b]? = w0.heap[b]?
  ro : ∀ i, i < 2 ^ s.d → ∀ x, s.H.get i = some x → x.2 = false → ∀ b, ν i = some b → M.r b.1
  os : w.os = w0.os
  tape : w.tape = w0.tape
  output : w.output = w0.output

theorem HR.below {ν : Val} {r : Nat → Prop} {w0 w : World} {s : SH} (h : HR ν (Own.just r) w0 s w) : Below w0.heap.size w0 w :=
  ⟨h.os, h.tape, h.output, h.size, fun k hk => h.frame k hk id⟩

def SH.look (s : SH) (i : Nat) : Option (SO × Bool) := bif Nat.blt i (2 ^ s.d) then s.H.get i else none

theorem HR.look {ν : Val} {M : Own} {w0 w : World} {s : SH} (h : HR ν M w0 s w) {i : Nat} {x : SO × Bool} (e : s.look i = some x) :
    i < 2 ^ s.d ∧ s.H.get i = some x ∧ ∃ b o, ν i = some b ∧ w.heap[b.1]? = some o ∧ OR ν i x.1 o ∧ (x.2 = true → w0.heap.size ≤ b.1 ∨ M b.1) := by
  unfold SH.look at e
  cases hb : Nat.blt i (2 ^ s.d)
  · rw [hb] at e; cases e
  · rw [hb] at e
    exact ⟨blt_iff.1 hb, e, h.obj i (blt_iff.1 hb) x e⟩

/-- A draw (or any other turn of the count of draws) turns nothing here. -/
theorem HR.drawn {ν : Val} {M : Own} {w0 w : World} {s : SH} (h : HR ν M w0 s w) (n : Nat) : HR ν M w0 s { w with drawn := n } :=
  ⟨h.full, h.dom, h.fresh, h.obj, h.inj, h.size, h.frame, h.ro, h.os, h.tape, h.output⟩

/-- An object is written anew. -/
def SH.put (s : SH) (i : Nat) (o : SO) : SH := { s with H := s.H.set i (some (o, true)) }

theorem HR.put {ν : Val} {M : Own} {w0 w w' : World} {s : SH} (h : HR ν M w0 s w) {i : Nat} {x : SO} (e : s.look i = some (x, true)) {o : SO} {r : Obj} {b : Nat × Nat}
    (hb : ν i = some b) (ho : OR ν i o r) (hw : w'.heap = w.heap.setIfInBounds b.1 r) (hos : w'.os = w.os) (ht : w'.tape = w.tape) (hout : w'.output = w.output) :
    HR ν M w0 (s.put i o) w' := by
  obtain ⟨hi, hg, b', o', hb', ho', _, hown⟩ := h.look e
  obtain rfl : b = b' := by rw [hb] at hb'; exact Option.some.inj hb'
  have hown := hown rfl
  have hlt : b.1 < w.heap.size := (Array.getElem?_eq_some_iff.1 ho').1
  refine ⟨h.full.set _ _, h.dom, h.fresh, ?_, ?_, ?_, ?_, ?_, hos.trans h.os, ht.trans h.tape, hout.trans h.output⟩
  · intro j hj y hy
    have hy : (s.H.set i (some (o, true))).get j = some y := hy
    rw [Tr.get_set h.full hi hj] at hy
    by_cases eij : j = i
    · subst eij
      rw [if_pos rfl] at hy
      cases hy
      exact ⟨b, r, hb, by rw [hw]; simp [hlt], ho, fun _ => hown⟩
    · rw [if_neg eij] at hy
      obtain ⟨c, oc, hc, hoc, hr, ho2⟩ := h.obj j hj y hy
      refine ⟨c, oc, hc, ?_, hr, ho2⟩
      rw [hw, Array.getElem?_setIfInBounds]
      rw [if_neg]
      · exact hoc
      · intro ec
        exact eij (h.inj j i hj hi (by rw [hy]; simp) (by rw [hg]; simp) c b hc hb ec.symm)
  · intro j k hj hk hgj hgk c c' hc hc' ec
    have f : ∀ u, u < 2 ^ s.d → (s.put i o).H.get u ≠ none → s.H.get u ≠ none := by
      intro u hu hn
      have hn : (s.H.set i (some (o, true))).get u ≠ none := hn
      rw [Tr.get_set h.full hi hu] at hn
      by_cases eu : u = i
      · subst eu; rw [hg]; simp
      · rwa [if_neg eu] at hn
    exact h.inj j k hj hk (f j hj hgj) (f k hk hgk) c c' hc hc' ec
  · rw [hw]; simpa using h.size
  · intro c hc hM
    rw [hw, Array.getElem?_setIfInBounds, if_neg, h.frame c hc hM]
    intro ec
    subst ec
    rcases hown with h1 | h1
    · omega
    · exact hM h1
  · intro j hj y hy hf c hc
    have hy : (s.H.set i (some (o, true))).get j = some y := hy
    rw [Tr.get_set h.full hi hj] at hy
    by_cases eij : j = i
    · rw [if_pos eij] at hy; cases hy; cases hf
    · rw [if_neg eij] at hy
      exact h.ro j hj y hy hf c hc

/-- An object is forgotten. -/
def SH.drop (s : SH) (i : Nat) : SH := { s with H := s.H.set i none }
theorem HR.drop {ν : Val} {M : Own} {w0 w : World} {s : SH} (h : HR ν M w0 s w) {i : Nat} (hi : i < 2 ^ s.d) : HR ν M w0 (s.drop i) w := by
  have f : ∀ u, u < 2 ^ s.d → ∀ x, (s.drop i).H.get u = some x → s.H.get u = some x := by
    intro u hu x hn
    have hn : (s.H.set i none).get u = some x := hn
    rw [Tr.get_set h.full hi hu] at hn
    by_cases eu : u = i
    · rw [if_pos eu] at hn; cases hn
    · rwa [if_neg eu] at hn
  refine ⟨h.full.set _ _, h.dom, h.fresh, fun j hj x hx => h.obj j hj x (f j hj x hx), ?_, h.size, h.frame, fun j hj x hx => h.ro j hj x (f j hj x hx), h.os, h.tape, h.output⟩
  intro j k hj hk hgj hgk
  have g : ∀ u, u < 2 ^ s.d → (s.drop i).H.get u ≠ none → s.H.get u ≠ none := by
    intro u hu hn
    cases hx : (s.drop i).H.get u with
    | none => exact absurd hx hn
    | some x => rw [f u hu x hx]; simp
  exact h.inj j k hj hk (g j hj hgj) (g k hk hgk)

/-- A new object. -/
def SH.new (s : SH) (o : SO) : SH := { s with H := s.H.set s.nx (some (o, true)), nx := s.nx + 1 }
/-- Is there a number left? -/
def SH.room (s : SH) : Bool := Nat.blt s.nx (2 ^ s.d)

def Val.put (ν : Val) (i : Nat) (b : Nat × Nat) : Val := fun j => if j = i then some b else ν j
theorem Val.put_self (ν : Val) (i : Nat) (b : Nat × Nat) : ν.put i b i = some b := by simp [Val.put]
theorem Val.put_le {ν : Val} {i : Nat} (h : ν i = none) (b : Nat × Nat) : ν.Le (ν.put i b) := by
  intro j c hc
  unfold Val.put
  by_cases e : j = i
  · subst e; rw [h] at hc; cases hc
  · rw [if_neg e]; exact hc

/-- What is needed of a new block: it lies behind all, or it takes the place of one that has just been forgotten. -/
theorem HR.new {ν : Val} {M : Own} {w0 w w' : World} {s : SH} (h : HR ν M w0 s w) (hr : s.room = true) {o : SO} {r : Obj} (c : Nat)
    (ho : OR (ν.put s.nx (w.heap.size, c)) s.nx o r)
    (hw : w'.heap = w.heap.push r) (hos : w'.os = w.os) (ht : w'.tape = w.tape) (hout : w'.output = w.output) :
    ν s.nx = none ∧ HR (ν.put s.nx (w.heap.size, c)) M w0 (s.new o) w' := by
  have hnx : ν s.nx = none := h.fresh _ (Nat.le_refl _)
  have hlt : s.nx < 2 ^ s.d := blt_iff.1 hr
  have hle := Val.put_le hnx (w.heap.size, c)
  have hput : ∀ j, j ≠ s.nx → (ν.put s.nx (w.heap.size, c)) j = ν j := fun j e => by simp [Val.put, e]
  have blt : ∀ j, j < 2 ^ s.d → s.H.get j ≠ none → ∀ b, ν j = some b → b.1 < w.heap.size := by
    intro j hj hn b hb
    cases hx : s.H.get j with
    | none => exact absurd hx hn
    | some x =>
      obtain ⟨b', o', hb', ho', _⟩ := h.obj j hj x hx
      rw [hb] at hb'; cases hb'
      exact (Array.getElem?_eq_some_iff.1 ho').1
  refine ⟨hnx, h.full.set _ _, ?_, ?_, ?_, ?_, ?_, ?_, ?_, hos.trans h.os, ht.trans h.tape, hout.trans h.output⟩
  · intro i hi
    have hi : 2 ^ s.d ≤ i := hi
    rw [hput i (by omega)]; exact h.dom i hi
  · intro i hi
    have hi : s.nx + 1 ≤ i := hi
    rw [hput i (by omega)]; exact h.fresh i (by omega)
  · intro j hj y hy
    have hj : j < 2 ^ s.d := hj
    have hy : (s.H.set s.nx (some (o, true))).get j = some y := hy
    rw [Tr.get_set h.full hlt hj] at hy
    by_cases e : j = s.nx
    · subst e
      rw [if_pos rfl] at hy
      cases hy
      exact ⟨(w.heap.size, c), r, Val.put_self _ _ _, by rw [hw]; simp, ho, fun _ => .inl h.size⟩
    · rw [if_neg e] at hy
      obtain ⟨b, o', hb, ho', hr', hown⟩ := h.obj j hj y hy
      have := (Array.getElem?_eq_some_iff.1 ho').1
      exact ⟨b, o', by rw [hput j e]; exact hb, by rw [hw, Array.getElem?_push, if_neg (by omega)]; exact ho', hr'.mono hle, hown⟩
  · intro i j hi hj hgi hgj b b' hb hb' e
    have hi : i < 2 ^ s.d := hi
    have hj : j < 2 ^ s.d := hj
    have g : ∀ u, u < 2 ^ s.d → u ≠ s.nx → (s.new o).H.get u ≠ none → s.H.get u ≠ none := by
      intro u hu ne hn
      have hn : (s.H.set s.nx (some (o, true))).get u ≠ none := hn
      rwa [Tr.get_set h.full hlt hu, if_neg ne] at hn
    by_cases ei : i = s.nx <;> by_cases ej : j = s.nx
    · rw [ei, ej]
    · subst ei
      rw [Val.put_self] at hb; cases hb
      rw [hput j ej] at hb'
      have := blt j hj (g j hj ej hgj) b' hb'
      simp at e; omega
    · subst ej
      rw [Val.put_self] at hb'; cases hb'
      rw [hput i ei] at hb
      have := blt i hi (g i hi ei hgi) b hb
      simp at e; omega
    · rw [hput i ei] at hb
      rw [hput j ej] at hb'
      exact h.inj i j hi hj (g i hi ei hgi) (g j hj ej hgj) b b' hb hb' e
  · rw [hw]; simp; have := h.size; omega
  · intro b hb hM
    have := h.size
    rw [hw, Array.getElem?_push, if_neg (by omega)]
    exact h.frame b hb hM
  · intro j hj y hy hf b hb
    have hj : j < 2 ^ s.d := hj
    have hy : (s.H.set s.nx (some (o, true))).get j = some y := hy
    rw [Tr.get_set h.full hlt hj] at hy
    by_cases e : j = s.nx
    · rw [if_pos e] at hy; cases hy; cases hf
    · rw [if_neg e] at hy
      rw [hput j e] at hb
      exact h.ro j hj y hy hf b hb

end Go.Rx
