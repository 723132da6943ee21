/- The symbolic executor 'Rx', part YL: slices of structs that come in; calls with told package variables, in pieces. By an AI agent. -/
import Derived.Test.YtjhmpmhkppglnaaGreatRyK
import Derived.Deep.Slices
import Derived.Deep.Fields
set_option linter.unusedVariables false
set_option linter.unusedSimpArgs false
namespace Go.Rx
open Go.RowKit (Below)

/-- A slice's elements, as they lie in a world. -/
def ElemsIn {α : Type} (h : α → List Value) (W : World) (a : Option Addr) (l c : Nat) : Prop :=
  (l ≤ c ∧ c ≤ maxLen) ∧ (l = 0 ∨ ∃ (b off : Nat) (xs : List α) (cs : Array Value) (e : TypeId) (fz : Nat × Nat), a = some ⟨b, off, none⟩ ∧ xs.length = l ∧ W.heap[b]? = some (.cells cs e fz) ∧ off ≤ cs.size ∧
    ∀ (k : Nat) (v : Value), (xs.flatMap h)[k]? = some v → cs[off + k]? = some v)

theorem flatMap_get {α β : Type} {h : α → List β} {C : Nat} (hC : 0 < C) (hh : ∀ r, (h r).length = C) : ∀ {xs : List α} {k : Nat} {v : β}, (xs.flatMap h)[k]? = some v → ∃ x, xs[k / C]? = some x ∧ (h x)[k % C]? = some v
  | [], _, _, e => by simp at e
  | y :: ys, k, v, e => by
    rw [List.flatMap_cons] at e
    by_cases hk : k < C
    · rw [List.getElem?_append_left (by rw [hh]; exact hk)] at e
      exact ⟨y, by rw [Nat.div_eq_of_lt hk]; rfl, by rw [Nat.mod_eq_of_lt hk]; exact e⟩
    · rw [List.getElem?_append_right (by rw [hh]; omega), hh] at e
      obtain ⟨x, h1, h2⟩ := flatMap_get hC hh e
      refine ⟨x, ?_, ?_⟩
      · rw [Nat.div_eq_sub_div hC (by omega), List.getElem?_cons_succ]; exact h1
      · rw [Nat.mod_eq_sub_mod (by omega)]; exact h2

theorem flatMap_put {α β : Type} {h : α → List β} {C : Nat} (hh : ∀ r, (h r).length = C) {xs : List α} {i : Nat} {x : α} (hx : xs[i]? = some x) {j : Nat} (hj : j < C) : (xs.flatMap h)[i * C + j]? = (h x)[j]? := by
  have := flatMap_at hh hx
  have e : ((xs.flatMap h).drop (i * C)).take C = h x := this
  rw [← e, List.getElem?_take, if_pos hj, List.getElem?_drop]

section
variable {H : Type} {enc : TypeId × Value → H} {P : Program} {W : World} {base : Nat} {spare : Nat → Bool} {held : Bool}

theorem slice_rows {α : Type} {h : α → List Value} {C : Nat} (hC0 : 0 < C) (hh : ∀ r, (h r).length = C) {t e : TypeId} {a : Option Addr} {l c n : Nat} {x : DataW H × List MemPlace}
    (hform : ∀ (vs : List Value) (n : Nat) (y : DataW H × List MemPlace), DataW.trod enc P W base spare held n e vs = some y → ∃ r, vs = h r)
    (ht : P.underlying t = some (.slice e)) (hC : P.cellsOf e = C) (hd : DataW.trod enc P W base spare held n t [.slice a l c] = some x) : ElemsIn h W a l c := by
  rcases Deep.open_slice ht hd with ⟨h0, _⟩ | ⟨a', len, cap, m, n', D, Pl, hcs, hb, hl, hm, hmm, _, hi⟩
  · cases h0; exact ⟨⟨Nat.le_refl _, Nat.zero_le _⟩, .inl rfl⟩
  · cases hcs
    refine ⟨⟨hl, hm⟩, ?_⟩
    by_cases hl0 : l = 0
    · exact .inl hl0
    right
    have hlm : l ≤ m := by rw [hmm]; split <;> omega
    have hel : ∀ i, i < l → ∃ r : α, ∀ j, j < C → W.cell? (a'.add (i * C + j)) = (h r)[j]? := by
      intro i hil
      obtain ⟨cs', hc, htr⟩ := hi i (by omega)
      rw [hC] at hc
      obtain ⟨_, hcl, hat⟩ := World.cells?_some hc
      obtain ⟨r, hr⟩ := hform cs' _ _ htr
      refine ⟨r, fun j hj => ?_⟩
      have := hat j hj
      rw [← hr, ← this, Deep.add_add]
    obtain ⟨F, hF⟩ : ∃ F : Nat → α, ∀ i, i < l → ∀ j, j < C → W.cell? (a'.add (i * C + j)) = (h (F i))[j]? := by
      obtain ⟨r0, _⟩ := hel 0 (by omega)
      refine ⟨fun i => if hi : i < l then Classical.choose (hel i hi) else r0, fun i hi => ?_⟩
      simp only [dif_pos hi]
      exact Classical.choose_spec (hel i hi)
    have h00 := hF 0 (by omega) 0 hC0
    have hv0 : ∃ v, (h (F 0))[0]? = some v := ⟨_, List.getElem?_eq_getElem (by rw [hh]; exact hC0)⟩
    obtain ⟨v0, hv0⟩ := hv0
    rw [hv0, Nat.zero_mul, Nat.add_zero] at h00
    have ha0 : a'.add 0 = a' := by simp [Addr.add]
    rw [ha0] at h00
    unfold World.cell? at h00
    split at h00
    · rename_i cs el fz hheap
      have hsp : a'.spot = none := by
        cases hs : a'.spot with
        | none => rfl
        | some s => rw [hs] at h00; simp at h00
      rw [hsp] at h00
      simp only [Option.isSome_none, Bool.false_eq_true, if_false] at h00
      have hoff := (Array.getElem?_eq_some_iff.1 h00).1
      obtain ⟨b, off, sp⟩ := a'
      simp only at hsp hheap hoff
      subst hsp
      refine ⟨b, off, (List.range l).map F, cs, el, fz, rfl, by simp, hheap, by omega, fun k v hk => ?_⟩
      obtain ⟨x, h1, h2⟩ := flatMap_get hC0 hh hk
      rw [List.getElem?_map] at h1
      obtain ⟨i, h3, rfl⟩ := Option.map_eq_some_iff.1 h1
      obtain ⟨hlt, h3⟩ := List.getElem?_eq_some_iff.1 h3
      rw [List.getElem_range] at h3
      simp only [List.length_range] at hlt
      subst h3
      have := hF (k / C) hlt (k % C) (Nat.mod_lt _ hC0)
      rw [h2] at this
      have e : k / C * C + k % C = k := by rw [Nat.mul_comm]; exact Nat.div_add_mod k C
      rw [e, addr_add, cell_at hheap] at this
      exact this
    · cases h00

/-- A field of a struct that came in. -/
theorem trod_field {t : TypeId} {fs : Array Field} {vs : Array Value} {d : DataW H} {p : List MemPlace} (hs : P.underlying t = some (.struct fs)) (h : DataW.Trod enc P W base spare held t (.agg vs) d p) {i : Nat} {f : Field} (hf : fs[i]? = some f)
    (h1 : P.cellsOf f.type = 1) {v : Value} (hv : vs[f.offset]? = some v) : ∃ n y, DataW.trod enc P W base spare held n f.type [v] = some y := by
  obtain ⟨fuel, hd⟩ := h
  obtain ⟨xs, n, _, _, _, hlen, hg⟩ := DataW.trod_struct hs hd
  have hi : i < xs.length := by rw [hlen]; exact (Array.getElem?_eq_some_iff.1 hf).1
  have := hg i f hf
  rw [h1, List.getElem?_eq_getElem hi] at this
  have e : (List.drop f.offset (Value.agg vs).cells.toList).take 1 = [v] := by
    have hv' : vs.toList[f.offset]? = some v := by simpa using hv
    obtain ⟨hlt, hv'⟩ := List.getElem?_eq_some_iff.1 hv'
    show (List.drop f.offset vs.toList).take 1 = [v]
    rw [List.drop_eq_getElem_cons hlt, hv']; rfl
  rw [e] at this
  exact ⟨n, _, this⟩
end

def structFields (P : Program) (t : TypeId) : Array Field := match P.underlying t with | some (.struct fs) => fs | _ => #[]
def fieldAt (P : Program) (t : TypeId) (i : Nat) : Field := (structFields P t).getD i default

section
variable {H : Type} {enc : TypeId × Value → H} {P : Program} {W : World} {base : Nat} {spare : Nat → Bool} {held : Bool}

theorem trod_field' {t ft : TypeId} {i o : Nat} {vs : Array Value} {d : DataW H} {p : List MemPlace} (h : DataW.Trod enc P W base spare held t (.agg vs) d p) (hs : P.underlying t = some (.struct (structFields P t))) (hf : (structFields P t)[i]? = some (fieldAt P t i))
    (ho : (fieldAt P t i).offset = o) (hty : (fieldAt P t i).type = ft) (h1 : P.cellsOf ft = 1) {v : Value} (hv : vs[o]? = some v) : ∃ n y, DataW.trod enc P W base spare held n ft [v] = some y := by
  subst ho hty
  exact trod_field hs h hf h1 hv

/-- The cells of a struct of one-cell fields. -/
theorem trod_cells {e : TypeId} {vs : List Value} {n : Nat} {y : DataW H × List MemPlace} (h : DataW.trod enc P W base spare held n e vs = some y) (hs : P.underlying e = some (.struct (structFields P e)))
    (hone : Deep.oneCellFields P (structFields P e) = true) (hC : P.cellsOf e = (structFields P e).size) :
    vs.length = (structFields P e).size ∧ ∀ (i : Nat) (ft : TypeId), i < (structFields P e).size → (fieldAt P e i).type = ft → ∃ v n' y', vs[i]? = some v ∧ DataW.trod enc P W base spare held n' ft [v] = some y' := by
  obtain ⟨xs, n', _, _, hl, hlen, hg⟩ := DataW.trod_struct hs h
  refine ⟨hl.trans hC, fun i ft hi hty => ?_⟩
  have hf : (structFields P e)[i]? = some (fieldAt P e i) := by
    unfold fieldAt; rw [Array.getD_eq_getD_getElem?, Array.getElem?_eq_getElem hi]; rfl
  obtain ⟨ho, hk⟩ := Deep.hone_of hone i _ hf
  have := hg i _ hf
  have hi' : i < vs.length := by rw [hl, hC]; exact hi
  rw [hk, ho, List.getElem?_eq_getElem (by rw [hlen]; exact hi), List.drop_eq_getElem_cons hi'] at this
  subst hty
  exact ⟨_, _, _, List.getElem?_eq_getElem hi', this⟩
end

section
variable {E : Env} {w : World} {f : FuncId} {R : Ending → World → Prop}

theorem told_rlt {l : List (Nat × List SV)} (told : ∀ r ∈ l, Told w r) : ∀ b, (laidOwn l).r b → b < w.heap.size := by
  rintro b ⟨r, hr, rfl⟩
  obtain ⟨ys, c, e, fz, h1, _⟩ := told r hr
  exact (Array.getElem?_eq_some_iff.1 h1).1

/-- A call over told package variables, in pieces. -/
theorem calls_pieces {P : Program} (hP : E.P = P) {args : List SV} {a : List Value} {d : Nat} {l : List (Nat × List SV)} {S0 : SM} (hG : E.G = (l.map (·.1)).zipIdx) (hd : l.length ≤ 2 ^ d) (hn : (l.map (·.1)).Nodup) (told : ∀ r ∈ l, Told w r)
    (hS0 : enterS E f args (laidMem d l) = some S0) (ha : VRL (laidVal l) args a) (hs : ∀ cs0, Goes E (laidOwn l) w cs0 f R (laidVal l) S0) : Calls P f a.toArray w R := by
  subst hP
  exact calls_of_safe hS0 (laid_HR hd hn told) (told_rlt told) (fun _ h => h) (laid_GR hG) ha hs
end
end Go.Rx
