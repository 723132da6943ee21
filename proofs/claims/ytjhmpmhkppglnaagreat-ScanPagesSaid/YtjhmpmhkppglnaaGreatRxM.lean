/- The symbolic executor 'Rx', part M: maps written; ranging. By an AI agent. -/
import Derived.Test.YtjhmpmhkppglnaaGreatRxL
set_option linter.unusedVariables false
set_option linter.unusedSimpArgs false
namespace Go.Rx
section
variable {ν : Val} {M : Own} {w0 w : World} {s s' : SH} {E : Env}

theorem run_keyThatStays {P : Program} {old new : Value} (h : ∀ n, Instr.sameBits (n + 1) old new = true) : (Instr.keyThatStays old new).run P w = .ok new w := by
  unfold Instr.keyThatStays
  rw [if_pos (h 9999)]; rfl

/-- A map is written anew. -/
theorem HR.putMap (hr : HR ν M w0 s w) {i : Nat} {es : List (SV × SV × Nat)} {clock : Nat} (hl : s.look i = some (.map es clock, true)) {b : Nat × Nat} (hb : ν i = some b)
    {fs : List (SV × SV × Nat)} {l : List MapEntry} {clock' : Nat} (hf : EntR ν fs l) :
    HR ν M w0 (s.put i (.map fs clock')) { w with heap := w.heap.setIfInBounds b.1 (.map l.toArray clock') } :=
  hr.put hl hb (o := .map fs clock') ⟨l, rfl, hf⟩ rfl rfl rfl rfl

theorem SH.Same.put {i : Nat} (e : s.Same s') (o : SO) : (s.put i o).Same (s'.put i o) := by
  cases s; cases s'
  obtain ⟨rfl, rfl, rfl⟩ := e
  exact ⟨rfl, rfl, rfl⟩

theorem modify_toArray' (l : List MapEntry) (j : Nat) (f : MapEntry → MapEntry) : l.toArray.modify j f = (l.modify j f).toArray := by
  apply Array.ext'
  simp

theorem sMapUpdate_ok {t : TypeId} {m k x : SV} {mv kv xv : Value} (h : sMapUpdate E t m k x s = some s') (hr : HR ν M w0 s w) (hm : VR ν m mv) (hk : VR ν k kv) (hx : VR ν x xv) :
    s'.ob → s.ob ∧ GoodU E.P (Instr.mapUpdate t mv kv xv) ν M w0 w s' := by
  unfold sMapUpdate at h
  split at h
  · rename_i kt et i hd
    cases hkd : keyDesc E kt with
    | none => rw [hkd] at h; cases h
    | some kd =>
    rw [hkd] at h
    simp only [Option.bind_eq_bind, Option.bind_some] at h
    obtain ⟨hkt, hkey⟩ := keyDesc_ok hkd
    split at h
    · rename_i es clock hl
      obtain ⟨c, hc, rfl⟩ := VR.map_iff.1 hm
      cases hf : findS E kd k es 0 s with
      | none => rw [hf] at h; cases h
      | some p =>
      obtain ⟨r, s1⟩ := p
      rw [hf] at h
      simp only [Option.bind_some] at h
      obtain ⟨_, _, b, o, hb, ho, hor, _⟩ := hr.look hl
      rw [hc] at hb; cases hb
      obtain ⟨l, rfl, hent⟩ := hor
      obtain ⟨hsame, hob⟩ := findS_ok hk hf hent
      have hl1 : s1.look i = some (.map es clock, true) := by rw [hsame.look]; exact hl
      have hr1 := hr.same hsame
      cases r with
      | none =>
        simp only at h
        cases h
        intro ob
        have ob : s1.ob := ob
        obtain ⟨ob0, hfn⟩ := hob ob
        refine ⟨ob0, ν, _, Val.Le.refl _, ?_, hr1.putMap hl1 hc (l := l ++ [{ key := kv, val := xv, born := clock }]) (hent.append ⟨_, [], rfl, hk, hx, rfl, rfl⟩)⟩
        simp only [Instr.mapUpdate, Sem.run_bind, run_underlying hd, Result.andThen_ok, run_getObj_map ho, run_checkKey hkt hkey, run_findKey hkt hfn, run_setObj_map ho]
        simp
      | some q =>
        obtain ⟨j, x0, born⟩ := q
        simp only at h
        cases h
        intro ob
        have ob : s1.ob := ob
        obtain ⟨ob0, _, e, he, _, _, hfn, hsb⟩ := hob ob
        rw [Nat.sub_zero] at he
        refine ⟨ob0, ν, _, Val.Le.refl _, ?_, hr1.putMap hl1 hc (l := l.modify j fun e => { e with key := kv, val := xv }) (hent.modify j _ _ fun a e _ _ h3 => ⟨hk, hx, h3⟩)⟩
        have hkey' : ((l.toArray[j]?).map (·.key)).getD kv = e.key := by simp [he]
        simp only [Instr.mapUpdate, Sem.run_bind, run_underlying hd, Result.andThen_ok, run_getObj_map ho, run_checkKey hkt hkey, run_findKey hkt hfn, hkey', run_keyThatStays hsb, run_setObj_map ho, modify_toArray']
    · cases h
  · cases h

theorem sMapEntry_ok {t : TypeId} {m k x : SV} {mv kv : Value} (h : sMapEntry E t m k s = some (x, s')) (hr : HR ν M w0 s w) (hm : VR ν m mv) (hk : VR ν k kv) :
    s'.ob → s.ob ∧ GoodV E.P (Instr.mapEntry t mv kv) ν M w0 w x s' := by
  unfold sMapEntry at h
  split at h
  · rename_i kt et i hd
    cases hkd : keyDesc E kt with
    | none => rw [hkd] at h; cases h
    | some kd =>
    rw [hkd] at h
    simp only [Option.bind_eq_bind, Option.bind_some] at h
    obtain ⟨hkt, hkey⟩ := keyDesc_ok hkd
    split at h
    · rename_i es clock hl
      obtain ⟨c, hc, rfl⟩ := VR.map_iff.1 hm
      cases hf : findS E kd k es 0 s with
      | none => rw [hf] at h; cases h
      | some p =>
      obtain ⟨r, s1⟩ := p
      rw [hf] at h
      simp only [Option.bind_some] at h
      obtain ⟨_, _, b, o, hb, ho, hor, _⟩ := hr.look hl
      rw [hc] at hb; cases hb
      obtain ⟨l, rfl, hent⟩ := hor
      obtain ⟨hsame, hob⟩ := findS_ok hk hf hent
      have hl1 : s1.look i = some (.map es clock, true) := by rw [hsame.look]; exact hl
      have hr1 := hr.same hsame
      cases r with
      | none =>
        simp only at h
        cases hi : tinfo E et with
        | none => rw [hi] at h; cases h
        | some zi =>
        rw [hi] at h
        simp only [Option.bind_some] at h
        cases hz : zi.zero with
        | none => rw [hz] at h; cases h
        | some z =>
        rw [hz] at h
        simp only [Option.bind_some] at h
        cases h
        intro ob
        have ob : s1.ob := ob
        obtain ⟨ob0, hfn⟩ := hob ob
        refine ⟨ob0, ν, _, _, Val.Le.refl _, ?_, VR.tup_iff.2 ⟨[z, .int .i64 clock], rfl, VRL.cons (VR.v_iff.2 rfl) (VRL.cons (VR.v_iff.2 rfl) VRL.nil)⟩,
          hr1.putMap hl1 hc (l := l ++ [{ key := kv, val := z, born := clock }]) (hent.append ⟨_, [], rfl, hk, VR.v_iff.2 rfl, rfl, rfl⟩)⟩
        simp only [Instr.mapEntry, Sem.run_bind, run_underlying hd, Result.andThen_ok, run_getObj_map ho, run_checkKey hkt hkey, run_findKey hkt hfn, run_zeroValue hi hz, run_setObj_map ho]
        simp [goInt]
      | some q =>
        obtain ⟨j, x0, born⟩ := q
        simp only at h
        cases h
        intro ob
        have ob : s1.ob := ob
        obtain ⟨ob0, _, e, he, hx0, hborn, hfn, hsb⟩ := hob ob
        rw [Nat.sub_zero] at he
        refine ⟨ob0, ν, _, _, Val.Le.refl _, ?_, VR.tup_iff.2 ⟨[e.val, .int .i64 born], rfl, VRL.cons hx0 (VRL.cons (VR.v_iff.2 rfl) VRL.nil)⟩,
          hr1.putMap hl1 hc (l := l.modify j fun e => { e with key := kv }) (hent.modify j _ _ fun a e _ h2 h3 => ⟨hk, h2, h3⟩)⟩
        have hkey' : ((l.toArray[j]?).map (·.key)).getD kv = e.key := by simp [he]
        have hborn' : ((l.toArray[j]?).map (fun x => (x.born : Int))).getD 0 = (born : Int) := by simp [he, hborn]
        simp only [Instr.mapEntry, Sem.run_bind, run_underlying hd, Result.andThen_ok, run_getObj_map ho, run_checkKey hkt hkey, run_findKey hkt hfn, hkey', hborn', run_keyThatStays hsb, run_setObj_map ho, modify_toArray', goInt, Sem.run_pure]
    · cases h
  · cases h

theorem findBorn_ok {born : Int} : ∀ {es : List (SV × SV × Nat)} {l : List MapEntry} {i j : Nat}, findBorn born es i = some j → EntR ν es l →
    i ≤ j ∧ l.findIdx? (fun e => (e.born : Int) == born) = some (j - i) := by
  intro es
  induction es with
  | nil => intro l i j h _; cases h
  | cons e es ih =>
    intro l i j h hl
    obtain ⟨z, zs, rfl, h1, h2, h3, hs⟩ := hl
    unfold findBorn at h
    cases hb : decide ((e.2.2 : Int) = born)
    · rw [hb] at h
      obtain ⟨hij, hf⟩ := ih h hs
      have hne : ((z.born : Int) == born) = false := by
        have := of_decide_eq_false hb
        rw [← h3]; simpa using this
      refine ⟨by omega, ?_⟩
      rw [List.findIdx?_cons, hne, hf]
      simp; omega
    · rw [hb] at h; cases h
      have he : ((z.born : Int) == born) = true := by
        have := of_decide_eq_true hb
        rw [← h3]; simpa using this
      exact ⟨Nat.le_refl _, by rw [List.findIdx?_cons, he]; simp⟩

theorem sEntryStore_ok {t : TypeId} {m st x : SV} {mv sv xv : Value} (h : sEntryStore m st x s = some s') (hr : HR ν M w0 s w) (hm : VR ν m mv) (hst : VR ν st sv) (hx : VR ν x xv) :
    s'.ob = s.ob ∧ GoodU E.P (Instr.entryStore t mv sv xv) ν M w0 w s' := by
  unfold sEntryStore at h
  split at h
  · rename_i i kk born hint
    split at h
    · rename_i es clock hl
      obtain ⟨c, hc, rfl⟩ := VR.map_iff.1 hm
      obtain rfl := SV.int_ok hint hst
      obtain ⟨_, _, b, o, hb, ho, hor, _⟩ := hr.look hl
      rw [hc] at hb; cases hb
      obtain ⟨l, rfl, hent⟩ := hor
      cases hf : findBorn born es 0 with
      | none => rw [hf] at h; cases h
      | some j =>
      rw [hf] at h; cases h
      obtain ⟨_, hfi⟩ := findBorn_ok hf hent
      rw [Nat.sub_zero] at hfi
      refine ⟨rfl, ν, _, Val.Le.refl _, ?_, hr.putMap hl hc (l := l.modify j fun e => { e with val := xv }) (hent.modify j _ _ fun a e h1 _ h3 => ⟨h1, hx, h3⟩)⟩
      have hfa : l.toArray.findIdx? (fun e => (e.born : Int) == born) = some j := by rw [List.findIdx?_toArray]; exact hfi
      simp only [Instr.entryStore, Sem.run_bind, run_getObj_map ho, Result.andThen_ok, asInt, asIntOf, Sem.run_pure, hfa, run_setObj_map ho, modify_toArray']
    · cases h
  · cases h

theorem sDelete_ok {t : TypeId} {rest : List TypeId} {m k x : SV} {mv kv : Value} {ty : TypeId} (h : sDelete E t m k s = some (x, s')) (hr : HR ν M w0 s w) (hm : VR ν m mv) (hk : VR ν k kv) :
    s'.ob → s.ob ∧ GoodV E.P (Builtin.delete_ (t :: rest).toArray ty #[mv, kv]) ν M w0 w x s' := by
  have a0 : ((t :: rest).toArray : Array TypeId)[0]? = some t := by simp
  have b0 : (#[mv, kv] : Array Value)[0]? = some mv := rfl
  have b1 : (#[mv, kv] : Array Value)[1]? = some kv := rfl
  unfold sDelete at h
  split at h
  · rename_i kt et hd
    cases hkd : keyDesc E kt with
    | none => rw [hkd] at h; cases h
    | some kd =>
    rw [hkd] at h
    simp only [Option.bind_eq_bind, Option.bind_some] at h
    obtain ⟨hkt, hkey⟩ := keyDesc_ok hkd
    split at h
    · cases h
      obtain rfl := VR.v_iff.1 hm
      refine fun ob => ⟨ob, GoodV.now hr ?_ (VR.v_iff.2 rfl)⟩
      simp only [Builtin.delete_, a0, b0, b1, Sem.run_bind, run_underlying hd, Result.andThen_ok, run_checkKey hkt hkey, Sem.run_pure]
    · rename_i i
      split at h
      · rename_i es clock hl
        obtain ⟨c, hc, rfl⟩ := VR.map_iff.1 hm
        cases hf : findS E kd k es 0 s with
        | none => rw [hf] at h; cases h
        | some p =>
        obtain ⟨r, s1⟩ := p
        rw [hf] at h
        simp only [Option.bind_some] at h
        obtain ⟨_, _, b, o, hb, ho, hor, _⟩ := hr.look hl
        rw [hc] at hb; cases hb
        obtain ⟨l, rfl, hent⟩ := hor
        obtain ⟨hsame, hob⟩ := findS_ok hk hf hent
        have hl1 : s1.look i = some (.map es clock, true) := by rw [hsame.look]; exact hl
        have hr1 := hr.same hsame
        cases r with
        | none =>
          simp only at h
          cases h
          intro ob
          obtain ⟨ob0, hfn⟩ := hob ob
          have hself : w.heap.setIfInBounds c.1 (.map l.toArray clock) = w.heap := by
            apply Array.ext_getElem?
            intro j
            rw [Array.getElem?_setIfInBounds]
            split
            · rename_i ej
              subst ej
              have h1 := (Array.getElem?_eq_some_iff.1 ho).1
              have h2 := (Array.getElem?_eq_some_iff.1 ho).2
              simp [h1, h2]
            · rfl
          refine ⟨ob0, GoodV.now hr1 ?_ (VR.v_iff.2 rfl)⟩
          simp only [Builtin.delete_, a0, b0, b1, Sem.run_bind, run_underlying hd, run_getObj_map ho, Result.andThen_ok, run_checkKey hkt hkey, run_findKey hkt hfn, run_setObj_map ho, hself, Sem.run_pure]
        | some q =>
          obtain ⟨j, x0, born⟩ := q
          simp only at h
          cases h
          intro ob
          have ob : s1.ob := ob
          obtain ⟨ob0, _, e, he, _, _, hfn, _⟩ := hob ob
          refine ⟨ob0, ν, _, _, Val.Le.refl _, ?_, VR.v_iff.2 rfl, hr1.putMap hl1 hc (l := l.eraseIdx j) (hent.erase j)⟩
          have her : l.toArray.eraseIdxIfInBounds j = (l.eraseIdx j).toArray := by
            apply Array.ext'; simp
          simp only [Builtin.delete_, a0, b0, b1, Sem.run_bind, run_underlying hd, run_getObj_map ho, Result.andThen_ok, run_checkKey hkt hkey, run_findKey hkt hfn, run_setObj_map ho, her, Sem.run_pure]
      · cases h
    · cases h
  · cases h

end
end Go.Rx
