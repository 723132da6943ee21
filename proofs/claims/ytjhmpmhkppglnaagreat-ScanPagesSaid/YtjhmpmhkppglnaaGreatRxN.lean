/- The symbolic executor 'Rx', part N: ranging. By an AI agent. -/
import Derived.Test.YtjhmpmhkppglnaaGreatRxM
set_option linter.unusedVariables false
set_option linter.unusedSimpArgs false
namespace Go.Rx
section
variable {ν : Val} {M : Own} {w0 w : World} {s s' : SH} {E : Env}

theorem sRange_ok {t : TypeId} {x y : SV} {xv : Value} (h : sRange E t x s = some (y, s')) (hr : HR ν M w0 s w) (hx : VR ν x xv) :
    s'.ob = s.ob ∧ GoodV E.P (Instr.range t xv) ν M w0 w y s' := by
  unfold sRange at h
  split at h
  · rename_i b hd
    obtain rfl := VR.v_iff.1 hx
    cases hn : sNew (.siter b 0) s with
    | none => rw [hn] at h; cases h
    | some p =>
    obtain ⟨i, s1⟩ := p
    rw [hn] at h; cases h
    obtain ⟨hob, ν', hle, hi, hr'⟩ := sNew_ok hn hr 0 (r := .stringIter b 0) (fun _ _ _ => rfl)
    refine ⟨hob, ν', _, _, hle, ?_, VR.ptr_iff.2 ⟨_, hi, rfl⟩, hr'⟩
    simp only [Instr.range, Sem.run_bind, run_underlying hd, Result.andThen_ok, Sem.run_pure, run_newObj]
  · rename_i k e hd
    obtain rfl := VR.v_iff.1 hx
    cases hn : sNew (.miter none 0 [] 0) s with
    | none => rw [hn] at h; cases h
    | some p =>
    obtain ⟨i, s1⟩ := p
    rw [hn] at h; cases h
    obtain ⟨hob, ν', hle, hi, hr'⟩ := sNew_ok hn hr 0 (r := .mapIter none 0 #[] 0) (fun _ _ _ => rfl)
    refine ⟨hob, ν', _, _, hle, ?_, VR.ptr_iff.2 ⟨_, hi, rfl⟩, hr'⟩
    simp only [Instr.range, Sem.run_bind, run_underlying hd, Result.andThen_ok, Sem.run_pure, run_newObj]
  · rename_i k e m hd
    obtain ⟨c, hc, rfl⟩ := VR.map_iff.1 hx
    split at h
    · rename_i es clock own hl
      cases hn : sNew (.miter (some m) clock [] clock) s with
      | none => rw [hn] at h; cases h
      | some p =>
      obtain ⟨i, s1⟩ := p
      rw [hn] at h; cases h
      obtain ⟨_, _, b, o, hb, ho, hor, _⟩ := hr.look hl
      rw [hc] at hb; cases hb
      obtain ⟨l, rfl, _⟩ := hor
      obtain ⟨hob, ν', hle, hi, hr'⟩ := sNew_ok hn hr 0 (r := .mapIter (some c.1) clock #[] clock) (fun ν' hle _ => ⟨c, hle _ _ hc, rfl⟩)
      refine ⟨hob, ν', _, _, hle, ?_, VR.ptr_iff.2 ⟨_, hi, rfl⟩, hr'⟩
      simp only [Instr.range, Sem.run_bind, run_underlying hd, run_getObj_map ho, Result.andThen_ok, Sem.run_pure, run_newObj]
    · cases h
  · cases h

theorem EntR.filter {es : List (SV × SV × Nat)} {l : List MapEntry} (h : EntR ν es l) (p : Nat → Bool) : EntR ν (es.filter fun e => p e.2.2) (l.filter fun e => p e.born) := by
  induction es generalizing l with
  | nil => have h' : l = [] := h; subst h'; exact rfl
  | cons a es ih =>
    obtain ⟨z, zs, rfl, h1, h2, h3, hs⟩ := h
    simp only [List.filter_cons, ← h3]
    split
    · exact ⟨z, _, rfl, h1, h2, h3, ih hs⟩
    · exact ih hs

theorem EntR.get {es : List (SV × SV × Nat)} {l : List MapEntry} {j : Nat} {e : MapEntry} (h : EntR ν es l) (he : l[j]? = some e) : ∃ a, es[j]? = some a ∧ VR ν a.1 e.key ∧ VR ν a.2.1 e.val ∧ a.2.2 = e.born := by
  induction es generalizing l j with
  | nil => have h' : l = [] := h; subst h'; simp at he
  | cons a es ih =>
    obtain ⟨z, zs, rfl, h1, h2, h3, hs⟩ := h
    cases j with
    | zero => simp at he; subst he; exact ⟨a, by simp, h1, h2, h3⟩
    | succ j => simp at he; obtain ⟨b, hb, k⟩ := ih hs he; exact ⟨b, by simpa using hb, k⟩

theorem EntR.all {es : List (SV × SV × Nat)} {l : List MapEntry} (h : EntR ν es l) (p : Nat → Bool) : es.all (fun e => p e.2.2) = l.all (fun e => p e.born) := by
  induction es generalizing l with
  | nil => have h' : l = [] := h; subst h'; rfl
  | cons a es ih =>
    obtain ⟨z, zs, rfl, _, _, h3, hs⟩ := h
    simp only [List.all_cons, h3, ih hs]

theorem EntR.isEmpty {es : List (SV × SV × Nat)} {l : List MapEntry} (h : EntR ν es l) : l.isEmpty = es.isEmpty := by
  have := h.length
  cases l <;> cases es <;> simp_all

theorem run_getObj {P : Program} {b : Nat} {o : Obj} (h : w.heap[b]? = some o) (hc : ∀ c e f, o ≠ .cells c e f) : (getObj b).run P w = .ok o w := by
  unfold getObj
  rw [Sem.run]
  cases o with
  | cells c e f => exact absurd rfl (hc c e f)
  | _ => rw [h]; rfl

theorem run_setObj {P : Program} {b : Nat} {o : Obj} (h : w.heap[b]? = some o) (hc : ∀ c e f, o ≠ .cells c e f) (o' : Obj) : (setObj b o').run P w = .ok () { w with heap := w.heap.setIfInBounds b o' } := by
  unfold setObj
  rw [Sem.run]
  cases o with
  | cells c e f => exact absurd rfl (hc c e f)
  | _ => rw [h]; rfl

/-- A step of an iterator: one of the ways that are told is the one that is gone. -/
theorem sNextIt_ok {x : SV} {isS : Bool} {xv : Value} {ty : TypeId} {L : List (SV × SH)} (h : sNextIt x isS s = some L) (hr : HR ν M w0 s w) (hx : VR ν x xv) :
    ∃ p ∈ L, p.2.ob = s.ob ∧ GoodV E.P (Instr.next xv isS ty) ν M w0 w p.1 p.2 := by
  unfold sNextIt at h
  split at h
  · -- a text
    rename_i i
    obtain ⟨c, hc, rfl⟩ := VR.ptr_iff.1 hx
    split at h
    · rename_i b pos hl
      obtain ⟨_, _, c', o, hc', ho, hor, _⟩ := hr.look hl
      rw [hc] at hc'; cases hc'
      obtain rfl : o = .stringIter b pos := hor
      have hg := run_getObj (P := E.P) ho (by intro a b c e; cases e)
      cases hlt : Nat.blt pos b.size
      · rw [hlt] at h; cases h
        refine ⟨_, List.mem_singleton.2 rfl, rfl, GoodV.now hr ?_ (VR.v_iff.2 rfl)⟩
        have : ¬ pos < b.size := fun e => by rw [blt_iff.2 e] at hlt; cases hlt
        simp only [Instr.next, Sem.run_bind, hg, Result.andThen_ok, if_neg this, Sem.run_pure]
      · rw [hlt] at h; cases h
        have hlt := blt_iff.1 hlt
        have hs := run_setObj (P := E.P) ho (by intro a b c e; cases e) (.stringIter b (pos + (Utf8.decode b pos).2))
        refine ⟨_, List.mem_singleton.2 rfl, rfl, ν, _, _, Val.Le.refl _, ?_, VR.tup_iff.2 ⟨[_, _, _], rfl, VRL.cons (VR.v_iff.2 rfl) (VRL.cons (VR.v_iff.2 rfl) (VRL.cons (VR.v_iff.2 rfl) VRL.nil))⟩,
          hr.put (w' := { w with heap := w.heap.setIfInBounds c.1 (.stringIter b (pos + (Utf8.decode b pos).2)) }) hl hc (o := .siter b (pos + (Utf8.decode b pos).2)) (r := .stringIter b (pos + (Utf8.decode b pos).2)) rfl rfl rfl rfl rfl⟩
        simp only [Instr.next, Sem.run_bind, hg, Result.andThen_ok, if_pos hlt, hs, Sem.run_pure, goInt]
    · cases h
  · -- a map
    rename_i i
    obtain ⟨c, hc, rfl⟩ := VR.ptr_iff.1 hx
    split at h
    · rename_i since seen last own hl
      cases h
      obtain ⟨_, _, c', o, hc', ho, hor, _⟩ := hr.look hl
      rw [hc] at hc'; cases hc'
      obtain rfl : o = .mapIter none since seen.toArray last := hor
      have hg := run_getObj (P := E.P) ho (by intro a b c e; cases e)
      refine ⟨_, List.mem_singleton.2 rfl, rfl, GoodV.now hr ?_ (VR.v_iff.2 rfl)⟩
      simp only [Instr.next, Sem.run_bind, hg, Result.andThen_ok, Sem.run_pure]
    · rename_i m since seen last hl
      split at h
      · rename_i es clock own hlm
        cases hun : (!seen.isEmpty && !es.isEmpty && es.all (fun e => Nat.ble last e.2.2))
        rotate_left
        · rw [hun] at h; cases h
        rw [hun] at h
        simp only [cond_false, Option.some.injEq] at h
        obtain ⟨_, _, c', o, hc', ho, hor, _⟩ := hr.look hl
        rw [hc] at hc'; cases hc'
        obtain ⟨cm, hcm, rfl⟩ := hor
        obtain ⟨_, _, c', o, hc', hom, horm, _⟩ := hr.look hlm
        rw [hcm] at hc'; cases hc'
        obtain ⟨l, rfl, hent⟩ := horm
        have hg := run_getObj (P := E.P) ho (by intro a b c e; cases e)
        have hgm := run_getObj_map (P := E.P) hom
        have e1 : (fun e : SV × SV × Nat => Nat.ble last e.2.2) = (fun e => (fun n => Nat.ble last n) e.2.2) := rfl
        have hun' : (!seen.toArray.isEmpty && !l.toArray.isEmpty && l.toArray.all (fun e => decide (e.born ≥ last))) = false := by
          rw [← hun, e1, hent.all]
          have : (fun e : MapEntry => decide (e.born ≥ last)) = (fun e : MapEntry => (fun n => Nat.ble last n) e.born) := by
            funext e
            rw [Bool.eq_iff_iff]; simp
          simp only [List.isEmpty_toArray, hent.isEmpty, List.all_toArray, this]
        -- the candidates
        have hleft := hent.filter (fun n => !seen.contains n)
        generalize hA : (es.filter fun e => !seen.contains e.2.2) = left at *
        generalize hB : (l.filter fun e => !seen.contains e.born) = leftv at *
        have hold := hleft.filter (fun n => Nat.blt n since)
        have hnew := hleft.filter (fun n => Nat.ble since n)
        have hboth := hold.append hnew
        have f1 : (l.toArray.filter fun e => !seen.toArray.contains e.born) = leftv.toArray := by
          rw [List.filter_toArray, ← hB]; simp
        have f2 : (leftv.toArray.filter fun e => decide (e.born < since)) = (leftv.filter fun e => Nat.blt e.born since).toArray := by
          rw [List.filter_toArray]; congr 1
          apply List.filter_congr
          intro e _
          rw [Bool.eq_iff_iff, blt_iff]; simp
        have f3 : (leftv.toArray.filter fun e => decide (e.born ≥ since)) = (leftv.filter fun e => Nat.ble since e.born).toArray := by
          rw [List.filter_toArray]; congr 1
          apply List.filter_congr
          intro e _
          rw [Bool.eq_iff_iff]; simp
        have hemp := hold.isEmpty
        generalize hO : (left.filter fun e => Nat.blt e.2.2 since) = old at *
        generalize hN : (left.filter fun e => Nat.ble since e.2.2) = new at *
        generalize hOv : (leftv.filter fun e => Nat.blt e.born since) = oldv at *
        generalize hNv : (leftv.filter fun e => Nat.ble since e.born) = newv at *
        -- the choice
        let cands : List (Option MapEntry) := (if oldv.isEmpty then [none] else []) ++ (oldv ++ newv).map some
        have fc : (if (oldv.toArray).isEmpty = true then #[none] else #[]) ++ Array.map some (oldv.toArray ++ newv.toArray) = cands.toArray := by
          simp only [cands, List.isEmpty_toArray]
          split <;> (apply Array.ext'; simp)
        have hpos : 0 < cands.length := by
          simp only [cands]
          cases oldv <;> simp
        obtain ⟨idx, k, hch, hidx⟩ : ∃ idx k, (choose (.mapNext cands.length)).run E.P w = .ok idx { w with drawn := k } ∧ idx < cands.length := by
          rw [run_choose]
          by_cases h1 : cands.length ≤ 1
          · have hf : (Question.mapNext cands.length).forced = true := by simp [Question.forced, h1]
            exact ⟨0, w.drawn, by rw [if_pos hf], hpos⟩
          · have hf : ¬ (Question.mapNext cands.length).forced = true := by simp [Question.forced]; omega
            refine ⟨_, w.drawn + 1, by rw [if_neg hf], ?_⟩
            simp only [Question.cut]
            exact Nat.mod_lt _ hpos
        have hrun : (Instr.next (.pointer (some ⟨c.1, 0, none⟩)) false ty).run E.P w = ((match cands[idx]? with
            | some (some e) => (do setObj c.1 (.mapIter (some cm.1) since (seen.toArray.push e.born) clock); pure (.tuple #[.bool true, e.key, e.val]))
            | some none => pure (.tuple #[.bool false])
            | none => stuck "Next: no such candidate" : Sem Value)).run E.P { w with drawn := k } := by
          have hch' : (choose (.mapNext cands.toArray.size)).run E.P w = .ok idx { w with drawn := k } := hch
          simp only [Instr.next, Sem.run_bind, hg, Result.andThen_ok, hgm, hun', Bool.false_eq_true, if_false, Sem.run_pure, f1, f2, f3, fc, hch']
          simp only [List.getElem?_toArray]
          generalize cands[idx]? = q
          rcases q with _ | _ | e <;> rfl
        have hr2 := hr.drawn k
        obtain ⟨cd, hcd⟩ : ∃ cd, cands[idx]? = some cd := ⟨_, List.getElem?_eq_getElem hidx⟩
        rw [hcd] at hrun
        cases cd with
        | none =>
          -- over
          have hoe : old.isEmpty = true := by
            rw [← hemp]
            cases hxe : oldv.isEmpty with
            | true => rfl
            | false =>
              have hmem : (none : Option MapEntry) ∈ cands := List.mem_of_getElem? hcd
              simp [cands, hxe] at hmem
          subst h
          refine ⟨(.v (.tuple #[.bool false]), s), by simp [hoe], rfl, ν, _, _, Val.Le.refl _, by rw [hrun]; rfl, VR.v_iff.2 rfl, hr2⟩
        | some e =>
          have hj : ∃ j : Nat, (oldv ++ newv)[j]? = some e := by
            have hmem : some e ∈ cands := List.mem_of_getElem? hcd
            simp only [cands, List.mem_append] at hmem
            rcases hmem with hm | hm
            · split at hm <;> simp at hm
            · obtain ⟨e', he', hee⟩ := List.mem_map.1 hm
              cases hee
              exact List.getElem?_of_mem he'
          obtain ⟨j, hj⟩ := hj
          obtain ⟨a, ha, h1, h2, h3⟩ := hboth.get hj
          have hamem : a ∈ old ++ new := List.mem_of_getElem? ha
          have hs := run_setObj (P := E.P) (w := { w with drawn := k }) ho (by intro a b c e; cases e) (.mapIter (some cm.1) since (seen.toArray.push e.born) clock)
          subst h
          refine ⟨(SV.tup [.v (.bool true), a.1, a.2.1], s.put i (.miter (some m) since (seen ++ [a.2.2]) clock)), ?_, rfl, ν, _, _, Val.Le.refl _, ?_,
            VR.tup_iff.2 ⟨[.bool true, e.key, e.val], rfl, VRL.cons (VR.v_iff.2 rfl) (VRL.cons h1 (VRL.cons h2 VRL.nil))⟩,
            hr2.put (w' := { w with drawn := k, heap := w.heap.setIfInBounds c.1 (.mapIter (some cm.1) since (seen.toArray.push e.born) clock) }) hl hc (o := .miter (some m) since (seen ++ [a.2.2]) clock) (r := .mapIter (some cm.1) since (seen.toArray.push e.born) clock) ⟨cm, hcm, by rw [h3]; simp⟩ rfl rfl rfl rfl⟩
          · have : (SV.tup [.v (.bool true), a.1, a.2.1], s.put i (.miter (some m) since (seen ++ [a.2.2]) clock)) ∈ (old ++ new).map fun e => (SV.tup [.v (.bool true), e.1, e.2.1], s.put i (.miter (some m) since (seen ++ [e.2.2]) clock)) :=
              List.mem_map.2 ⟨a, hamem, rfl⟩
            cases old.isEmpty
            · exact this
            · exact List.mem_cons_of_mem _ this
          · rw [hrun]
            simp only [Sem.run_bind, hs, Result.andThen_ok, Sem.run_pure]
      · cases h
    · cases h
  · cases h

theorem EntR.find {st : Nat} : ∀ {es : List (SV × SV × Nat)} {l : List MapEntry} {a : SV × SV × Nat}, EntR ν es l → (es.find? fun e => Nat.beq e.2.2 st) = some a →
    ∃ e, (l.find? fun e => e.born == st) = some e ∧ VR ν a.1 e.key ∧ VR ν a.2.1 e.val
  | [], _, _, _, h => by cases h
  | x :: xs, _, a, ⟨z, zs, e, h1, h2, h3, hs⟩, h => by
    subst e
    rw [List.find?_cons] at h ⊢
    have hb : (z.born == st) = Nat.beq x.2.2 st := by
      rw [h3]
      cases hq : Nat.beq z.born st
      · have : ¬ z.born = st := fun e => by rw [e] at hq; simp at hq
        simpa using this
      · simpa using Nat.eq_of_beq_eq_true hq
    rw [hb]
    cases hq : Nat.beq x.2.2 st
    · rw [hq] at h; exact EntR.find hs h
    · rw [hq] at h; cases h; exact ⟨z, rfl, h1, h2⟩

theorem sEntry_ok {x y : SV} {xv : Value} (h : sEntry x s = some y) (hr : HR ν M w0 s w) (hx : VR ν x xv) : ∃ v, (Instr.entry xv).run E.P w = .ok v w ∧ VR ν y v := by
  unfold sEntry at h
  split at h
  · rename_i i
    split at h
    · rename_i m since seen stepped wr hl
      split at h
      · rename_i es clock wr2 stamp hm hlast
        obtain ⟨b, hb, rfl⟩ := VR.ptr_iff.1 hx
        obtain ⟨_, _, b', o, hb', ho, hor, _⟩ := hr.look hl
        rw [hb] at hb'; cases hb'
        obtain ⟨bm, hbm, rfl⟩ := hor
        obtain ⟨_, _, b2, o2, hb2, ho2, hor2, _⟩ := hr.look hm
        rw [hbm] at hb2; cases hb2
        obtain ⟨l, rfl, hes⟩ := hor2
        cases hc : Nat.beq clock stepped
        · rw [hc] at h; cases h
        · rw [hc] at h
          simp only [cond_true] at h
          have hc := Nat.eq_of_beq_eq_true hc
          subst hc
          cases hf : es.find? fun e => Nat.beq e.2.2 stamp with
          | none => rw [hf] at h; cases h
          | some a =>
          rw [hf] at h; cases h
          obtain ⟨e, he, hk, hv⟩ := hes.find hf
          refine ⟨.tuple #[e.key, e.val], ?_, VR.tup_iff.2 ⟨[e.key, e.val], rfl, VRL.cons hk (VRL.cons hv VRL.nil)⟩⟩
          have hback : seen.toArray.back? = some stamp := by simpa using hlast
          simp [Instr.entry, run_getObj (P := E.P) ho (by intro c e f; exact fun h => by cases h), run_getObj (P := E.P) ho2 (by intro c e f; exact fun h => by cases h), hback, he]
      · cases h
    · cases h
  · cases h

end
end Go.Rx
