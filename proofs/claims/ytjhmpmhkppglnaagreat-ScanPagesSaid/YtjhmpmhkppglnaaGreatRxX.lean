/- The symbolic executor 'Rx', part X: a region that draws its order, as the executor goes through it. By an AI agent. -/
import Derived.Test.YtjhmpmhkppglnaaGreatRxW
set_option linter.unusedVariables false
set_option linter.unusedSimpArgs false
namespace Go.Rx
section
variable {E : Env} {ν : Val} {M : Own} {w0 w : World} {s s' : SH}
variable {ops : Array Oper} {rem pend L : List Nat} {lag : List (Nat × Nat)} {M1 : Own} {w1 : World} {tm : STm} {a z : Array Value}

theorem nbeq {i j : Nat} (h : i ≠ j) : (!Nat.beq i j) = true := by
  cases hb : Nat.beq i j
  · rfl
  · exact absurd (Nat.eq_of_beq_eq_true hb) h

theorem STm.get_lt {t : Nat} (h : Nat.blt t tm.nt = true) : tm.get t = tm.T.get t := by unfold STm.get; rw [h]; rfl

theorem wanted_ok {o : Oper} {b : Bool} (h : wanted ops tm o E s = some (b, s')) (ht : TmR ν tm a) : s.Same s' ∧ (s'.ob → s.ob ∧ Region.wanted o (yielded ops a) = b) := by
  unfold wanted at h
  unfold Region.wanted
  split at h
  · rename_i hg
    cases h
    rw [hg]
    exact ⟨.refl _, fun ob => ⟨ob, rfl⟩⟩
  · rename_i j want hg
    rw [hg]
    simp only
    split at h
    · rename_i d hd
      cases hb : Nat.blt d tm.nt
      · rw [hb] at h; cases h
      · rw [hb] at h
        simp only [cond_true] at h
        have hv := ht.at d
        have hlt : d < a.size := by rw [ht.size]; exact blt_iff.1 hb
        have hy : yielded ops a j = match a.getD d undef with | .bool b => some b | _ => none := by
          unfold yielded
          rw [hd]
          simp only [Option.bind_some, Array.getD_eq_getD_getElem?, Array.getElem?_eq_getElem hlt, Option.getD_some]
          cases a[d] <;> rfl
        split at h
        · rename_i t htm
          rw [htm] at hv
          rw [VR.v_iff.1 hv] at hy
          cases hdec : s.dec E t with
          | mk t' s1 =>
            rw [hdec] at h
            cases h
            obtain ⟨hsame, hob⟩ := SH.dec_ok hdec
            refine ⟨hsame, fun ob => ⟨(hob ob).1, ?_⟩⟩
            rw [hy, (hob ob).2]
            cases t' <;> cases want <;> rfl
        · rename_i vs htm
          rw [htm] at hv
          rw [VR.v_iff.1 hv] at hy
          cases h
          refine ⟨.refl _, fun ob => ⟨ob, ?_⟩⟩
          rw [hy]; cases want <;> rfl
        · cases h
    · cases h

/-- What is asked of a value that went ahead. -/
theorem sFree_ok {o : Oper} {x : SV} (hf : floats o.op = true) (h : sFree E ops tm o s = some (x, s')) (hr : HR ν M w0 s w) (hg : GR ν E) (ht : TmR ν tm z) :
    (∀ d, o.dst = some d → d < z.size) ∧ s.Same s' ∧ x.solid = true ∧ (s'.ob → s.ob ∧ ∃ y, VR ν x y ∧
      (Region.wanted o (yielded ops z) = true → (execOp (ev z) o).run E.P w = .ok (.value y) w ∧ (looks o.op = false → ∀ w, (execOp (ev z) o).run E.P w = .ok (.value y) w)) ∧
      (Region.wanted o (yielded ops z) = false → y = undef)) := by
  unfold sFree at h
  obtain ⟨u, h0, h⟩ := Option.bind_eq_some_iff.1 h
  have h0 := guard_ok h0
  refine ⟨fun d hd => ?_, ?_⟩
  · rw [hd] at h0; rw [ht.size]; exact blt_iff.1 h0
  cases hw : wanted ops tm o E s with
  | none => rw [hw] at h; cases h
  | some r =>
  obtain ⟨b, s1⟩ := r
  rw [hw] at h
  obtain ⟨hsame, hob⟩ := wanted_ok hw ht
  have h : (bif b then match sOpF E tm o s1 with
      | some [(.val x, s)] => bif x.solid then some (x, s) else none
      | _ => none
    else some (.v undef, s1)) = some (x, s') := h
  cases b
  · cases h
    exact ⟨hsame, rfl, fun ob => ⟨(hob ob).1, undef, VR.v_iff.2 rfl, fun hc => (by rw [(hob ob).2] at hc; cases hc), fun _ => rfl⟩⟩
  · simp only [cond_true] at h
    split at h
    · rename_i x1 s2 hop
      cases hs : x1.solid
      · rw [hs] at h; cases h
      · rw [hs] at h; cases h
        obtain ⟨hs2, hq⟩ := sQuiet_ok hf hop (hr.same hsame) (ht.opd hg)
        refine ⟨hsame.trans hs2, hs, fun ob => ?_⟩
        obtain ⟨ob1, ⟨y, hy, hv⟩, hall⟩ := hq ob
        refine ⟨(hob ob1).1, y, hv, fun _ => ⟨hy, fun hl w' => ?_⟩, fun hc => by rw [(hob ob1).2] at hc; cases hc⟩
        obtain ⟨y', hy', hv'⟩ := hall hl w'
        rw [VR.func1 x y y' hs hv hv']; exact hy'
    · cases h

theorem wanted_put {q : Oper} {d : Nat} {y : Value} (h : d ∉ guardSlot ops q) : Region.wanted q (yielded ops (z.setIfInBounds d y)) = Region.wanted q (yielded ops z) := by
  unfold Region.wanted
  cases hg : q.guard with
  | none => rfl
  | some jw =>
    obtain ⟨j, want⟩ := jw
    simp only
    have : yielded ops (z.setIfInBounds d y) j = yielded ops z j := by
      unfold yielded
      cases hj : (ops[j]?).bind (·.dst) with
      | none => rfl
      | some t =>
        have ht : t ∈ guardSlot ops q := by unfold guardSlot; rw [hg]; simp [hj]
        have hne : d ≠ t := fun e => h (e ▸ ht)
        simp only [Option.bind_some, Array.getElem?_setIfInBounds, if_neg hne]
    rw [this]

theorem execOp_put {q : Oper} {d : Nat} {y : Value} (hns : ∀ cs b, q.op ≠ .select cs b) (h : ∀ x ∈ q.op.operands, x ≠ .tmp d) : execOp (ev (z.setIfInBounds d y)) q = execOp (ev z) q := by
  refine Go.execOp_congr q hns fun x hx => ?_
  cases x with
  | tmp t => exact getD_set_other (fun e => h _ hx (by rw [e]))
  | const v => rfl
  | global g => rfl
  | func f => rfl

theorem Runs.put {q : Oper} {d : Nat} {y : Value} (r : Runs E ops q z w) (hns : ∀ cs b, q.op ≠ .select cs b) (h1 : ∀ x ∈ q.op.operands, x ≠ .tmp d) (h2 : q.dst ≠ some d) (h3 : d ∉ guardSlot ops q) :
    Runs E ops q (z.setIfInBounds d y) w := by
  unfold Runs at r ⊢
  rw [wanted_put h3, execOp_put hns h1]
  refine ⟨fun hw => ?_, fun hw t ht => ?_⟩
  · obtain ⟨v, hv, hd⟩ := r.1 hw
    refine ⟨v, hv, fun t ht => ?_⟩
    rw [getD_set_other (fun e => h2 (by rw [← e]; exact ht))]; exact hd t ht
  · rw [getD_set_other (fun e => h2 (by rw [← e]; exact ht))]; exact r.2 hw t ht

theorem Runs.putA {q o : Oper} {y : Value} (r : Runs E ops q z w) (hns : ∀ cs b, q.op ≠ .select cs b)
    (h : ∀ d, o.dst = some d → (∀ x ∈ q.op.operands, x ≠ .tmp d) ∧ q.dst ≠ some d ∧ d ∉ guardSlot ops q) : Runs E ops q (putA z o y) w := by
  unfold Go.Rx.putA
  cases hd : o.dst with
  | none => exact r
  | some d => obtain ⟨h1, h2, h3⟩ := h d hd; exact r.put hns h1 h2 h3

theorem putA_size {o : Oper} {y : Value} : (putA z o y).size = z.size := by unfold putA; cases o.dst <;> simp

/-- An operation goes ahead of its turn. -/
theorem Drw.float {i : Nat} {o : Oper} {x : SV} (d : Drw E ν M1 w1 ops rem pend lag L tm a z) (hst : StabS E ν s ops pend z) (hi : i ∈ rem) (hfree : Go.Rx.free ops (Region.before ops) i = true) (hready : ready (Region.before ops) rem i = true)
    (ho : ops[i]? = some o) (h : sFree E ops tm o s = some (x, s')) (hr : HR ν M w0 s w) (hg : GR ν E) :
    s.Same s' ∧ (s'.ob → s.ob ∧ ∃ z', Drw E ν M1 w1 ops (rem.filter fun j => !Nat.beq j i) (i :: pend) lag L (putDst tm o x) a z' ∧ StabS E ν s' ops (i :: pend) z') := by
  obtain ⟨o', ho', hfl, hfr⟩ := free_ok hfree
  rw [ho] at ho'; cases ho'
  have hil : ∀ q ∈ lag, q.1 ≠ i := by
    intro q hq e
    obtain ⟨o2, d2, so2, r2, g1, g2, g3, g4, _⟩ := d.lagged q hq
    rw [e, ho] at g1; cases g1
    obtain ⟨_, _, hop, _⟩ := lateSO_ok g4
    rw [hop] at hfl; cases hfl
  have hiL : i ∈ L := by
    rcases d.remL i hi with h1 | h1
    · exact h1
    · obtain ⟨q, hq, e⟩ := List.mem_map.1 h1
      exact absurd e (hil q hq)
  obtain ⟨hlt, hsame, hsol, hob⟩ := sFree_ok hfl h hr hg d.tm
  refine ⟨hsame, fun ob => ?_⟩
  obtain ⟨ob1, y, hv, hrun, hnot⟩ := hob ob
  refine ⟨ob1, putA z o y, ?_⟩
  have hself : ∀ (w' : World), (Region.wanted o (yielded ops z) = true → (execOp (ev z) o).run E.P w' = .ok (.value y) w') → Runs E ops o (putA z o y) w' := by
    intro w' hw'
    obtain ⟨hns, _⟩ := floats_no_select hfl
    unfold Runs
    have e1 : Region.wanted o (yielded ops (putA z o y)) = Region.wanted o (yielded ops z) := by
      unfold putA
      cases hd : o.dst with
      | none => rfl
      | some t => exact wanted_put (hfr t hd).2.1
    have e2 : execOp (ev (putA z o y)) o = execOp (ev z) o := by
      unfold putA
      cases hd : o.dst with
      | none => rfl
      | some t => exact execOp_put hns (hfr t hd).1
    have e3 : ∀ t, o.dst = some t → (putA z o y).getD t undef = y := by
      intro t ht
      unfold putA; rw [ht]; exact getD_set_self (hlt t ht)
    rw [e1, e2]
    exact ⟨fun hw => ⟨y, hw' hw, fun t ht => (e3 t ht).symm⟩, fun hw t ht => by rw [e3 t ht, hnot hw]⟩
  have hothers : ∀ p ∈ pend, ∀ q, ops[p]? = some q → ∀ w', Runs E ops q z w' → Runs E ops q (putA z o y) w' := by
    intro p hp q hq w' r
    obtain ⟨q', hq', hflq, _⟩ := free_ok (d.free p hp)
    rw [hq] at hq'; cases hq'
    refine r.putA (floats_no_select hflq).1 fun t ht => ?_
    have hne : p ≠ i := fun e => d.disj i hi (e ▸ hp)
    rcases (hfr t ht).2.2 p q hne hq with hb | hb
    · rw [d.preds p hp i hi] at hb; cases hb
    · exact hb
  constructor
  · refine ⟨d.nodup, d.ord, d.irr, d.lt, fun j hj => d.remL j (List.mem_filter.1 hj).1, fun j hj => ?_, fun j hj hm => ?_, fun p hp => ?_, fun p hp j hj => ?_, d.tm.putDst o hv, ?_, fun t ht htl => ?_, fun p hp q hq hl w' => ?_, fun q hq => List.mem_filter.2 ⟨d.lagrem q hq, nbeq (hil q hq)⟩, d.lagL, d.lagirr, d.lagged, d.lagnd, d.lagord⟩
    · rcases d.sub j hj with h1 | h1
      · by_cases e : j = i
        · exact .inr (e ▸ List.mem_cons_self)
        · exact .inl (List.mem_filter.2 ⟨h1, nbeq e⟩)
      · exact .inr (List.mem_cons_of_mem _ h1)
    · obtain ⟨h1, h2⟩ := List.mem_filter.1 hj
      rcases List.mem_cons.1 hm with e | e
      · rw [e] at h2; simp at h2
      · exact d.disj j h1 e
    · rcases List.mem_cons.1 hp with e | e
      · rw [e]; exact hfree
      · exact d.free p e
    · obtain ⟨h1, h2⟩ := List.mem_filter.1 hj
      rcases List.mem_cons.1 hp with e | e
      · subst e
        have := List.all_eq_true.1 hready j h1
        simpa using this
      · exact d.preds p e j h1
    · rw [putA_size]; exact d.size
    · have h1 : a.getD t undef = z.getD t undef := d.agree t (fun p hp hpp q hq => ht p hp (List.mem_cons_of_mem _ hpp) q hq) htl
      have h2 : o.dst ≠ some t := ht i hiL List.mem_cons_self o ho
      rw [h1]
      unfold putA
      cases hd : o.dst with
      | none => rfl
      | some u => rw [getD_set_other (fun e => h2 (by rw [hd, e]))]
    · rcases List.mem_cons.1 hp with e | e
      · subst e
        rw [ho] at hq; cases hq
        exact hself w' fun hw => (hrun hw).2 hl w'
      · exact hothers p e q hq w' (d.pure p e q hq hl w')
  · intro M' w0' w' hr' p hp q hq
    have hr' := hr'.same hsame.symm
    rcases List.mem_cons.1 hp with e | e
    · subst e
      rw [ho] at hq; cases hq
      obtain ⟨_, _, _, hob'⟩ := sFree_ok hfl h hr' hg d.tm
      obtain ⟨_, y', hv', hrun', _⟩ := hob' ob
      refine hself w' fun hw => ?_
      rw [VR.func1 x y y' hsol hv hv']
      exact (hrun' hw).1
    · exact hothers p e q hq w' (hst _ _ _ hr' p e q hq)

/-- An operation that does not go ahead stands next. -/
theorem Drw.narrow {e : Nat} (d : Drw E ν M1 w1 ops rem pend lag (e :: L) tm a z) (he : e ∈ rem) :
    Drw E ν M1 w1 ops (e :: rem.filter fun j => !Nat.beq j e) (pend.filter fun p => !(((Region.before ops).getD e 0).testBit p)) lag (e :: L) tm a z := by
  have hsub : ∀ p ∈ L, p ∈ pend → p ∈ pend.filter fun p => !(((Region.before ops).getD e 0).testBit p) := by
    intro p hp hpp
    refine List.mem_filter.2 ⟨hpp, ?_⟩
    rw [(List.pairwise_cons.1 d.ord).1 p hp]; rfl
  have hrem : ∀ i, i ∈ (e :: rem.filter fun j => !Nat.beq j e) ↔ i ∈ rem := by
    intro i
    rw [List.mem_cons, List.mem_filter]
    constructor
    · rintro (h | h)
      · exact h ▸ he
      · exact h.1
    · intro h
      by_cases hi : i = e
      · exact .inl hi
      · exact .inr ⟨h, nbeq hi⟩
  refine ⟨d.nodup, d.ord, d.irr, d.lt, fun i hi => d.remL i ((hrem i).1 hi), fun i hi => ?_, fun i hi hm => d.disj i ((hrem i).1 hi) (List.mem_filter.1 hm).1, fun p hp => d.free p (List.mem_filter.1 hp).1,
    fun p hp j hj => d.preds p (List.mem_filter.1 hp).1 j ((hrem j).1 hj), d.tm, d.size, fun t ht htl => d.agree t (fun p hp hpp q hq => ?_) htl, fun p hp => d.pure p (List.mem_filter.1 hp).1, fun q hq => (hrem q.1).2 (d.lagrem q hq), d.lagL, d.lagirr, d.lagged, d.lagnd, d.lagord⟩
  · rcases d.sub i hi with h | h
    · exact .inl ((hrem i).2 h)
    · rcases List.mem_cons.1 hi with h1 | h1
      · exact .inl (h1 ▸ List.mem_cons_self)
      · exact .inr (hsub i h1 h)
  · rcases List.mem_cons.1 hp with h1 | h1
    · exact absurd hpp (d.disj p (h1 ▸ he))
    · exact ht p hp (hsub p h1 hpp) q hq

theorem unnamed_ok {o : Oper} (h : unnamed ops pend o = true) {d : Nat} (hd : o.dst = some d) {p : Nat} (hp : p ∈ pend) {q : Oper} (hq : ops[p]? = some q) :
    (∀ x ∈ q.op.operands, x ≠ .tmp d) ∧ q.dst ≠ some d ∧ d ∉ guardSlot ops q := by
  unfold unnamed at h
  rw [hd] at h
  have h1 := List.all_eq_true.1 h p hp
  rw [hq] at h1
  simp only [Bool.not_eq_true', Bool.or_eq_false_iff] at h1
  obtain ⟨h2, h3⟩ := h1
  refine ⟨fun x hx e => ?_, fun e => ?_, fun hm => ?_⟩
  · subst e
    have : d ∈ namesOf q := List.mem_append_right _ (List.mem_filterMap.2 ⟨_, by simpa using hx, rfl⟩)
    rw [← List.contains_iff_mem] at this
    rw [this] at h2; cases h2
  · have : d ∈ namesOf q := List.mem_append_left _ (by simp [e])
    rw [← List.contains_iff_mem] at this
    rw [this] at h2; cases h2
  · rw [← List.contains_iff_mem] at hm
    rw [hm] at h3; cases h3

/-- That operation is done. -/
theorem Drw.done {e : Nat} {o : Oper} {x : SV} {y : Value} (d : Drw E ν M1 w1 ops (e :: rem) pend lag (e :: L) tm a z) (ho : ops[e]? = some o) (hn : (e :: rem).Nodup ∨ e ∉ rem) (hu : unnamed ops pend o = true) (hv : VR ν x y) (hnl : NoLag ops lag e) :
    Drw E ν M1 w1 ops rem pend lag L (putDst tm o x) (putA a o y) (putA z o y) := by
  have her : e ∉ rem := by rcases hn with h | h; exact (List.nodup_cons.1 h).1; exact h
  have hep : e ∉ pend := d.disj e List.mem_cons_self
  refine ⟨(List.nodup_cons.1 d.nodup).2, (List.pairwise_cons.1 d.ord).2, fun i hi => d.irr i (List.mem_cons_of_mem _ hi), fun i hi => d.lt i (List.mem_cons_of_mem _ hi), fun i hi => ?_, fun i hi => ?_,
    fun i hi => d.disj i (List.mem_cons_of_mem _ hi), d.free, fun p hp j hj => d.preds p hp j (List.mem_cons_of_mem _ hj), d.tm.putDst o hv, by rw [putA_size, putA_size]; exact d.size, fun t ht htl => ?_, fun p hp q hq hl w' => ?_, fun q hq => ?_, fun q hq hm => d.lagL q hq (List.mem_cons_of_mem _ hm), d.lagirr, fun q hq => (d.lagged q hq).put fun o1 t h1 h2 => ?_, d.lagnd, fun q hq p hp => d.lagord q hq p (List.mem_cons_of_mem _ hp)⟩
  · rcases d.remL i (List.mem_cons_of_mem _ hi) with h | h
    · rcases List.mem_cons.1 h with h | h
      · exact absurd (h ▸ hi) her
      · exact .inl h
    · exact .inr h
  · rcases d.sub i (List.mem_cons_of_mem _ hi) with h | h
    · rcases List.mem_cons.1 h with h1 | h1
      · exact absurd (h1 ▸ hi) (List.nodup_cons.1 d.nodup).1
      · exact .inl h1
    · exact .inr h
  · have hat : a.getD t undef = z.getD t undef := d.agree t (fun p hp hpp q hq => by
      rcases List.mem_cons.1 hp with h | h
      · exact absurd (h ▸ hpp) hep
      · exact ht p h hpp q hq) htl
    unfold putA
    cases hd : o.dst with
    | none => exact hat
    | some u =>
      simp only
      by_cases et : t = u
      · subst et
        by_cases hs : t < a.size
        · rw [getD_set_self hs, getD_set_self (by rw [← d.size]; exact hs)]
        · have h1 : a.size ≤ t := Nat.not_lt.mp hs
          have h2 : z.size ≤ t := by rw [← d.size]; exact h1
          rw [Array.getD_eq_getD_getElem?, Array.getElem?_eq_none (by simpa using h1), Array.getD_eq_getD_getElem?, Array.getElem?_eq_none (by simpa using h2)]
      · rw [getD_set_other et, getD_set_other et]; exact hat
  · obtain ⟨q', hq', hflq, _⟩ := free_ok (d.free p hp)
    rw [hq] at hq'; cases hq'
    exact (d.pure p hp q hq hl w').putA (floats_no_select hflq).1 fun t ht => unnamed_ok hu ht hp hq
  · rcases List.mem_cons.1 (d.lagrem q hq) with h | h
    · exact absurd (h ▸ List.mem_cons_self) (d.lagL q hq)
    · exact h
  · have hne : e ≠ q.1 := fun h => d.lagL q hq (h ▸ List.mem_cons_self)
    exact (d.lagslot hq h1 h2 hne (hnl q hq) ho).2.1

/-- A hidden block is hidden no more. -/
def Own.show (M : Own) (B : Nat) : Own := ⟨fun b => M b ∨ b = B, M.r, M.h⟩

theorem HR.show (h : HR ν M1 w1 s w) {B : Nat} {r : Obj} (hB : Hidden M1 w1 B r) (hroom : s.room = true) {so : SO} (hor : ∀ ν i, OR ν i so r) :
    ν.Le (ν.put s.nx (B, 0)) ∧ HR (ν.put s.nx (B, 0)) (M1.show B) w1 (s.new so) w := by
  obtain ⟨hB1, hB2, hB3, hB4⟩ := hB
  have hlt : B < w1.heap.size := (Array.getElem?_eq_some_iff.1 hB1).1
  have h' : HR ν (M1.show B) w1 s w := ⟨h.full, h.dom, h.fresh, fun i hi x hx => let ⟨b, o, h1, h2, h3, h4⟩ := h.obj i hi x hx; ⟨b, o, h1, h2, h3, fun e => (h4 e).imp id .inl⟩, h.inj, h.size, fun b hb hM => h.frame b hb fun hc => hM (.inl hc), h.ro, h.os, h.tape, h.output⟩
  refine h'.adopt hroom 0 (.inr (.inr rfl)) (fun j hj hn b hb e => ?_) (hor _ _) (by rw [h.frame B hlt hB2, hB1]) (fun _ _ => rfl) h.size rfl rfl rfl
  cases hx : s.H.get j with
  | none => exact hn hx
  | some x =>
    obtain ⟨b', o', h1, h2, _, h4⟩ := h.obj j hj x hx
    rw [hb] at h1; cases h1
    cases hf : x.2
    · exact hB3 (e ▸ h.ro j hj x hx hf b hb)
    · rcases h4 hf with h4 | h4
      · omega
      · exact hB2 (e ▸ h4)

theorem Base.show {M : Own} {w0 : World} (B : Base M w0 M1 w1) {b0 : Nat} {r : Obj} (hB : Hidden M1 w1 b0 r) : Base M w0 (M1.show b0) w1 := by
  refine ⟨B.size, B.os, B.tape, B.output, fun b hb hM => ⟨(B.frame b hb hM).1, fun hc => ?_⟩, fun b hb => ?_, B.ro, B.hid, B.rlt⟩
  · rcases hc with hc | hc
    · exact (B.frame b hb hM).2 hc
    · subst hc
      rcases B.hid b hB.2.2.2 with h | h
      · omega
      · exact hM h
  · rcases hb with hb | hb | hb
    · exact B.own b (.inl hb)
    · exact B.own b (.inr hb)
    · subst hb; exact B.hid b hB.2.2.2

theorem Hidden.show {b0 b : Nat} {r : Obj} (h : Hidden M1 w1 b r) (hne : b ≠ b0) : Hidden (M1.show b0) w1 b r :=
  ⟨h.1, fun hc => hc.elim h.2.1 hne, h.2.2.1, h.2.2.2⟩

/-- An allocation that the machine has carried out already. -/
theorem Drw.adopt {e B : Nat} {o : Oper} {i : Nat} {ν' : Val} (d : Drw E ν M1 w1 ops rem pend lag L tm a z) (hle : ν.Le ν') (he : (e, B) ∈ lag) (ho : ops[e]? = some o)
    (hu : unnamed ops (pend.filter fun p => !(((Region.before ops).getD e 0).testBit p)) o = true) (hi : ν' i = some (B, 0)) (hbl : ∀ q ∈ lag, q.1 ≠ e → q.2 ≠ B) :
    Drw E ν' (M1.show B) w1 ops (rem.filter fun j => !Nat.beq j e) (pend.filter fun p => !(((Region.before ops).getD e 0).testBit p)) (lag.filter fun q => !Nat.beq q.1 e) L (putDst tm o (.ptr i 0)) a (putA z o (.pointer (some ⟨B, 0, none⟩))) := by
  obtain ⟨o1, t, so, r, g1, g2, g3, g4, g5, g6, g7⟩ := d.lagged _ he
  rw [ho] at g1; cases g1
  have d' := d.mono hle
  have hlag : ∀ q, q ∈ lag.filter (fun q => !Nat.beq q.1 e) → q ∈ lag ∧ q.1 ≠ e := by
    intro q hq
    obtain ⟨h1, h2⟩ := List.mem_filter.1 hq
    exact ⟨h1, fun e' => by rw [e'] at h2; simp at h2⟩
  have hpf : ∀ p, p ∈ pend.filter (fun p => !(((Region.before ops).getD e 0).testBit p)) → p ∈ pend := fun p hp => (List.mem_filter.1 hp).1
  have hfp : ∀ p ∈ L, p ∈ pend → p ∈ pend.filter (fun p => !(((Region.before ops).getD e 0).testBit p)) := fun p hp hpp => List.mem_filter.2 ⟨hpp, by rw [d.lagord _ he p hp]; rfl⟩
  refine ⟨d.nodup, d.ord, d.irr, d.lt, fun j hj => ?_, fun j hj => ?_, fun j hj hm => d.disj j (List.mem_filter.1 hj).1 (hpf j hm), fun p hp => d.free p (hpf p hp), fun p hp j hj => d.preds p (hpf p hp) j (List.mem_filter.1 hj).1,
    d'.tm.putDst o (VR.ptr_iff.2 ⟨_, hi, rfl⟩), by rw [putA_size]; exact d.size, fun u hu hul => ?_, fun p hp q hq hl w' => ?_, fun q hq => ?_, fun q hq => d.lagL q (hlag q hq).1, fun q hq => d.lagirr q (hlag q hq).1, fun q hq => ?_, ?_, fun q hq => d.lagord q (hlag q hq).1⟩
  · obtain ⟨h1, h2⟩ := List.mem_filter.1 hj
    rcases d.remL j h1 with h | h
    · exact .inl h
    · obtain ⟨q, hq, e'⟩ := List.mem_map.1 h
      exact .inr (List.mem_map.2 ⟨q, List.mem_filter.2 ⟨hq, by rw [e']; exact h2⟩, e'⟩)
  · rcases d.sub j hj with h | h
    · refine .inl (List.mem_filter.2 ⟨h, nbeq fun e' => ?_⟩)
      exact d.lagL _ he (e' ▸ hj)
    · exact .inr (hfp j hj h)
  · unfold putA
    rw [g3]
    simp only
    by_cases et : u = t
    · subst et
      have hs : u < z.size := by
        rw [← d.size]
        refine Nat.not_le.1 fun hle => ?_
        rw [Array.getD_eq_getD_getElem?, Array.getElem?_eq_none hle] at g7
        cases g7
      rw [getD_set_self hs]; exact g7
    · rw [getD_set_other et]
      refine d.agree u (fun p hp hpp => hu p hp (hfp p hp hpp)) fun q hq o2 ho2 e2 => ?_
      by_cases hqe : q.1 = e
      · rw [hqe, ho] at ho2; cases ho2
        rw [g3] at e2; exact et (Option.some.inj e2).symm
      · exact hul q (List.mem_filter.2 ⟨hq, nbeq hqe⟩) o2 ho2 e2
  · obtain ⟨q', hq', hflq, _⟩ := free_ok (d.free p (hpf p hp))
    rw [hq] at hq'; cases hq'
    exact (d.pure p (hpf p hp) q hq hl w').putA (floats_no_select hflq).1 fun t ht => unnamed_ok hu ht hp hq
  · exact List.mem_filter.2 ⟨d.lagrem q (hlag q hq).1, nbeq (hlag q hq).2⟩
  · exact (d.lagged q (hlag q hq).1).rebase fun r h => h.show (hbl q (hlag q hq).1 (hlag q hq).2)
  · exact d.lagnd.sublist (List.Sublist.map _ List.filter_sublist)

/-- Recheck: what went ahead is so in this world. -/
theorem recheck_ok (hr : HR ν M w0 s w) (hg : GR ν E) (ht : TmR ν tm z) : ∀ {pend : List Nat} {s s' : SH}, HR ν M w0 s w → recheck E ops tm pend s = some s' → (∀ p ∈ pend, free ops (Region.before ops) p = true) →
    (∀ p ∈ pend, ∀ o, ops[p]? = some o → looks o.op = false → ∀ w, Runs E ops o z w) → s.Same s' ∧ (s'.ob → s.ob ∧ Stab E ops pend z w) := by
  intro pend
  induction pend with
  | nil => intro s s' hr h _ _; cases h; exact ⟨.refl _, fun ob => ⟨ob, by intro p hp; cases hp⟩⟩
  | cons p ps ih =>
    intro s s' hr h hf hp
    unfold recheck at h
    cases ho : ops[p]? with
    | none => rw [ho] at h; cases h
    | some o =>
      rw [ho] at h
      simp only at h
      cases hl : looks o.op
      · rw [hl] at h
        simp only [cond_false] at h
        obtain ⟨hsame, hob⟩ := ih hr h (fun q hq => hf q (List.mem_cons_of_mem _ hq)) (fun q hq => hp q (List.mem_cons_of_mem _ hq))
        refine ⟨hsame, fun ob => ⟨(hob ob).1, fun q hq o' ho' => ?_⟩⟩
        rcases List.mem_cons.1 hq with e | e
        · subst e
          rw [ho] at ho'; cases ho'
          exact hp q List.mem_cons_self o ho hl w
        · exact (hob ob).2 q e o' ho'
      · rw [hl] at h
        simp only [cond_true] at h
        cases h1 : sFree E ops tm o s with
        | none => rw [h1] at h; cases h
        | some r =>
        obtain ⟨x, s1⟩ := r
        rw [h1] at h
        cases hd : o.dst with
        | none => rw [hd] at h; cases h
        | some d =>
        rw [hd] at h
        have h : ((svEq E (tm.get d) x s1).bind fun s => recheck E ops tm ps s) = some s' := h
        cases h2 : svEq E (tm.get d) x s1 with
        | none => rw [h2] at h; cases h
        | some s2 =>
        rw [h2] at h
        have h : recheck E ops tm ps s2 = some s' := h
        obtain ⟨o', ho', hfl, _⟩ := free_ok (hf p List.mem_cons_self)
        rw [ho] at ho'; cases ho'
        obtain ⟨_, hsame1, hsol, hob1⟩ := sFree_ok hfl h1 hr hg ht
        obtain ⟨hsame2, hob2⟩ := svEq_ok h2
        obtain ⟨hsame3, hob3⟩ := ih (hr.same (hsame1.trans hsame2)) h (fun q hq => hf q (List.mem_cons_of_mem _ hq)) (fun q hq => hp q (List.mem_cons_of_mem _ hq))
        refine ⟨(hsame1.trans hsame2).trans hsame3, fun ob => ?_⟩
        obtain ⟨ob2, hst⟩ := hob3 ob
        obtain ⟨ob1, heq⟩ := hob2 ob2
        obtain ⟨ob0, y, hv, hrun, hnot⟩ := hob1 ob1
        refine ⟨ob0, fun q hq o' ho' => ?_⟩
        rcases List.mem_cons.1 hq with e | e
        · subst e
          rw [ho] at ho'; cases ho'
          have hvz := ht.at d
          rw [heq] at hvz
          have hyz : y = z.getD d undef := VR.func1 x _ _ hsol hv hvz
          refine ⟨fun hw => ⟨y, (hrun hw).1, fun t et => ?_⟩, fun hw t et => ?_⟩
          · rw [hd] at et; cases et; exact hyz
          · rw [hd] at et; cases et; rw [← hyz, hnot hw]
        · exact hst q e o' ho'

end
end Go.Rx
