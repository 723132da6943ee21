/- The symbolic executor 'Rx', part W: a region that draws its order, carried out. By an AI agent. -/
import Derived.Test.YtjhmpmhkppglnaaGreatRxV
set_option linter.unusedVariables false
set_option linter.unusedSimpArgs false
namespace Go.Rx
section
variable {E : Env} {ν : Val} {M : Own} {w0 w : World} {s s' : SH}
variable {ops : Array Oper} {rem pend L : List Nat} {lag : List (Nat × Nat)} {tm : STm} {a z : Array Value}

/-- No allocation that was carried out ahead comes ahead of this operation. -/
def NoLag (ops : Array Oper) (lag : List (Nat × Nat)) (h : Nat) : Prop := ∀ q ∈ lag, ((Region.before ops).getD h 0).testBit q.1 = false

/-- The slot of such an allocation is named by no operation that does not come behind it. -/
theorem Drw.lagslot (d : Drw E ν M w0 ops rem pend lag L tm a z) {q : Nat × Nat} (hq : q ∈ lag) {o1 : Oper} (ho1 : ops[q.1]? = some o1) {t : Nat} (ht : o1.dst = some t) {h : Nat} (hne : h ≠ q.1) (hb : ((Region.before ops).getD h 0).testBit q.1 = false)
    {o : Oper} (ho : ops[h]? = some o) : (∀ x ∈ o.op.operands, x ≠ .tmp t) ∧ o.dst ≠ some t ∧ t ∉ guardSlot ops o := by
  obtain ⟨o2, d2, so, r, h1, h2, h3, _⟩ := d.lagged q hq
  obtain ⟨o3, so3, d3, h4, _, _, h5, _, h6⟩ := late_ok h2
  rw [ho1] at h1 h4; cases h1; cases h4
  rw [ht] at h5; cases h5
  rcases h6 h o hne ho with hx | hx
  · rw [hb] at hx; cases hx
  · exact hx

/-- What the next operation names, the machine has as it would. -/
theorem Drw.named {h : Nat} (d : Drw E ν M w0 ops rem pend lag (h :: L) tm a z) (hl : NoLag ops lag h) {o : Oper} (ho : ops[h]? = some o) {t : Nat} (ht : Operand.tmp t ∈ o.op.operands ∨ t ∈ guardSlot ops o) :
    a.getD t undef = z.getD t undef := by
  refine d.agree t (fun p hp hpp q hq e => ?_) (fun q hq o1 ho1 e => ?_)
  · obtain ⟨q', hq', _, hf⟩ := free_ok (d.free p hpp)
    rw [hq] at hq'; cases hq'
    obtain ⟨h1, h2, h3⟩ := hf t e
    by_cases hph : p = h
    · subst hph
      rw [hq] at ho; cases ho
      rcases ht with ht | ht
      · exact h1 _ ht rfl
      · exact h2 ht
    · rcases h3 h o (fun e => hph e.symm) ho with hb | ⟨h4, _, h6⟩
      · have hpL : p ∈ L := by
          rcases List.mem_cons.1 hp with e | e
          · exact absurd e hph
          · exact e
        have := (List.pairwise_cons.1 d.ord).1 p hpL
        rw [this] at hb; cases hb
      · rcases ht with ht | ht
        · exact h4 _ ht rfl
        · exact h6 ht
  · have hne : h ≠ q.1 := fun e => d.lagL q hq (e ▸ List.mem_cons_self)
    obtain ⟨h1, _, h3⟩ := d.lagslot hq ho1 e hne (hl q hq) ho
    rcases ht with ht | ht
    · exact h1 _ ht rfl
    · exact h3 ht

theorem Drw.opds {h : Nat} (d : Drw E ν M w0 ops rem pend lag (h :: L) tm a z) (hl : NoLag ops lag h) {o : Oper} (ho : ops[h]? = some o) : ∀ x ∈ o.op.operands, ev a x = ev z x := by
  intro x hx
  cases x with
  | tmp t => exact d.named hl ho (.inl hx)
  | const v => rfl
  | global g => rfl
  | func f => rfl

theorem getElem?_of_getD {a z : Array Value} (hs : a.size = z.size) {t : Nat} (h : a.getD t undef = z.getD t undef) : a[t]? = z[t]? := by
  by_cases ht : t < a.size
  · rw [Array.getElem?_eq_getElem ht, Array.getElem?_eq_getElem (by omega)]
    rw [Array.getD_eq_getD_getElem?, Array.getD_eq_getD_getElem?, Array.getElem?_eq_getElem ht, Array.getElem?_eq_getElem (by omega)] at h
    simpa using h
  · rw [Array.getElem?_eq_none (by omega), Array.getElem?_eq_none (by omega)]

theorem Drw.wanted {h : Nat} (d : Drw E ν M w0 ops rem pend lag (h :: L) tm a z) (hl : NoLag ops lag h) {o : Oper} (ho : ops[h]? = some o) : Region.wanted o (yielded ops a) = Region.wanted o (yielded ops z) := by
  unfold Region.wanted
  cases hg : o.guard with
  | none => rfl
  | some jw =>
    obtain ⟨j, want⟩ := jw
    simp only
    have : yielded ops a j = yielded ops z j := by
      unfold yielded
      cases hj : (ops[j]?).bind (·.dst) with
      | none => rfl
      | some t =>
        have ht : t ∈ guardSlot ops o := by
          unfold guardSlot
          rw [hg]
          simp [hj]
        simp only [Option.bind_some, getElem?_of_getD d.size (d.named hl ho (.inr ht))]
    rw [this]

theorem floats_no_select {o : Oper} (h : floats o.op = true) : (∀ cs b, o.op ≠ .select cs b) ∧ ∀ c, o.op ≠ .defer c := by
  constructor
  · intro cs b e; rw [e] at h; cases h
  · intro c e; rw [e] at h; cases h

theorem putA_size' {o : Oper} {y : Value} : (putA a o y).size = a.size := by unfold putA; cases o.dst <;> simp

/-- A slot that is put turns no other. -/
theorem LagOK.put {q : Nat × Nat} (h : LagOK E M w0 ops a q) {o : Oper} {y : Value} (hs : ∀ o1 t, ops[q.1]? = some o1 → o1.dst = some t → o.dst ≠ some t) : LagOK E M w0 ops (putA a o y) q := by
  obtain ⟨o1, d, so, r, h1, h2, h3, h4, h5, h6, h7⟩ := h
  refine ⟨o1, d, so, r, h1, by rw [putA_size']; exact h2, h3, h4, h5, h6, ?_⟩
  rw [← h7]
  unfold putA
  cases hd : o.dst with
  | none => rfl
  | some u => exact getD_set_other (fun e => hs o1 d h1 h3 (by rw [hd, e]))

/-- The machine carries out one that went ahead. -/
theorem Drw.pending {h : Nat} (d : Drw E ν M w0 ops rem pend lag (h :: L) tm a z) (hp : h ∈ pend) (hst : Stab E ops pend z w) {b : Frame} {df : List Deferred} {k : List Item} {cs : List Frame} :
    ∃ a', step E.P (lone (b.atR ⟨a, df⟩ (.inRegion ops (h :: L) :: k)) cs w) = .next (lone (b.atR ⟨a', df⟩ (.inRegion ops L :: k)) cs w) ∧ Drw E ν M w0 ops rem pend lag L tm a' z := by
  obtain ⟨o, ho, hfl, _⟩ := free_ok (d.free h hp)
  obtain ⟨hns, hnd⟩ := floats_no_select hfl
  have hruns := hst h hp o ho
  have hl : NoLag ops lag h := fun q hq => d.preds h hp q.1 (d.lagrem q hq)
  have hw := d.wanted hl ho
  have hnotrem : h ∉ rem := fun hr => d.disj h hr hp
  -- what is put, and that then the two agree off what is left
  have close : ∀ y, (∀ t, o.dst = some t → y = z.getD t undef) → Drw E ν M w0 ops rem pend lag L tm (putA a o y) z := by
    intro y hy
    refine ⟨(List.nodup_cons.1 d.nodup).2, (List.pairwise_cons.1 d.ord).2, fun i hi => d.irr i (List.mem_cons_of_mem _ hi), fun i hi => d.lt i (List.mem_cons_of_mem _ hi), fun i hi => ?_, fun i hi => d.sub i (List.mem_cons_of_mem _ hi),
      d.disj, d.free, d.preds, d.tm, ?_, fun t ht htl => ?_, d.pure, d.lagrem, fun q hq hm => d.lagL q hq (List.mem_cons_of_mem _ hm), d.lagirr, fun q hq => (d.lagged q hq).put fun o1 t h1 h2 => ?_, d.lagnd, fun q hq p hp => d.lagord q hq p (List.mem_cons_of_mem _ hp)⟩
    · rcases d.remL i hi with h1 | h1
      · rcases List.mem_cons.1 h1 with rfl | h1
        · exact absurd hi hnotrem
        · exact .inl h1
      · exact .inr h1
    · rw [putA_size']; exact d.size
    · unfold putA
      cases hd : o.dst with
      | none =>
        refine d.agree t (fun p hp' hpp q hq e => ?_) htl
        rcases List.mem_cons.1 hp' with rfl | h1
        · rw [ho] at hq; cases hq; rw [hd] at e; cases e
        · exact ht p h1 hpp q hq e
      | some u =>
        by_cases etu : t = u
        · subst etu
          by_cases hsz : t < a.size
          · rw [getD_set_self hsz]; exact hy t hd
          · have h1 : a.size ≤ t := Nat.not_lt.mp hsz
            have h2 : z.size ≤ t := by rw [← d.size]; exact h1
            have h3 : (a.setIfInBounds t y).size ≤ t := by simpa using h1
            rw [Array.getD_eq_getD_getElem?, Array.getElem?_eq_none h3, Array.getD_eq_getD_getElem?, Array.getElem?_eq_none h2]
        · rw [getD_set_other etu]
          refine d.agree t (fun p hp' hpp q hq e => ?_) htl
          rcases List.mem_cons.1 hp' with rfl | h1
          · rw [ho] at hq; cases hq; rw [hd] at e; exact etu (Option.some.inj e).symm
          · exact ht p h1 hpp q hq e
    · have hne : h ≠ q.1 := fun e => d.lagL q hq (e ▸ List.mem_cons_self)
      exact (d.lagslot hq h1 h2 hne (hl q hq) ho).2.1
  cases hwb : Region.wanted o (yielded ops z)
  · -- not wanted
    refine ⟨putA a o undef, ?_, close undef (hruns.2 hwb)⟩
    have hs := stepR_op_skip (P := E.P) (b := b) (a := ⟨a, df⟩) (k := k) (cs := cs) (w := w) (ops := ops) (i := h) (rest := L) (by rw [ho]; simp [hw, hwb])
    rw [hs, ho]
    congr 3
    unfold putA Act.put
    simp only [Option.bind_some]
    cases o.dst <;> rfl
  · obtain ⟨y, hrun, hy⟩ := hruns.1 hwb
    refine ⟨putA a o y, ?_, close y hy⟩
    have hc : execOp (ev a) o = execOp (ev z) o := Go.execOp_congr o hns (d.opds hl ho)
    have hs := step_value (P := E.P) (b := b) (a := ⟨a, df⟩) (k := k) (cs := cs) (w := w) (ops := ops) (i := h) (rest := L) (w' := w) ho (by simp only; rw [hw, hwb]) (by
      rw [Oper.semAt_eq _ _ _ hnd, Act.eval_ev]
      simp only; rw [hc]; exact hrun)
    rw [hs]
    congr 3
    unfold putA Act.put
    cases o.dst <;> rfl

theorem Stab.sub {pend' : List Nat} (h : Stab E ops pend z w) (hs : ∀ p ∈ pend', p ∈ pend) : Stab E ops pend' z w := fun p hp o ho => h p (hs p hp) o ho

/-! ### where the blocks are reckoned from -/

/-- (M1, w1) says no less than (M, w0). -/
structure Base (M : Own) (w0 : World) (M1 : Own) (w1 : World) : Prop where
  size : w0.heap.size ≤ w1.heap.size
  os : w1.os = w0.os
  tape : w1.tape = w0.tape
  output : w1.output = w0.output
  frame : ∀ b, b < w0.heap.size → ¬ M b → w1.heap[b]? = w0.heap[b]? ∧ ¬ M1 b
  own : ∀ b, w1.heap.size ≤ b ∨ M1 b → w0.heap.size ≤ b ∨ M b
  ro : ∀ b, M1.r b ↔ M.r b
  hid : ∀ b, M1.h b → w0.heap.size ≤ b ∨ M b
  rlt : ∀ b, M1.r b → b < w1.heap.size

theorem Base.refl (h : ∀ b, M.r b → b < w0.heap.size) (hh : ∀ b, ¬ M.h b) : Base M w0 M w0 :=
  ⟨Nat.le_refl _, rfl, rfl, rfl, fun _ _ h => ⟨rfl, h⟩, fun _ h => h, fun _ => Iff.rfl, fun b h => absurd h (hh b), h⟩

theorem HR.unbase {M1 : Own} {w1 : World} (B : Base M w0 M1 w1) (h : HR ν M1 w1 s w) : HR ν M w0 s w :=
  ⟨h.full, h.dom, h.fresh, fun i hi x hx => let ⟨b, o, h1, h2, h3, h4⟩ := h.obj i hi x hx; ⟨b, o, h1, h2, h3, fun e => B.own _ (h4 e)⟩, h.inj, Nat.le_trans B.size h.size,
    fun b hb hM => by rw [h.frame b (Nat.lt_of_lt_of_le hb B.size) (B.frame b hb hM).2, (B.frame b hb hM).1], fun i hi x hx e b hb => (B.ro _).1 (h.ro i hi x hx e b hb), h.os.trans B.os, h.tape.trans B.tape, h.output.trans B.output⟩

/-- A block is made that is hidden: from then on it is reckoned so. -/
def Own.hide (M1 : Own) (n B : Nat) : Own := ⟨fun b => (M1 b ∨ n ≤ b) ∧ b ≠ B, M1.r, fun b => M1.h b ∨ b = B⟩

theorem HR.hide {M1 : Own} {w1 : World} (h : HR ν M1 w1 s w) (r : Obj) : HR ν (M1.hide w1.heap.size w.heap.size) { w with heap := w.heap.push r } s { w with heap := w.heap.push r } := by
  refine ⟨h.full, h.dom, h.fresh, fun i hi x hx => ?_, h.inj, Nat.le_refl _, fun _ _ _ => rfl, h.ro, rfl, rfl, rfl⟩
  obtain ⟨b, o, h1, h2, h3, h4⟩ := h.obj i hi x hx
  have hlt : b.1 < w.heap.size := (Array.getElem?_eq_some_iff.1 h2).1
  refine ⟨b, o, h1, ?_, h3, fun e => .inr ⟨(h4 e).symm, by omega⟩⟩
  show (w.heap.push r)[b.1]? = some o
  rw [Array.getElem?_push, if_neg (by omega)]; exact h2

theorem Base.hide {M1 : Own} {w1 : World} (B : Base M w0 M1 w1) (h : HR ν M1 w1 s w) (r : Obj) : Base M w0 (M1.hide w1.heap.size w.heap.size) { w with heap := w.heap.push r } := by
  have hsz := h.size
  have hB := B.size
  refine ⟨by simp; omega, h.os.trans B.os, h.tape.trans B.tape, h.output.trans B.output, fun b hb hM => ?_, fun b hb => ?_, B.ro, fun b hb => ?_, fun b hb => ?_⟩
  · obtain ⟨h1, h2⟩ := B.frame b hb hM
    refine ⟨?_, fun hc => ?_⟩
    · show (w.heap.push r)[b]? = _
      rw [Array.getElem?_push, if_neg (by omega), h.frame b (by omega) h2, h1]
    · rcases hc.1 with hc | hc
      · exact h2 hc
      · omega
  · rcases hb with hb | hb
    · have hb : (w.heap.push r).size ≤ b := hb
      simp at hb; exact .inl (by omega)
    · exact B.own b hb.1.symm
  · rcases hb with hb | hb
    · exact B.hid b hb
    · exact .inl (by omega)
  · have := B.rlt b hb
    show b < (w.heap.push r).size
    simp; omega

theorem Hidden.hide {M1 : Own} {w1 : World} (h : HR ν M1 w1 s w) (r : Obj) {b : Nat} {r' : Obj} (k : Hidden M1 w1 b r') : Hidden (M1.hide w1.heap.size w.heap.size) { w with heap := w.heap.push r } b r' := by
  obtain ⟨k1, k2, k3, k4⟩ := k
  have hlt : b < w1.heap.size := (Array.getElem?_eq_some_iff.1 k1).1
  have hsz := h.size
  refine ⟨?_, fun hc => ?_, k3, .inl k4⟩
  · show (w.heap.push r)[b]? = some r'
    rw [Array.getElem?_push, if_neg (by omega), h.frame b hlt k2, k1]
  · rcases hc.1 with hc | hc
    · exact k2 hc
    · omega

theorem Hidden.self {M1 : Own} {w1 : World} (h : HR ν M1 w1 s w) (hr : ∀ b, M1.r b → b < w1.heap.size) (r : Obj) : Hidden (M1.hide w1.heap.size w.heap.size) { w with heap := w.heap.push r } w.heap.size r := by
  refine ⟨?_, fun hc => hc.2 rfl, fun hc => ?_, .inr rfl⟩
  · show (w.heap.push r)[w.heap.size]? = some r
    simp
  · have := hr _ hc; have := h.size; omega

/-- The machine carries out an allocation ahead of its turn here. -/
theorem Drw.lagNew (hok : edgesOk ops = true) {M1 : Own} {w1 : World} {h : Nat} (d : Drw E ν M1 w1 ops rem pend lag (h :: L) tm a z) (hr : HR ν M1 w1 s w) (hro : ∀ b, M1.r b → b < w1.heap.size) (hrem : h ∈ rem) (hlate : late E ops (Region.before ops) a.size h = true)
    {b : Frame} {df : List Deferred} {k : List Item} {cs : List Frame} :
    ∃ a' r, step E.P (lone (b.atR ⟨a, df⟩ (.inRegion ops (h :: L) :: k)) cs w) = .next (lone (b.atR ⟨a', df⟩ (.inRegion ops L :: k)) cs { w with heap := w.heap.push r }) ∧ a'.size = a.size ∧
      Drw E ν (M1.hide w1.heap.size w.heap.size) { w with heap := w.heap.push r } ops rem pend ((h, w.heap.size) :: lag) L tm a' z := by
  obtain ⟨o, so, t, ho, hso, hg, hd, hlt, hnames⟩ := late_ok hlate
  obtain ⟨ty, r, hop, hor, _, hrun, _⟩ := lateSO_ok hso
  have hrun := hrun (ev a) o rfl w
  have hnl : ∀ q ∈ lag, q.1 ≠ h := fun q hq e => d.lagL q hq (e ▸ List.mem_cons_self)
  refine ⟨a.setIfInBounds t (.pointer (some ⟨w.heap.size, 0, none⟩)), r, ?_, by simp, ?_⟩
  · have hs := step_value (P := E.P) (b := b) (a := ⟨a, df⟩) (k := k) (cs := cs) (w := w) (ops := ops) (i := h) (rest := L) (w' := { w with heap := w.heap.push r }) ho (by simp [Region.wanted, hg]) (by
      rw [Oper.semAt_eq _ _ _ (by intro c e; rw [hop] at e; cases e), Act.eval_ev]
      exact hrun)
    rw [hs]
    congr 3
    unfold Act.put
    rw [hd]
  · have hother : ∀ q ∈ lag, ∀ o1 t1, ops[q.1]? = some o1 → o1.dst = some t1 → t1 ≠ t := by
      intro q hq o1 t1 h1 h2 e
      subst e
      rcases hnames q.1 o1 (hnl q hq) h1 with hb | ⟨_, hb, _⟩
      · obtain ⟨o2, d2, so2, r2, g1, g2, g3, _⟩ := d.lagged q hq
        obtain ⟨o3, so3, d3, g4, _, _, g5, _, g6⟩ := late_ok g2
        rw [h1] at g1 g4; cases g1; cases g4
        rw [h2] at g5; cases g5
        rcases g6 h o (fun e => hnl q hq e.symm) ho with hb2 | ⟨_, hb2, _⟩
        · -- each comes ahead of the other
          have h3 := before_lt hok (Array.getElem?_eq_some_iff.1 h1).1 hb
          have h4 := before_lt hok (Array.getElem?_eq_some_iff.1 ho).1 hb2
          omega
        · exact hb2 hd
      · exact hb h2
    refine ⟨(List.nodup_cons.1 d.nodup).2, (List.pairwise_cons.1 d.ord).2, fun i hi => d.irr i (List.mem_cons_of_mem _ hi), fun i hi => d.lt i (List.mem_cons_of_mem _ hi), fun i hi => ?_, fun i hi => d.sub i (List.mem_cons_of_mem _ hi),
      d.disj, d.free, d.preds, d.tm, by simpa using d.size, fun u hu hul => ?_, d.pure, fun q hq => ?_, fun q hq hm => ?_, fun q hq => ?_, fun q hq => ?_, ?_, fun q hq p hp => ?_⟩
    · rcases d.remL i hi with h1 | h1
      · rcases List.mem_cons.1 h1 with e | h1
        · exact .inr (by rw [e]; exact List.mem_cons_self)
        · exact .inl h1
      · exact .inr (List.mem_cons_of_mem _ h1)
    · have hut : u ≠ t := fun e => hul (h, w.heap.size) List.mem_cons_self o ho (by rw [hd, e])
      rw [getD_set_other hut]
      refine d.agree u (fun p hp hpp q hq e => ?_) (fun q hq => hul q (List.mem_cons_of_mem _ hq))
      rcases List.mem_cons.1 hp with e1 | h1
      · subst e1; exact d.disj p hrem hpp
      · exact hu p h1 hpp q hq e
    · rcases List.mem_cons.1 hq with e | hq
      · rw [e]; exact hrem
      · exact d.lagrem q hq
    · rcases List.mem_cons.1 hq with e | hq
      · rw [e] at hm; exact (List.nodup_cons.1 d.nodup).1 hm
      · exact d.lagL q hq (List.mem_cons_of_mem _ hm)
    · rcases List.mem_cons.1 hq with e | hq
      · rw [e]; exact d.irr h List.mem_cons_self
      · exact d.lagirr q hq
    · rcases List.mem_cons.1 hq with e | hq
      · rw [e]
        exact ⟨o, t, so, r, ho, by simpa using hlate, hd, hso, hor, Hidden.self hr hro r, by rw [getD_set_self hlt]⟩
      · obtain ⟨o1, d1, so1, r1, g1, g2, g3, g4, g5, g6, g7⟩ := d.lagged q hq
        exact ⟨o1, d1, so1, r1, g1, by simpa using g2, g3, g4, g5, g6.hide hr r, by rw [getD_set_other (hother q hq o1 d1 g1 g3)]; exact g7⟩
    · rw [List.map_cons, List.nodup_cons]
      refine ⟨fun hm => ?_, d.lagnd⟩
      obtain ⟨q, hq, e⟩ := List.mem_map.1 hm
      exact hnl q hq e
    · rcases List.mem_cons.1 hq with e | hq
      · rw [e]; exact (List.pairwise_cons.1 d.ord).1 p hp
      · exact d.lagord q hq p (List.mem_cons_of_mem _ hp)

/-- The machine carries out what went ahead, and allocations, till the next that does not stands there. -/
theorem Drw.reach (hok : edgesOk ops = true) {e : Nat} (he : e ∈ rem) {n : Nat}
    (hun : ∀ j ∈ rem, j = e ∨ ((Region.before ops).getD j 0).testBit e = true ∨ late E ops (Region.before ops) n j = true ∨ (∃ i ∈ rem, i ≠ j ∧ ((Region.before ops).getD j 0).testBit i = true ∧ late E ops (Region.before ops) n i = false))
    (hst : StabS E ν s ops pend z) :
    ∀ {L : List Nat} {a : Array Value} {lag : List (Nat × Nat)} {M1 : Own} {w1 w : World}, a.size = n → Drw E ν M1 w1 ops rem pend lag L tm a z → HR ν M1 w1 s w → Base M w0 M1 w1 → e ∉ lag.map (·.1) → ∀ {b : Frame} {df : List Deferred} {k : List Item} {cs : List Frame},
    ∃ a' L' lag' M2 w2 w', Steps E.P (lone (b.atR ⟨a, df⟩ (.inRegion ops L :: k)) cs w) (lone (b.atR ⟨a', df⟩ (.inRegion ops (e :: L') :: k)) cs w') ∧ Drw E ν M2 w2 ops rem pend lag' (e :: L') tm a' z ∧ HR ν M2 w2 s w' ∧ Base M w0 M2 w2 ∧
      (∀ b r, Hidden M1 w1 b r → Hidden M2 w2 b r) ∧ (∃ l0, lag'.map (·.2) = l0 ++ lag.map (·.2) ∧ l0.Nodup ∧ ∀ B ∈ l0, w1.heap.size ≤ B) := by
  intro L
  induction L with
  | nil =>
    intro a lag M1 w1 w _ d _ _ hel b df k cs
    rcases d.remL e he with h | h
    · cases h
    · exact absurd h hel
  | cons h L ih =>
    intro a lag M1 w1 w hn d hr hB hel b df k cs
    by_cases hp : h ∈ pend
    · obtain ⟨a', hs, d'⟩ := d.pending hp (hst _ _ _ hr) (b := b) (df := df) (k := k) (cs := cs)
      obtain ⟨a'', L', lag', M2, w2, w', hs', d'', rest⟩ := ih (by rw [d'.size, ← d.size]; exact hn) d' hr hB hel (b := b) (df := df) (k := k) (cs := cs)
      exact ⟨a'', L', lag', M2, w2, w', .head hs hs', d'', rest⟩
    · have hrm : h ∈ rem := (d.sub h (List.mem_cons_self)).resolve_right hp
      by_cases hhe : h = e
      · subst hhe
        exact ⟨a, L, lag, M1, w1, w, Steps.refl _ _, d, hr, hB, fun _ _ h => h, [], rfl, List.nodup_nil, fun _ h => by cases h⟩
      · have hfalse : ∀ i ∈ rem, i ≠ h → ((Region.before ops).getD h 0).testBit i = true → i ∉ lag.map (·.1) → False := by
          intro i hi hne hb hni
          have hiL : i ∈ L := by
            rcases d.remL i hi with h1 | h1
            · rcases List.mem_cons.1 h1 with h1 | h1
              · exact absurd h1 hne
              · exact h1
            · exact absurd h1 hni
          have := (List.pairwise_cons.1 d.ord).1 i hiL
          rw [this] at hb; cases hb
        have hlate : late E ops (Region.before ops) a.size h = true := by
          rw [hn]
          rcases hun h hrm with h1 | h1 | h1 | ⟨i, hi, hne, hb, hnl⟩
          · exact absurd h1 hhe
          · exact (hfalse e he (fun e' => hhe e'.symm) h1 hel).elim
          · exact h1
          · refine (hfalse i hi hne hb fun hm => ?_).elim
            obtain ⟨q, hq, eq⟩ := List.mem_map.1 hm
            obtain ⟨_, _, _, _, _, g2, _⟩ := d.lagged q hq
            rw [eq, hn, hnl] at g2; cases g2
        obtain ⟨a', r, hs, hsz, d'⟩ := d.lagNew hok hr hB.rlt hrm hlate (b := b) (df := df) (k := k) (cs := cs)
        obtain ⟨a'', L', lag', M2, w2, w', hs', d'', hr'', hB'', hhid, l0, hl0, hnd, hge⟩ := ih (by rw [hsz]; exact hn) d' (hr.hide r) (hB.hide hr r) (by
          rw [List.map_cons, List.mem_cons]
          rintro (e1 | e1)
          · exact hhe e1.symm
          · exact hel e1) (b := b) (df := df) (k := k) (cs := cs)
        refine ⟨a'', L', lag', M2, w2, w', .head hs hs', d'', hr'', hB'', fun b r' hh => hhid b r' (hh.hide hr r), l0 ++ [w.heap.size], by rw [hl0]; simp, ?_, fun B hB' => ?_⟩
        · rw [List.nodup_append]
          refine ⟨hnd, by simp, fun x hx y hy => ?_⟩
          have := hge x hx
          have : (w.heap.push r).size ≤ x := this
          simp at this hy; omega
        · rcases List.mem_append.1 hB' with h1 | h1
          · have : (w.heap.push r).size ≤ B := hge B h1
            have := hr.size
            simp at *; omega
          · have := hr.size
            simp at h1; omega

/-- .. or till nothing is left. -/
theorem Drw.finish_all : ∀ {L : List Nat} {a : Array Value}, Drw E ν M w0 ops [] pend lag L tm a z → Stab E ops pend z w → ∀ {b : Frame} {df : List Deferred} {k : List Item} {cs : List Frame},
    ∃ a', Steps E.P (lone (b.atR ⟨a, df⟩ (.inRegion ops L :: k)) cs w) (lone (b.atR ⟨a', df⟩ k) cs w) ∧ TmR ν tm a' := by
  intro L
  induction L with
  | nil =>
    intro a d _ b df k cs
    refine ⟨a, .one stepR_region_end, ?_⟩
    have hall : ∀ t, a.getD t undef = z.getD t undef := fun t => d.agree t (by intro p hp; cases hp) (fun q hq => by cases d.lagrem q hq)
    have : a = z := by
      apply Array.ext_getElem?
      intro t
      exact getElem?_of_getD d.size (hall t)
    rw [this]; exact d.tm
  | cons h L ih =>
    intro a d hst b df k cs
    have hp : h ∈ pend := (d.sub h (List.mem_cons_self)).resolve_left (by simp)
    obtain ⟨a', hs, d'⟩ := d.pending hp hst (b := b) (df := df) (k := k) (cs := cs)
    obtain ⟨a'', hs', ht⟩ := ih d' hst (b := b) (df := df) (k := k) (cs := cs)
    exact ⟨a'', .head hs hs', ht⟩

end
end Go.Rx
