/- The symbolic executor 'Rx', part E: what each operation's symbolic meaning has to do with the model's. By an AI agent. -/
import Derived.Test.YtiggmgcnjmalfaaGreatDoorRxA
import Derived.IntWalk
set_option linter.unusedVariables false
set_option linter.unusedSimpArgs false
namespace Go.Rx

/-- The same memory (choices may have been made, something may be owed). -/
structure SH.Same (s s' : SH) : Prop where
  d : s'.d = s.d
  H : s'.H = s.H
  nx : s'.nx = s.nx

theorem SH.Same.refl (s : SH) : s.Same s := ⟨rfl, rfl, rfl⟩
theorem SH.Same.trans {a b c : SH} (h : a.Same b) (k : b.Same c) : a.Same c := ⟨k.d.trans h.d, k.H.trans h.H, k.nx.trans h.nx⟩

theorem SH.Same.symm {a b : SH} (h : a.Same b) : b.Same a := ⟨h.d.symm, h.H.symm, h.nx.symm⟩

section
variable {ν : Val} {M : Own} {w0 w : World} {s s' : SH} {E : Env}

theorem HR.same (h : HR ν M w0 s w) (e : s.Same s') : HR ν M w0 s' w := by
  cases s; cases s'
  obtain ⟨rfl, rfl, rfl⟩ := e
  exact ⟨h.full, h.dom, h.fresh, h.obj, h.inj, h.size, h.frame, h.ro, h.os, h.tape, h.output⟩

theorem SH.Same.look (e : s.Same s') (i : Nat) : s'.look i = s.look i := by
  cases s; cases s'
  obtain ⟨rfl, rfl, rfl⟩ := e
  rfl

theorem SH.dec_ok {b t : Bool} (h : s.dec E b = (t, s')) : s.Same s' ∧ (s'.ob → s.ob ∧ b = t) := by
  unfold SH.dec at h
  cases ho : s.says E with
  | none => rw [ho] at h; cases h; exact ⟨⟨rfl, rfl, rfl⟩, fun k => ⟨k, rfl⟩⟩
  | some u => rw [ho] at h; cases h; exact ⟨⟨rfl, rfl, rfl⟩, fun k => k⟩

theorem SH.ask_ok {b : Bool} (h : s.ask E b = some s') : s.Same s' ∧ (s'.ob → s.ob ∧ b = true) := by
  unfold SH.ask at h
  cases ho : s.says E with
  | none =>
    rw [ho] at h
    dsimp only at h
    cases hs : s.soft
    · rw [hs] at h
      cases b
      · cases h
      · cases h; exact ⟨⟨rfl, rfl, rfl⟩, fun k => ⟨k, rfl⟩⟩
    · rw [hs] at h
      cases h; exact ⟨⟨rfl, rfl, rfl⟩, fun k => k⟩
  | some u => rw [ho] at h; cases h; exact ⟨⟨rfl, rfl, rfl⟩, fun k => k⟩
end

theorem guard_ok {b : Bool} {u : Unit} (h : guard' b = some u) : b = true := by
  unfold guard' at h; cases b <;> simp_all

theorem pureRun_ok {α : Type} {P : Program} : ∀ {x : Sem α} {a : α}, pureRun P x = some a → ∀ w, x.run P w = .ok a w
  | .pure _, _, h, w => by rw [pureRun] at h; cases h; rfl
  | .program k, _, h, w => by rw [pureRun] at h; rw [Sem.run]; exact pureRun_ok h w
  | .load .., _, h, _ => by simp [pureRun] at h
  | .store .., _, h, _ => by simp [pureRun] at h
  | .new .., _, h, _ => by simp [pureRun] at h
  | .shape .., _, h, _ => by simp [pureRun] at h
  | .freeze .., _, h, _ => by simp [pureRun] at h
  | .frozen .., _, h, _ => by simp [pureRun] at h
  | .getObj .., _, h, _ => by simp [pureRun] at h
  | .setObj .., _, h, _ => by simp [pureRun] at h
  | .choose .., _, h, _ => by simp [pureRun] at h
  | .sys .., _, h, _ => by simp [pureRun] at h
  | .mark .., _, h, _ => by simp [pureRun] at h
  | .halt .., _, h, _ => by simp [pureRun] at h

/-- What an operation that hands back a value has to come to. -/
def GoodV (P : Program) (g : Sem Value) (ν : Val) (M : Own) (w0 w : World) (x : SV) (s' : SH) : Prop :=
  ∃ ν' w' y, ν.Le ν' ∧ g.run P w = .ok y w' ∧ VR ν' x y ∧ HR ν' M w0 s' w'

/-- One that hands back nothing. -/
def GoodU (P : Program) (g : Sem Unit) (ν : Val) (M : Own) (w0 w : World) (s' : SH) : Prop :=
  ∃ ν' w', ν.Le ν' ∧ g.run P w = .ok () w' ∧ HR ν' M w0 s' w'

section
variable {ν : Val} {M : Own} {w0 w : World} {s s' : SH} {E : Env}

theorem GoodV.now {g : Sem Value} {x : SV} {y : Value} (hr : HR ν M w0 s' w) (h : g.run E.P w = .ok y w) (hx : VR ν x y) : GoodV E.P g ν M w0 w x s' :=
  ⟨ν, w, y, Val.Le.refl _, h, hx, hr⟩

theorem VR.v_iff {x y : Value} : VR ν (.v x) y ↔ y = x := by rw [VR]
theorem VR.ptr_iff {i off : Nat} {y : Value} : VR ν (.ptr i off) y ↔ ∃ b, ν i = some b ∧ y = .pointer (some ⟨b.1, off, none⟩) := by rw [VR]
theorem VR.sl_iff {i off len : Nat} {cap : Option Nat} {y : Value} : VR ν (.sl i off len cap) y ↔ ∃ b, ν i = some b ∧ len ≤ cap.getD (b.2 - off) ∧ y = .slice (some ⟨b.1, off, none⟩) len (cap.getD (b.2 - off)) := by rw [VR]
theorem VR.map_iff {i : Nat} {y : Value} : VR ν (.map i) y ↔ ∃ b, ν i = some b ∧ y = .map (some b.1) := by rw [VR]
theorem VR.agg_iff {l : List SV} {y : Value} : VR ν (.agg l) y ↔ ∃ a : List Value, y = .agg a.toArray ∧ VRL ν l a := by rw [VR]
theorem VR.tup_iff {l : List SV} {y : Value} : VR ν (.tup l) y ↔ ∃ a : List Value, y = .tuple a.toArray ∧ VRL ν l a := by rw [VR]
theorem VR.iface_iff {t : TypeId} {x : SV} {y : Value} : VR ν (.iface t x) y ↔ ∃ z, y = .iface t z ∧ VR ν x z := by rw [VR]
theorem VR.func_iff {fn : Fn} {a b : List SV} {y : Value} : VR ν (.func fn a b) y ↔ ∃ a' b' : List Value, y = .func fn a'.toArray b'.toArray ∧ VRL ν a a' ∧ VRL ν b b' := by rw [VR]
theorem VR.yield_iff {i : Nat} {y : Value} : VR ν (.yield i) y ↔ ∃ b, ν i = some b ∧ y = .func (.yield b.1) #[] #[] := by rw [VR]
theorem VR.fin_iff {i off len adv : Nat} {y : Value} : VR ν (.fin i off len adv) y ↔ ∃ b, ν i = some b ∧ y = .slice (some ⟨b.1, if b.2 - off = len then off else off + adv, none⟩) 0 (b.2 - off - len) := by rw [VR]

mutual
theorem plainV_ok {ν : Val} : ∀ {x : SV} {z y : Value}, plainV x = some z → VR ν x y → y = z
  | .v x, z, y, h, hv => by rw [plainV] at h; cases h; exact VR.v_iff.1 hv
  | .agg l, z, y, h, hv => by
    rw [plainV] at h
    obtain ⟨vs, hvs, rfl⟩ := Option.map_eq_some_iff.1 h
    obtain ⟨a, rfl, ha⟩ := VR.agg_iff.1 hv
    rw [plainVs_ok hvs ha]
  | .tup l, z, y, h, hv => by
    rw [plainV] at h
    obtain ⟨vs, hvs, rfl⟩ := Option.map_eq_some_iff.1 h
    obtain ⟨a, rfl, ha⟩ := VR.tup_iff.1 hv
    rw [plainVs_ok hvs ha]
  | .iface t x, z, y, h, hv => by
    rw [plainV] at h
    obtain ⟨v, hx, rfl⟩ := Option.map_eq_some_iff.1 h
    obtain ⟨u, rfl, hu⟩ := VR.iface_iff.1 hv
    rw [plainV_ok hx hu]
  | .junk, _, _, h, _ => by rw [plainV] at h; cases h
  | .ptr _ _, _, _, h, _ => by rw [plainV] at h; cases h
  | .sl _ _ _ _, _, _, h, _ => by rw [plainV] at h; cases h
  | .map _, _, _, h, _ => by rw [plainV] at h; cases h
  | .func _ _ _, _, _, h, _ => by rw [plainV] at h; cases h
  | .yield _, _, _, h, _ => by rw [plainV] at h; cases h
  | .fin _ _ _ _, _, _, h, _ => by rw [plainV] at h; cases h
theorem plainVs_ok {ν : Val} : ∀ {l : List SV} {zs ys : List Value}, plainVs l = some zs → VRL ν l ys → ys = zs
  | [], _, _, h, hv => by rw [plainVs] at h; cases h; exact hv.nil_inv
  | x :: xs, zs, ys, h, hv => by
    rw [plainVs] at h
    obtain ⟨y, ys', rfl, hy, hys⟩ := hv.cons_inv
    split at h
    · rename_i v vs h1 h2
      cases h
      rw [plainV_ok h1 hy, plainVs_ok h2 hys]
    · cases h
end

/-! ### tables -/

theorem run_underlying {t : TypeId} {d : TypeDesc} (h : tdesc E t = some d) : (underlying t).run E.P w = .ok d w := by
  have h' : E.P.underlying t = some d := h
  simp [underlying, h']

theorem run_typeInfo {t : TypeId} {d : TypeInfo} (h : tinfo E t = some d) : (typeInfo t).run E.P w = .ok d w := by
  have h' : E.P.info? t = some d := h
  simp [typeInfo, h']

theorem run_sizeOf {t : TypeId} {d : TypeInfo} (h : tinfo E t = some d) : (sizeOf t).run E.P w = .ok d.size w := by
  simp [sizeOf, run_typeInfo h]

theorem run_zeroValue {t : TypeId} {d : TypeInfo} {z : Value} (h : tinfo E t = some d) (hz : d.zero = some z) : (zeroValue t).run E.P w = .ok z w := by
  simp [zeroValue, run_typeInfo h, hz]

theorem run_isAgg {t : TypeId} {b : Bool} (h : aggType E t = some b) : (isAgg t).run E.P w = .ok b w := by
  unfold aggType at h
  cases hd : tdesc E t with
  | none => rw [hd] at h; cases h
  | some d => rw [hd] at h; simp only [isAgg, Sem.run_bind, run_underlying hd, Result.andThen_ok]; cases d <;> simp_all

/-! ### loads -/

/-- Where cell k of a row lies. -/
theorem cell_at {b : Nat} {c : Array Value} {e : TypeId} {fz : Nat × Nat} (h : w.heap[b]? = some (.cells c e fz)) (off : Nat) : w.cell? ⟨b, off, none⟩ = c[off]? := by
  simp [World.cell?, h]

theorem addr_add (b off k : Nat) : (⟨b, off, none⟩ : Addr).add k = ⟨b, off + k, none⟩ := by
  unfold Addr.add; split
  · rename_i h; rw [h]; rfl
  · rfl

theorem run_load_cell {P : Program} {a : Addr} {v : Value} (h : w.cell? a = some v) : (load a).run P w = .ok v w := by
  simp [load, Sem.run, h]

theorem run_loadCellsFrom {P : Program} {b off : Nat} {vs : List Value} : ∀ (n i : Nat) (acc : Array Value), (∀ k, k < n → w.cell? ⟨b, off + (i + k), none⟩ = vs[k]?) → vs.length = n →
    (loadCellsFrom ⟨b, off, none⟩ i n acc).run P w = .ok (acc ++ vs.toArray) w := by
  intro n i acc h hl
  induction n generalizing i acc vs with
  | zero =>
    obtain rfl : vs = [] := List.length_eq_zero_iff.1 hl
    simp [loadCellsFrom]
  | succ n ih =>
    match vs, hl with
    | v :: vs, hl =>
      have h0 := h 0 (by omega)
      simp only [List.getElem?_cons_zero, Nat.add_zero] at h0
      simp only [loadCellsFrom, addr_add, Sem.run_bind, run_load_cell h0, Result.andThen_ok]
      have hstep : ∀ k, k < n → w.cell? ⟨b, off + ((i + 1) + k), none⟩ = vs[k]? := by
        intro k hk
        have hs := h (k + 1) (by omega)
        simp only [List.getElem?_cons_succ] at hs
        rw [← hs]; congr 2; omega
      rw [ih (vs := vs) (i + 1) (acc.push v) hstep (by simpa using hl)]
      simp

theorem run_loadCells {P : Program} {b off n : Nat} {vs : List Value} (h : ∀ k, k < n → w.cell? ⟨b, off + k, none⟩ = vs[k]?) (hl : vs.length = n) :
    (loadCells ⟨b, off, none⟩ n).run P w = .ok vs.toArray w := by
  rw [loadCells, run_loadCellsFrom n 0 #[] (fun k hk => by rw [Nat.zero_add]; exact h k hk) hl]
  simp

theorem getElem?_append_left' {ys rest : List Value} {k : Nat} {y : Value} (h : ys[k]? = some y) : (ys ++ rest)[k]? = some y := by
  have hk : k < ys.length := (List.getElem?_eq_some_iff.1 h).1
  rw [List.getElem?_append_left hk]; exact h

theorem SH.owe_same (s : SH) (p : Prop) : s.Same (s.owe p) := ⟨rfl, rfl, rfl⟩

/-- What is told of a row's first cells. -/
theorem told_ok {i : Nat} {xs : List SV} (h : (s.look i).bind (·.1.told) = some xs) (hr : HR ν M w0 s w) {b : Nat × Nat} (hb : ν i = some b) :
    ∃ (ys : List Value) (c : Array Value) (e : TypeId) (fz : Nat × Nat), w.heap[b.1]? = some (.cells c e fz) ∧ VRL ν xs ys ∧ ∀ (k : Nat) (y : Value), ys[k]? = some y → c[k]? = some y := by
  obtain ⟨⟨o, m⟩, hl, h⟩ := Option.bind_eq_some_iff.1 h
  obtain ⟨_, _, b', o', hb', ho, hor, _⟩ := hr.look hl
  rw [hb] at hb'; cases hb'
  cases o <;> simp only [SO.told, reduceCtorEq, Option.some.injEq] at h
  · subst h
    obtain ⟨ys, rest, rfl, hvl, _⟩ := hor
    exact ⟨ys, _, _, _, ho, hvl, fun k y hy => by simpa using getElem?_append_left' hy⟩
  · subst h
    obtain ⟨ys, c, e, fz, rfl, hvl, hc⟩ := hor
    exact ⟨ys, c, e, fz, ho, hvl, hc⟩

theorem sLoadQ_ok {t : TypeId} {a x : SV} {l : List SV} {av : Value} (h : sLoadQ E t a l s = some (x, s')) (hr : HR ν M w0 s w) (ha : VR ν a av) :
    s.Same s' ∧ (s'.ob → s.ob ∧ ∃ y, (Instr.loadAt t av).run E.P w = .ok y w ∧ VR ν x y) := by
  unfold sLoadQ at h
  split at h
  · rename_i i off ag info hag hinfo
    obtain ⟨b, hb, rfl⟩ := VR.ptr_iff.1 ha
    split at h
    · rename_i xs hl
      obtain ⟨ys, c, e, fz, ho, hvl, hc⟩ := told_ok hl hr hb
      cases ag
      · simp only [cond_false] at h
        split at h
        · rename_i x0
          cases h
          refine ⟨SH.owe_same _ _, fun ob => ⟨ob.1, ?_⟩⟩
          obtain ⟨y, hy, hv⟩ := hvl.get ob.2
          refine ⟨y, ?_, hv⟩
          have hrun : (Instr.loadAt t (.pointer (some ⟨b.1, off, none⟩))).run E.P w = (load ⟨b.1, off, none⟩).run E.P w := by
            simp [Instr.loadAt, Instr.sureAddr, loadVar, run_isAgg hag]
          rw [hrun, run_load_cell]
          rw [cell_at ho]; exact hc _ _ hy
        · cases h
      · simp only [cond_true, Option.some.injEq, Prod.mk.injEq] at h
        obtain ⟨rfl, rfl⟩ := h
        refine ⟨SH.owe_same _ _, fun ob => ⟨ob.1, .agg ((ys.drop off).take info.size).toArray, ?_, VR.agg_iff.2 ⟨_, rfl, ?_⟩⟩⟩
        · have hlen : ((ys.drop off).take info.size).length = info.size := by
            rw [((hvl.drop off).take info.size).length, ob.2.1, ob.2.2]
          simp only [Instr.loadAt, Instr.sureAddr, loadVar, Sem.run_bind, Sem.run_pure, Result.andThen_ok, run_isAgg hag, if_true, run_sizeOf hinfo]
          rw [run_loadCells (vs := (ys.drop off).take info.size) ?_ hlen]
          · rfl
          intro k hk
          have hk2 : k < ((ys.drop off).take info.size).length := by omega
          rw [cell_at ho, List.getElem?_eq_getElem hk2]
          refine hc _ _ ?_
          rw [← List.getElem?_eq_getElem hk2, List.getElem?_take, if_pos hk, List.getElem?_drop]
        · have := (hvl.drop off).take info.size
          rw [ob.2.1] at this; exact this
    · cases h
  · cases h

theorem sLoad0_ok {t : TypeId} {a x : SV} {av : Value} (h : sLoad0 E t a s = some (x, s')) (hr : HR ν M w0 s w) (ha : VR ν a av) :
    s.Same s' ∧ (s'.ob → s.ob ∧ ∃ y, (Instr.loadAt t av).run E.P w = .ok y w ∧ VR ν x y) := by
  unfold sLoad0 at h
  split at h
  · -- one cell
    rename_i i off hag
    obtain ⟨b, hb, rfl⟩ := VR.ptr_iff.1 ha
    have hrun : (Instr.loadAt t (.pointer (some ⟨b.1, off, none⟩))).run E.P w = (load ⟨b.1, off, none⟩).run E.P w := by
      simp [Instr.loadAt, Instr.sureAddr, loadVar, run_isAgg hag]
    split at h
    · rename_i xs e fz ext own hl
      obtain ⟨_, _, b', o, hb', ho, hor, _⟩ := hr.look hl
      rw [hb] at hb'; cases hb'
      obtain ⟨ys, rest, rfl, hvl, _⟩ := hor
      cases hx : xs[off]? with
      | none => rw [hx] at h; cases h
      | some x0 =>
        rw [hx] at h; cases h
        obtain ⟨y, hy, hv⟩ := hvl.get hx
        refine ⟨.refl _, fun ob => ⟨ob, y, ?_, hv⟩⟩
        rw [hrun, run_load_cell]
        rw [cell_at ho]; simpa using getElem?_append_left' hy
    · rename_i xs own hl
      obtain ⟨_, _, b', o, hb', ho, hor, _⟩ := hr.look hl
      rw [hb] at hb'; cases hb'
      obtain ⟨ys, c, e, fz, rfl, hvl, hc⟩ := hor
      cases hx : xs[off]? with
      | none => rw [hx] at h; cases h
      | some x0 =>
        rw [hx] at h; cases h
        obtain ⟨y, hy, hv⟩ := hvl.get hx
        refine ⟨.refl _, fun ob => ⟨ob, y, ?_, hv⟩⟩
        rw [hrun, run_load_cell]
        rw [cell_at ho]; exact hc _ _ hy
    · rename_i n f e fz ext own hl
      obtain ⟨_, _, b', o, hb', ho, hor, _⟩ := hr.look hl
      rw [hb] at hb'; cases hb'
      obtain ⟨c, rfl, hf, _⟩ := hor
      cases hs : s.ask E (Nat.blt off n) with
      | none => rw [hs] at h; cases h
      | some s1 =>
        rw [hs] at h; cases h
        obtain ⟨hsame, hob⟩ := SH.ask_ok hs
        refine ⟨hsame, fun ob => ⟨(hob ob).1, f off, ?_, VR.v_iff.2 rfl⟩⟩
        rw [hrun, run_load_cell]
        rw [cell_at ho]; exact hf off (blt_iff.1 (hob ob).2)
    · cases h
  · -- many cells
    rename_i i off info hag hinfo
    obtain ⟨b, hb, rfl⟩ := VR.ptr_iff.1 ha
    have hrun : ∀ vs : List Value, (loadCells ⟨b.1, off, none⟩ info.size).run E.P w = .ok vs.toArray w → (Instr.loadAt t (.pointer (some ⟨b.1, off, none⟩))).run E.P w = .ok (.agg vs.toArray) w := by
      intro vs hvs
      simp [Instr.loadAt, Instr.sureAddr, loadVar, run_isAgg hag, run_sizeOf hinfo, hvs]
    split at h
    · rename_i xs e fz ext own hl
      obtain ⟨_, _, b', o, hb', ho, hor, _⟩ := hr.look hl
      rw [hb] at hb'; cases hb'
      obtain ⟨ys, rest, rfl, hvl, _⟩ := hor
      cases hle : Nat.ble (off + info.size) xs.length
      · rw [hle] at h; cases h
      · rw [hle] at h; cases h
        have hle := Nat.le_of_ble_eq_true hle
        have hlen := hvl.length
        refine ⟨.refl _, fun ob => ⟨ob, .agg ((ys.drop off).take info.size).toArray, ?_, VR.agg_iff.2 ⟨_, rfl, (hvl.drop off).take info.size⟩⟩⟩
        refine hrun _ (run_loadCells ?_ ?_)
        · intro k hk
          rw [cell_at ho, List.getElem?_take, if_pos hk, List.getElem?_drop]
          have : off + k < ys.length := by omega
          simp [List.getElem?_append_left this]
        · simp; omega
    · rename_i n f e fz ext own hl
      obtain ⟨_, _, b', o, hb', ho, hor, _⟩ := hr.look hl
      rw [hb] at hb'; cases hb'
      obtain ⟨c, rfl, hf, _⟩ := hor
      cases hs : s.ask E (Nat.ble (off + info.size) n) with
      | none => rw [hs] at h; cases h
      | some s1 =>
        rw [hs] at h; cases h
        obtain ⟨hsame, hob⟩ := SH.ask_ok hs
        have hmap : ∀ l : List Nat, VRL ν (l.map fun k => SV.v (f (off + k))) (l.map fun k => f (off + k)) := by
          intro l; induction l with
          | nil => exact VRL.nil
          | cons k l ih => exact VRL.cons (VR.v_iff.2 rfl) ih
        refine ⟨hsame, fun ob => ⟨(hob ob).1, _, ?_, VR.agg_iff.2 ⟨_, rfl, hmap _⟩⟩⟩
        have hle := Nat.le_of_ble_eq_true (hob ob).2
        refine hrun _ (run_loadCells ?_ (by simp))
        intro k hk
        rw [cell_at ho, hf (off + k) (by omega)]
        simp [hk]
    · cases h
  · cases h

theorem sLoad_ok {t : TypeId} {a x : SV} {av : Value} (h : sLoad E t a s = some (x, s')) (hr : HR ν M w0 s w) (ha : VR ν a av) :
    s.Same s' ∧ (s'.ob → s.ob ∧ ∃ y, (Instr.loadAt t av).run E.P w = .ok y w ∧ VR ν x y) := by
  unfold sLoad at h
  split at h
  · exact sLoadQ_ok h hr ha
  · exact sLoad0_ok h hr ha

/-! ### stores -/

theorem SV.cells_ok {x : SV} {l : List SV} {y : Value} (h : x.cells = some l) (hv : VR ν x y) : VRL ν l y.cells.toList := by
  have one : ∀ {x : SV} {y : Value}, VR ν x y → y.cells = #[y] → VRL ν [x] y.cells.toList := by
    intro x y hv hc
    rw [hc]; exact VRL.cons hv VRL.nil
  cases x with
  | junk => cases h
  | agg l' => cases h; obtain ⟨a, rfl, ha⟩ := VR.agg_iff.1 hv; simpa [Value.cells] using ha
  | v x =>
    obtain rfl := VR.v_iff.1 hv
    cases y <;> first | (cases h; exact one hv rfl) | (cases h; simpa [Value.cells] using VRL.lits ν _)
  | ptr => cases h; refine one hv ?_; obtain ⟨b, _, rfl⟩ := VR.ptr_iff.1 hv; rfl
  | sl => cases h; refine one hv ?_; obtain ⟨b, _, _, rfl⟩ := VR.sl_iff.1 hv; rfl
  | map => cases h; refine one hv ?_; obtain ⟨b, _, rfl⟩ := VR.map_iff.1 hv; rfl
  | tup => cases h; refine one hv ?_; obtain ⟨b, rfl, _⟩ := VR.tup_iff.1 hv; rfl
  | iface => cases h; refine one hv ?_; obtain ⟨b, rfl, _⟩ := VR.iface_iff.1 hv; rfl
  | func => cases h; refine one hv ?_; obtain ⟨b, c, rfl, _⟩ := VR.func_iff.1 hv; rfl
  | yield => cases h; refine one hv ?_; obtain ⟨b, _, rfl⟩ := VR.yield_iff.1 hv; rfl
  | fin => cases h; refine one hv ?_; obtain ⟨b, _, rfl⟩ := VR.fin_iff.1 hv; rfl

theorem SV.flat_ok {x : SV} {y : Value} (h : x.flat = true) (hv : VR ν x y) : y.oneCell' = true := by
  cases x with
  | junk => cases h
  | agg l => cases h
  | tup l => cases h
  | v x => rw [VR.v_iff.1 hv]; cases x <;> first | rfl | cases h
  | ptr => obtain ⟨b, _, rfl⟩ := VR.ptr_iff.1 hv; rfl
  | sl => obtain ⟨b, _, _, rfl⟩ := VR.sl_iff.1 hv; rfl
  | map => obtain ⟨b, _, rfl⟩ := VR.map_iff.1 hv; rfl
  | iface => obtain ⟨b, rfl, _⟩ := VR.iface_iff.1 hv; rfl
  | func => obtain ⟨b, c, rfl, _⟩ := VR.func_iff.1 hv; rfl
  | yield => obtain ⟨b, _, rfl⟩ := VR.yield_iff.1 hv; rfl
  | fin => obtain ⟨b, _, rfl⟩ := VR.fin_iff.1 hv; rfl

theorem VRL.flat {l : List SV} {ys : List Value} (h : l.all SV.flat = true) (hv : VRL ν l ys) : ∀ y ∈ ys, y.oneCell' = true := by
  induction l generalizing ys with
  | nil => rw [hv.nil_inv]; simp
  | cons x l ih =>
    obtain ⟨z, zs, rfl, hz, hs⟩ := hv.cons_inv
    simp at h
    intro y hy
    rcases List.mem_cons.1 hy with rfl | hy
    · exact SV.flat_ok h.1 hz
    · exact ih (by simpa using h.2) hs y hy

def spliceV (ys : List Value) (off : Nat) : List Value → List Value
  | [] => ys
  | z :: zs => spliceV (ys.set off z) (off + 1) zs

theorem spliceV_length (ys : List Value) (off : Nat) (zs : List Value) : (spliceV ys off zs).length = ys.length := by
  induction zs generalizing ys off with
  | nil => rfl
  | cons z zs ih => rw [spliceV, ih, List.length_set]
theorem splice_length (xs : List SV) (off : Nat) (l : List SV) : (splice xs off l).length = xs.length := by
  induction l generalizing xs off with
  | nil => rw [splice_nil]
  | cons z zs ih => rw [splice_cons, ih, List.length_set]

theorem VRL.splice {xs : List SV} {ys : List Value} {l : List SV} {zs : List Value} (h : VRL ν xs ys) (hl : VRL ν l zs) (off : Nat) : VRL ν (Go.Rx.splice xs off l) (spliceV ys off zs) := by
  induction l generalizing xs ys zs off with
  | nil => rw [hl.nil_inv, splice_nil]; exact h
  | cons x l ih =>
    obtain ⟨z, zs, rfl, hz, hs⟩ := hl.cons_inv
    rw [splice_cons]
    exact ih (h.set hz off) hs (off + 1)

theorem spliceV_append {ys rest : List Value} {zs : List Value} {off : Nat} (h : off + zs.length ≤ ys.length) : spliceV (ys ++ rest) off zs = spliceV ys off zs ++ rest := by
  induction zs generalizing ys off with
  | nil => rfl
  | cons z zs ih =>
    simp only [List.length_cons] at h
    rw [spliceV, spliceV, List.set_append_left _ _ (by omega), ih (by simp; omega)]

/-- What storing some cells comes to. -/
theorem run_storeCells {P : Program} {b off : Nat} {e : TypeId} {fz : Nat × Nat} : ∀ (zs : List Value) (i : Nat) (w : World) (c : List Value), w.heap[b]? = some (.cells c.toArray e fz) →
    (∀ z ∈ zs, z.oneCell' = true) → off + i + zs.length ≤ c.length → (∀ k, off + i ≤ k → k < off + i + zs.length → ¬ (fz.1 ≤ k ∧ k < fz.2)) →
    (storeCells ⟨b, off, none⟩ zs i).run P w = .ok () { w with heap := w.heap.setIfInBounds b (.cells (spliceV c (off + i) zs).toArray e fz) } := by
  intro zs
  induction zs with
  | nil =>
    intro i w c hw _ _ _
    have : w.heap.setIfInBounds b (.cells c.toArray e fz) = w.heap := by
      apply Array.ext_getElem?
      intro j
      rw [Array.getElem?_setIfInBounds]
      split
      · rename_i ej
        subst ej
        have := (Array.getElem?_eq_some_iff.1 hw).1
        have hw' := (Array.getElem?_eq_some_iff.1 hw).2
        simp [this, hw']
      · rfl
    simp [storeCells, spliceV, this]
  | cons z zs ih =>
    intro i w c hw hone hlen hfz
    simp only [List.length_cons] at hlen hfz
    have hz := hone z (by simp)
    have hcell : w.cell? ⟨b, off + i, none⟩ = c[off + i]? := by rw [cell_at hw]; simp
    have hlt : off + i < c.length := by omega
    have hfr : w.frozen? ⟨b, off + i, none⟩ = false := by
      simp only [World.frozen?, hw]
      have := hfz (off + i) (by omega) (by omega)
      obtain ⟨lo, hi⟩ := fz
      simp at this ⊢
      omega
    have hbl := (Array.getElem?_eq_some_iff.1 hw).1
    have hset : w.setCell ⟨b, off + i, none⟩ z = { w with heap := w.heap.setIfInBounds b (.cells (c.set (off + i) z).toArray e fz) } := by
      unfold World.setCell
      congr 1
      apply Array.ext_getElem?
      intro j
      rw [Array.getElem?_modify, Array.getElem?_setIfInBounds]
      split
      · rename_i ej
        subst ej
        have hw' := (Array.getElem?_eq_some_iff.1 hw).2
        simp [hbl, hw']
      · rfl
    have hstore : (store ⟨b, off + i, none⟩ z).run P w = .ok () (w.setCell ⟨b, off + i, none⟩ z) := by
      rw [run_store P w ⟨b, off + i, none⟩ z .plain hz, hcell, List.getElem?_eq_getElem hlt]
      simp [hfr]
    simp only [storeCells, addr_add, Sem.run_bind]
    rw [hstore, Result.andThen_ok, hset]
    have hw2 : ({ w with heap := w.heap.setIfInBounds b (.cells (c.set (off + i) z).toArray e fz) } : World).heap[b]? = some (.cells (c.set (off + i) z).toArray e fz) := by
      simp [hbl]
    rw [ih (i + 1) _ (c.set (off + i) z) hw2 (fun y hy => hone y (List.mem_cons_of_mem _ hy)) (by simp; omega) (fun k h1 h2 => hfz k (by omega) (by omega))]
    simp [spliceV, Nat.add_assoc]

theorem fzOk_ok {fz : Nat × Nat} {off n : Nat} (h : fzOk fz off n = true) : ∀ k, off ≤ k → k < off + n → ¬ (fz.1 ≤ k ∧ k < fz.2) := by
  intro k h1 h2 h3
  unfold fzOk at h
  rw [Bool.or_eq_true, Bool.or_eq_true] at h
  rcases h with (h | h) | h <;> (have := Nat.le_of_ble_eq_true h; omega)

theorem fzReal_ok {fz : Nat × Nat} {off n m : Nat} (h : fzOk fz off n = true) (hm : off + n ≤ m) : ∀ k, off ≤ k → k < off + n → ¬ ((fzReal fz m).1 ≤ k ∧ k < (fzReal fz m).2) := by
  intro k h1 h2
  unfold fzReal
  cases hb : (Nat.beq fz.1 1 && Nat.beq fz.2 0)
  · exact fzOk_ok h k h1 h2
  · simp; omega

/-- A row of which some cells are written anew. -/
theorem HR.spliced (hr : HR ν M w0 s w) {i : Nat} {xs : List SV} {e : TypeId} {fz : Nat × Nat} {ext : Option Nat} (hl : s.look i = some (.row xs e fz ext, true))
    {b : Nat × Nat} (hb : ν i = some b) {l : List SV} {zs : List Value} (hz : VRL ν l zs) {off : Nat} (hlen : off + l.length ≤ xs.length) (hfz : fzOk fz off l.length = true) (hflat : l.all SV.flat = true) :
    ∃ w', (storeCells ⟨b.1, off, none⟩ zs).run E.P w = .ok () w' ∧ HR ν M w0 (s.put i (.row (splice xs off l) e fz ext)) w' := by
  obtain ⟨_, _, b', o, hb', ho, hor, _⟩ := hr.look hl
  rw [hb] at hb'; cases hb'
  obtain ⟨ys, rest, rfl, hvl, hext⟩ := hor
  have h1 := hvl.length
  have h2 := hz.length
  have hrun := run_storeCells (P := E.P) (b := b.1) (off := off) (e := e) (fz := fzReal fz (ys ++ rest).length) zs 0 w (ys ++ rest) ho (hz.flat hflat) (by simp; omega) (by
    intro k hk1 hk2
    exact fzReal_ok hfz (by simp; omega) k (by omega) (by omega))
  rw [Nat.add_zero, spliceV_append (by omega)] at hrun
  have hl1 : (splice xs off l).length = xs.length := splice_length _ _ _
  have hl2 : (spliceV ys off zs ++ rest).length = (ys ++ rest).length := by simp [spliceV_length]
  refine ⟨_, hrun, hr.put hl (o := .row (splice xs off l) e fz ext) hb ⟨spliceV ys off zs, rest, by rw [hl2], hvl.splice hz off, ?_⟩ rfl rfl rfl rfl⟩
  rw [hl1, hl2]; exact hext

theorem sStoreQ_ok {t : TypeId} {a x : SV} {av xv : Value} (h : sStoreQ E t a x s = some s') (hr : HR ν M w0 s w) (ha : VR ν a av) (hx : VR ν x xv) :
    s'.ob → s.ob ∧ GoodU E.P (Instr.storeAt t av xv) ν M w0 w s' := by
  unfold sStoreQ at h
  split at h
  · rename_i i off l info hc hinfo
    obtain ⟨b, hb, rfl⟩ := VR.ptr_iff.1 ha
    have hcl := SV.cells_ok hc hx
    cases hb1 : (l.length == info.size && l.all SV.flat)
    · rw [hb1] at h; cases h
    · rw [hb1] at h
      rw [Bool.and_eq_true] at hb1
      obtain ⟨hsz, hflat⟩ := hb1
      have hsz : l.length = info.size := by simpa using hsz
      simp only [cond_true] at h
      split at h
      · rename_i xs e fz ext hl
        cases h
        intro ob
        have ob : (s.owe (off + l.length ≤ xs.length ∧ fzOk fz off l.length = true)).ob := ob
        obtain ⟨w', hrun, hr'⟩ := (hr.same (SH.owe_same s (off + l.length ≤ xs.length ∧ fzOk fz off l.length = true))).spliced (E := E) hl hb hcl ob.2.1 ob.2.2 hflat
        refine ⟨ob.1, ν, w', Val.Le.refl _, ?_, hr'⟩
        have hne : xv.cells.size = info.size := by rw [← hsz, ← hcl.length]; simp
        simp [Instr.storeAt, Instr.sureAddr, storeVar, run_sizeOf hinfo, hne, hrun]
      · cases h
  · cases h

theorem sStore0_ok {t : TypeId} {a x : SV} {av xv : Value} (h : sStore0 E t a x s = some s') (hr : HR ν M w0 s w) (ha : VR ν a av) (hx : VR ν x xv) :
    (s'.ob → s.ob) ∧ GoodU E.P (Instr.storeAt t av xv) ν M w0 w s' := by
  unfold sStore0 at h
  split at h
  · rename_i i off l info hc hinfo
    obtain ⟨b, hb, rfl⟩ := VR.ptr_iff.1 ha
    have hcl := SV.cells_ok hc hx
    cases hb1 : (l.length == info.size && l.all SV.flat)
    · rw [hb1] at h; cases h
    · rw [hb1] at h
      rw [Bool.and_eq_true] at hb1
      obtain ⟨hsz, hflat⟩ := hb1
      have hsz : l.length = info.size := by simpa using hsz
      simp only [cond_true] at h
      split at h
      · rename_i xs e fz ext hl
        cases hb2 : (Nat.ble (off + l.length) xs.length && fzOk fz off l.length)
        · rw [hb2] at h; cases h
        · rw [hb2] at h; cases h
          rw [Bool.and_eq_true] at hb2
          obtain ⟨w', hrun, hr'⟩ := hr.spliced (E := E) hl hb hcl (Nat.le_of_ble_eq_true hb2.1) hb2.2 hflat
          refine ⟨fun k => k, ν, w', Val.Le.refl _, ?_, hr'⟩
          have hne : xv.cells.size = info.size := by rw [← hsz, ← hcl.length]; simp
          simp [Instr.storeAt, Instr.sureAddr, storeVar, run_sizeOf hinfo, hne, hrun]
      · cases h
  · cases h

theorem sStore_ok {t : TypeId} {a x : SV} {av xv : Value} (h : sStore E t a x s = some s') (hr : HR ν M w0 s w) (ha : VR ν a av) (hx : VR ν x xv) :
    s'.ob → s.ob ∧ GoodU E.P (Instr.storeAt t av xv) ν M w0 w s' := by
  unfold sStore at h
  split at h
  · exact sStoreQ_ok h hr ha hx
  · exact fun ob => ⟨(sStore0_ok h hr ha hx).1 ob, (sStore0_ok h hr ha hx).2⟩

/-! ### new objects -/

theorem sNew_ok {o : SO} {i : Nat} (h : sNew o s = some (i, s')) (hr : HR ν M w0 s w) (c : Nat) {r : Obj} (ho : ∀ ν', ν.Le ν' → ν' i = some (w.heap.size, c) → OR ν' i o r) :
    (s'.ob = s.ob) ∧ ∃ ν', ν.Le ν' ∧ ν' i = some (w.heap.size, c) ∧ HR ν' M w0 s' { w with heap := w.heap.push r } := by
  unfold sNew at h
  cases hroom : s.room
  · rw [hroom] at h; cases h
  · rw [hroom] at h; cases h
    have hnx : ν s.nx = none := hr.fresh _ (Nat.le_refl _)
    have hle := Val.put_le hnx (w.heap.size, c)
    obtain ⟨_, hr'⟩ := hr.new (w' := { w with heap := w.heap.push r }) hroom c (ho _ hle (Val.put_self _ _ _)) rfl rfl rfl rfl
    exact ⟨rfl, _, hle, Val.put_self _ _ _, hr'⟩

theorem sBox_ok {t : TypeId} {x y : SV} {xv : Value} (h : sBox t x s = some (y, s')) (hr : HR ν M w0 s w) (hx : VR ν x xv) :
    (s'.ob = s.ob) ∧ GoodV E.P (Instr.box t xv) ν M w0 w y s' := by
  unfold sBox at h
  cases hc : x.cells with
  | none => rw [hc] at h; cases h
  | some l =>
    rw [hc] at h
    simp only [Option.bind_eq_bind, Option.bind_some] at h
    cases hn : sNew (.row l t (0, 0) none) s with
    | none => rw [hn] at h; cases h
    | some p =>
      obtain ⟨i, s1⟩ := p
      rw [hn] at h; cases h
      have hcl := SV.cells_ok hc hx
      obtain ⟨hob, ν', hle, hi, hr'⟩ := sNew_ok hn hr 0 (r := .cells xv.cells t) (fun ν' hle _ => ⟨xv.cells.toList, [], by simp, hcl.mono hle, by simpa [ExtR] using hcl.length⟩)
      refine ⟨hob, ν', _, _, hle, ?_, VR.ptr_iff.2 ⟨_, hi, rfl⟩, hr'⟩
      simp [Instr.box, newVar, newRow]

theorem sAlloc_ok {t : TypeId} {y : SV} (h : sAlloc E t s = some (y, s')) (hr : HR ν M w0 s w) :
    (s'.ob = s.ob) ∧ GoodV E.P (Instr.alloc t true (.tuple #[])) ν M w0 w y s' := by
  unfold sAlloc at h
  cases hi : tinfo E t with
  | none => rw [hi] at h; cases h
  | some info =>
    rw [hi] at h
    simp only [Option.bind_eq_bind, Option.bind_some] at h
    cases hz : info.zero with
    | none => rw [hz] at h; cases h
    | some z =>
      rw [hz] at h
      simp only [Option.bind_some] at h
      obtain ⟨hob, ν', w', v, hle, hrun, hv, hr'⟩ := sBox_ok (E := E) (xv := z) h hr (VR.v_iff.2 rfl)
      refine ⟨hob, ν', w', v, hle, ?_, hv, hr'⟩
      rw [← hrun]
      simp [Instr.alloc, Instr.box, run_zeroValue hi hz]

end
end Go.Rx
set_option linter.unusedVariables false
set_option linter.unusedSimpArgs false
namespace Go.Rx
section
variable {ν : Val} {M : Own} {w0 w : World} {s s' : SH} {E : Env}

theorem sFieldAddr_ok {t : TypeId} {x y : SV} {f : Nat} {xv : Value} (h : sFieldAddr E t x f = some y) (hx : VR ν x xv) :
    ∃ yv, (Instr.fieldAt t xv f).run E.P w = .ok yv w ∧ VR ν y yv := by
  unfold sFieldAddr at h
  split at h
  · rename_i i off fields hd
    obtain ⟨b, hb, rfl⟩ := VR.ptr_iff.1 hx
    split at h
    · rename_i fd hf
      split at h
      · rename_i info hinfo
        cases hz : (info.size == 0)
        · rw [hz] at h; cases h
          have hz : info.size ≠ 0 := by simpa using hz
          refine ⟨_, ?_, VR.ptr_iff.2 ⟨b, hb, rfl⟩⟩
          simp [Instr.fieldAt, run_underlying hd, hf, Instr.sureAddr, fieldPlace, run_sizeOf hinfo, hz, addr_add]
        · rw [hz] at h; cases h
      · cases h
    · cases h
  · cases h

theorem part_one {t : TypeId} {P : Program} {cs : List Value} {off : Nat} {v : Value} (hag : (isAgg t).run P w = .ok false w) (h : cs[off]? = some v) : (part t cs.toArray off).run P w = .ok v w := by
  simp [part, hag, h]

theorem part_many {t : TypeId} {P : Program} {cs : List Value} {off n : Nat} (hag : (isAgg t).run P w = .ok true w) (hs : (sizeOf t).run P w = .ok n w) :
    (part t cs.toArray off).run P w = .ok (.agg ((cs.drop off).take n).toArray) w := by
  simp [part, hag, hs, List.take_drop]

theorem sField_ok {t : TypeId} {x y : SV} {f : Nat} {xv : Value} (h : sField E t x f = some y) (hx : VR ν x xv) :
    ∃ yv, (Instr.field t xv f).run E.P w = .ok yv w ∧ VR ν y yv := by
  unfold sField at h
  split at h
  · rename_i l fields hd
    obtain ⟨a, rfl, ha⟩ := VR.agg_iff.1 hx
    split at h
    · rename_i fd hf
      split at h
      · rename_i hag
        obtain ⟨v, hv, hvr⟩ := ha.get h
        refine ⟨v, ?_, hvr⟩
        simp only [Instr.field, Sem.run_bind, run_underlying hd, Result.andThen_ok, hf, asAgg, Sem.run_pure]
        exact part_one (run_isAgg hag) hv
      · rename_i info hag hinfo
        cases hle : Nat.ble (fd.offset + info.size) l.length
        · rw [hle] at h; cases h
        · rw [hle] at h; cases h
          refine ⟨_, ?_, VR.agg_iff.2 ⟨_, rfl, (ha.drop fd.offset).take info.size⟩⟩
          simp only [Instr.field, Sem.run_bind, run_underlying hd, Result.andThen_ok, hf, asAgg, Sem.run_pure]
          exact part_many (run_isAgg hag) (run_sizeOf hinfo)
      · cases h
    · cases h
  · cases h

theorem SV.int_ok {x : SV} {k : IntKind} {n : Int} {y : Value} (h : x.int = some (k, n)) (hv : VR ν x y) : y = .int k n := by
  unfold SV.int at h
  split at h
  · cases h; exact VR.v_iff.1 hv
  · cases h

theorem inRange_ok {i : Int} {n : Nat} (h : inRange i n = true) : 0 ≤ i ∧ i < n := of_decide_eq_true h

theorem sIndexAddr_ok {t : TypeId} {x i y : SV} {xv iv : Value} (h : sIndexAddr E t x i s = some (y, s')) (hx : VR ν x xv) (hi : VR ν i iv) :
    s.Same s' ∧ (s'.ob → s.ob ∧ ∃ yv, (Instr.indexAt t xv iv).run E.P w = .ok yv w ∧ VR ν y yv) := by
  unfold sIndexAddr at h
  split at h
  · rename_i k n len elem b off hint hd
    cases ha : s.ask E (inRange n len) with
    | none => rw [ha] at h; cases h
    | some s1 =>
      rw [ha] at h
      cases hinfo : tinfo E elem with
      | none => rw [hinfo] at h; cases h
      | some info =>
        rw [hinfo] at h; cases h
        obtain ⟨hsame, hob⟩ := SH.ask_ok ha
        refine ⟨hsame, fun ob => ⟨(hob ob).1, ?_⟩⟩
        obtain ⟨c, hc, rfl⟩ := VR.ptr_iff.1 hx
        obtain rfl := SV.int_ok hint hi
        have hin := inRange_ok (hob ob).2
        refine ⟨_, ?_, VR.ptr_iff.2 ⟨c, hc, rfl⟩⟩
        simp [Instr.indexAt, asIntOf, run_underlying hd, Instr.sureAddr, run_sizeOf hinfo, hin, addr_add]
  · rename_i k n elem b off len cap hint hd
    cases ha : s.ask E (inRange n len) with
    | none => rw [ha] at h; cases h
    | some s1 =>
      rw [ha] at h
      cases hinfo : tinfo E elem with
      | none => rw [hinfo] at h; cases h
      | some info =>
        rw [hinfo] at h; cases h
        obtain ⟨hsame, hob⟩ := SH.ask_ok ha
        refine ⟨hsame, fun ob => ⟨(hob ob).1, ?_⟩⟩
        obtain ⟨c, hc, _, rfl⟩ := VR.sl_iff.1 hx
        obtain rfl := SV.int_ok hint hi
        have hin := inRange_ok (hob ob).2
        refine ⟨_, ?_, VR.ptr_iff.2 ⟨c, hc, rfl⟩⟩
        simp [Instr.indexAt, asIntOf, run_underlying hd, run_sizeOf hinfo, hin, addr_add]
  · cases h

theorem VRL.toList (ν : Val) (a : Array Value) : VRL ν (a.toList.map SV.v) a.toList := VRL.lits ν _

theorem sIndex_ok {t : TypeId} {x i y : SV} {xv iv : Value} (h : sIndex E t x i s = some (y, s')) (hx : VR ν x xv) (hi : VR ν i iv) :
    s.Same s' ∧ (s'.ob → s.ob ∧ ∃ yv, (Instr.index t xv iv).run E.P w = .ok yv w ∧ VR ν y yv) := by
  unfold sIndex at h
  split at h
  · rename_i k n len elem l hint hd
    cases ha : s.ask E (inRange n len) with
    | none => rw [ha] at h; cases h
    | some s1 =>
      rw [ha] at h
      cases hinfo : tinfo E elem with
      | none => rw [hinfo] at h; cases h
      | some info =>
        rw [hinfo] at h
        simp only [Option.bind_eq_bind, Option.bind_some] at h
        obtain ⟨hsame, hob⟩ := SH.ask_ok ha
        obtain ⟨a, rfl, hal⟩ := VR.agg_iff.1 hx
        obtain rfl := SV.int_ok hint hi
        have key : ∀ v, (part elem a.toArray (n.toNat * info.size)).run E.P w = .ok v w → s1.ob → (Instr.index t (.agg a.toArray) (.int k n)).run E.P w = .ok v w := by
          intro v hv ob
          have hin := inRange_ok (hob ob).2
          simp [Instr.index, asIntOf, run_underlying hd, hin, run_sizeOf hinfo, hv]
        split at h
        · rename_i hag
          cases hx : l[n.toNat * info.size]? with
          | none => rw [hx] at h; cases h
          | some z =>
            rw [hx] at h; cases h
            obtain ⟨v, hv, hvr⟩ := hal.get hx
            exact ⟨hsame, fun ob => ⟨(hob ob).1, v, key v (part_one (run_isAgg hag) hv) ob, hvr⟩⟩
        · rename_i hag
          cases hle : Nat.ble (n.toNat * info.size + info.size) l.length
          · rw [hle] at h; cases h
          · rw [hle] at h; cases h
            exact ⟨hsame, fun ob => ⟨(hob ob).1, _, key _ (part_many (run_isAgg hag) (run_sizeOf hinfo)) ob, VR.agg_iff.2 ⟨_, rfl, (hal.drop _).take _⟩⟩⟩
        · cases h
  · rename_i k n len elem cs hint hd
    cases ha : s.ask E (inRange n len) with
    | none => rw [ha] at h; cases h
    | some s1 =>
      rw [ha] at h
      cases hinfo : tinfo E elem with
      | none => rw [hinfo] at h; cases h
      | some info =>
        rw [hinfo] at h
        simp only [Option.bind_eq_bind, Option.bind_some] at h
        obtain ⟨hsame, hob⟩ := SH.ask_ok ha
        obtain rfl := VR.v_iff.1 hx
        obtain rfl := SV.int_ok hint hi
        split at h
        · rename_i hag
          cases hx : cs[n.toNat * info.size]? with
          | none => rw [hx] at h; cases h
          | some z =>
            rw [hx] at h; cases h
            refine ⟨hsame, fun ob => ⟨(hob ob).1, z, ?_, VR.v_iff.2 rfl⟩⟩
            have hin := inRange_ok (hob ob).2
            simp [Instr.index, asIntOf, run_underlying hd, hin, run_sizeOf hinfo, part, run_isAgg hag, hx]
        · cases h
  · rename_i k n b hint hd
    cases ha : s.ask E (inRange n b.size) with
    | none => rw [ha] at h; cases h
    | some s1 =>
      rw [ha] at h; cases h
      obtain ⟨hsame, hob⟩ := SH.ask_ok ha
      obtain rfl := VR.v_iff.1 hx
      obtain rfl := SV.int_ok hint hi
      refine ⟨hsame, fun ob => ⟨(hob ob).1, _, ?_, VR.v_iff.2 rfl⟩⟩
      have hin := inRange_ok (hob ob).2
      have hlt : n.toNat < b.size := by omega
      have hg : b[n.toNat]? = some (b.data.getD n.toNat 0) := by
        have h1 : b[n.toNat]? = some b[n.toNat] := getElem?_pos b n.toNat hlt
        rw [h1]
        have hlt' : n.toNat < b.data.size := hlt
        simp only [Array.getD, hlt', dif_pos]
        rfl
      simp only [Instr.index, asIntOf, Sem.run_bind, Sem.run_pure, Result.andThen_ok, run_underlying hd, if_pos hin.1, hg]
  · cases h

end
end Go.Rx
set_option linter.unusedVariables false
set_option linter.unusedSimpArgs false
namespace Go.Rx
section
variable {ν : Val} {M : Own} {w0 w : World} {s s' : SH} {E : Env}

/-- An operand that may be wanting. -/
inductive OptR (ν : Val) : Option SV → Option Value → Prop
  | none : OptR ν none none
  | some {x : SV} {v : Value} (h : VR ν x v) : OptR ν (some x) (some v)

theorem optInt_ok {x : Option SV} {v : Option Value} {o : Option Int} (h : optInt x = some o) (hv : OptR ν x v) :
    (o = none ∧ v = none) ∨ ∃ k n, o = some n ∧ v = some (.int k n) := by
  cases hv with
  | none => cases h; exact .inl ⟨rfl, rfl⟩
  | @some x v hv =>
    unfold optInt at h
    simp only at h
    split at h
    · rename_i k n hint
      cases h
      exact .inr ⟨k, n, rfl, by rw [SV.int_ok hint hv]⟩
    · cases h

theorem run_sliceBound {P : Program} {k : IntKind} {i : Int} {y : Nat} {c : BoundsCode} (h : 0 ≤ i ∧ i ≤ y) : (Instr.sliceBound (.int k i) y c).run P w = .ok i.toNat w := by
  simp [Instr.sliceBound, asIntOf, h]

theorem sBounds_ok {len cap cap' : Nat} {lo hi : Option Int} {lv hv : Option Value} {l h : Nat} (hh : sBounds E len cap lo hi s = some (l, h, s'))
    (hlo : (lo = none ∧ lv = none) ∨ ∃ k n, lo = some n ∧ lv = some (.int k n)) (hhi : (hi = none ∧ hv = none) ∨ ∃ k n, hi = some n ∧ hv = some (.int k n)) (hcap : cap ≤ cap') (isS : Bool) (hlen : len ≤ cap) :
    s.Same s' ∧ (s'.ob → s.ob ∧ (Instr.sliceBounds isS len cap' lv hv none).run E.P w = .ok (l, h, cap') w ∧ l ≤ h ∧ h ≤ cap) := by
  unfold sBounds at hh
  rcases hhi with ⟨rfl, rfl⟩ | ⟨kh, nh, rfl, rfl⟩
  · rcases hlo with ⟨rfl, rfl⟩ | ⟨kl, nl, rfl, rfl⟩
    · simp only [Option.bind_eq_bind, Option.bind_some] at hh
      cases hh
      exact ⟨.refl _, fun ob => ⟨ob, by simp [Instr.sliceBounds], Nat.zero_le _, hlen⟩⟩
    · simp only [Option.bind_eq_bind, Option.bind_some] at hh
      cases ha : s.ask E (decide (0 ≤ nl ∧ nl ≤ len)) with
      | none => rw [ha] at hh; cases hh
      | some s1 =>
        rw [ha] at hh; cases hh
        obtain ⟨hsame, hob⟩ := SH.ask_ok ha
        refine ⟨hsame, fun ob => ⟨(hob ob).1, ?_, ?_, hlen⟩⟩
        · have hb := of_decide_eq_true (hob ob).2
          simp [Instr.sliceBounds, run_sliceBound hb]
        · have hb := of_decide_eq_true (hob ob).2; dsimp only; omega
  · simp only [Option.bind_eq_bind] at hh
    cases ha : s.ask E (decide (0 ≤ nh ∧ nh ≤ cap)) with
    | none => rw [ha] at hh; cases hh
    | some s1 =>
      rw [ha] at hh
      simp only [Option.map_some, Option.bind_some] at hh
      obtain ⟨hsame, hob⟩ := SH.ask_ok ha
      rcases hlo with ⟨rfl, rfl⟩ | ⟨kl, nl, rfl, rfl⟩
      · cases hh
        refine ⟨hsame, fun ob => ⟨(hob ob).1, ?_, Nat.zero_le _, ?_⟩⟩
        · have hb := of_decide_eq_true (hob ob).2
          have hb' : 0 ≤ nh ∧ nh ≤ (cap' : Int) := ⟨hb.1, by omega⟩
          simp [Instr.sliceBounds, run_sliceBound hb']
        · have hb := of_decide_eq_true (hob ob).2; omega
      · dsimp only at hh
        cases ha2 : s1.ask E (decide (0 ≤ nl ∧ nl ≤ nh.toNat)) with
        | none => rw [ha2] at hh; cases hh
        | some s2 =>
          rw [ha2] at hh; cases hh
          obtain ⟨hsame2, hob2⟩ := SH.ask_ok ha2
          refine ⟨hsame.trans hsame2, fun ob => ⟨(hob (hob2 ob).1).1, ?_, ?_, ?_⟩⟩
          · have hb := of_decide_eq_true (hob (hob2 ob).1).2
            have hb' : 0 ≤ nh ∧ nh ≤ (cap' : Int) := ⟨hb.1, by omega⟩
            have hc := of_decide_eq_true (hob2 ob).2
            simp [Instr.sliceBounds, run_sliceBound hb', run_sliceBound hc]
          · have hc := of_decide_eq_true (hob2 ob).2; dsimp only; omega
          · have hb := of_decide_eq_true (hob (hob2 ob).1).2; omega

theorem sSlice_ok {t : TypeId} {x y : SV} {lo hi mx : Option SV} {xv : Value} {lv hv mv : Option Value} (h : sSlice E t x lo hi mx s = some (y, s')) (hx : VR ν x xv)
    (hlo : OptR ν lo lv) (hhi : OptR ν hi hv) (hmx : OptR ν mx mv) :
    s.Same s' ∧ (s'.ob → s.ob ∧ ∃ yv, (Instr.sliceAt t xv lv hv mv).run E.P w = .ok yv w ∧ VR ν y yv) := by
  unfold sSlice at h
  cases hol : optInt lo with
  | none => rw [hol] at h; cases h
  | some ol =>
  cases hoh : optInt hi with
  | none => rw [hol, hoh] at h; cases h
  | some oh =>
  rw [hol, hoh] at h
  simp only [Option.bind_eq_bind, Option.bind_some] at h
  have rl := optInt_ok hol hlo
  have rh := optInt_ok hoh hhi
  split at h
  · -- strings
    rename_i b hd
    cases hmx
    obtain rfl := VR.v_iff.1 hx
    cases hb : sBounds E b.size b.size ol oh s with
    | none => rw [hb] at h; cases h
    | some p =>
      obtain ⟨l, hh, s1⟩ := p
      rw [hb] at h; cases h
      obtain ⟨hsame, hob⟩ := sBounds_ok (w := w) hb rl rh (Nat.le_refl _) false (Nat.le_refl _)
      refine ⟨hsame, fun ob => ⟨(hob ob).1, _, ?_, VR.v_iff.2 rfl⟩⟩
      simp only [Instr.sliceAt, Instr.slice, Sem.run_bind, run_underlying hd, Result.andThen_ok, Option.isSome_none, Bool.false_eq_true, if_false, (hob ob).2.1, Sem.run_pure]
  · -- an array behind a pointer
    rename_i n elem i off hd
    cases hmx
    obtain ⟨c, hc, rfl⟩ := VR.ptr_iff.1 hx
    cases hb : sBounds E n n ol oh s with
    | none => rw [hb] at h; cases h
    | some p =>
      obtain ⟨l, hh, s1⟩ := p
      rw [hb] at h
      simp only [Option.bind_some] at h
      cases hinfo : tinfo E elem with
      | none => rw [hinfo] at h; cases h
      | some info =>
        rw [hinfo] at h
        simp only [Option.bind_some] at h
        cases hnl : (n == l)
        · rw [hnl] at h; cases h
          have hnl : n ≠ l := by simpa using hnl
          obtain ⟨hsame, hob⟩ := sBounds_ok (w := w) hb rl rh (Nat.le_refl _) false (Nat.le_refl _)
          refine ⟨hsame, fun ob => ⟨(hob ob).1, _, ?_, VR.sl_iff.2 ⟨c, hc, ?_, rfl⟩⟩⟩
          · simp only [Instr.sliceAt, Sem.run_bind, run_underlying hd, Result.andThen_ok, Instr.sureAddr, Sem.run_pure, (hob ob).2.1, run_sizeOf hinfo, if_neg hnl, addr_add, Option.getD_some]
          · obtain ⟨_, _, h1, h2⟩ := hob ob
            simp only [Option.getD_some]; omega
        · rw [hnl] at h; cases h
  · -- a slice whose room is told
    rename_i elem i off len cap hd
    cases hmx
    obtain ⟨c, hc, hlen, rfl⟩ := VR.sl_iff.1 hx
    simp only [Option.getD_some] at hlen
    cases hb : sBounds E len cap ol oh s with
    | none => rw [hb] at h; cases h
    | some p =>
      obtain ⟨l, hh, s1⟩ := p
      rw [hb] at h
      simp only [Option.bind_some] at h
      cases hinfo : tinfo E elem with
      | none => rw [hinfo] at h; cases h
      | some info =>
        rw [hinfo] at h
        simp only [Option.bind_some] at h
        obtain ⟨hsame, hob⟩ := sBounds_ok (w := w) hb rl rh (Nat.le_refl _) true hlen
        cases hdec : s1.dec E (decide (cap = l)) with
        | mk e s2 =>
          obtain ⟨hsame2, hob2⟩ := SH.dec_ok hdec
          rw [hdec] at h
          cases e
          · cases h
            refine ⟨hsame.trans hsame2, fun ob => ?_⟩
            obtain ⟨ob1, he⟩ := hob2 ob
            obtain ⟨ob0, hrun, h1, h2⟩ := hob ob1
            have he := of_decide_eq_false he
            refine ⟨ob0, _, ?_, VR.sl_iff.2 ⟨c, hc, ?_, rfl⟩⟩
            · simp only [Instr.sliceAt, Instr.slice, Sem.run_bind, run_underlying hd, Result.andThen_ok, Option.getD_some, hrun, run_sizeOf hinfo, Sem.run_pure, if_neg he, Option.map_some, addr_add]
            · simp only [Option.getD_some]; omega
          · cases h
            refine ⟨hsame.trans hsame2, fun ob => ?_⟩
            obtain ⟨ob1, he⟩ := hob2 ob
            obtain ⟨ob0, hrun, h1, h2⟩ := hob ob1
            have he := of_decide_eq_true he
            refine ⟨ob0, _, ?_, VR.sl_iff.2 ⟨c, hc, ?_, rfl⟩⟩
            · simp only [Instr.sliceAt, Instr.slice, Sem.run_bind, run_underlying hd, Result.andThen_ok, Option.getD_some, hrun, run_sizeOf hinfo, Sem.run_pure, if_pos he]
            · simp only [Option.getD_some]; omega
  · -- a slice whose room is not told
    rename_i elem i off len hd
    cases hmx
    obtain ⟨c, hc, hlen, rfl⟩ := VR.sl_iff.1 hx
    simp only [Option.getD_none] at hlen
    cases hb : sBounds E len len ol oh s with
    | none => rw [hb] at h; cases h
    | some p =>
      obtain ⟨l, hh, s1⟩ := p
      rw [hb] at h
      simp only [Option.bind_some] at h
      cases hinfo : tinfo E elem with
      | none => rw [hinfo] at h; cases h
      | some info =>
      rw [hinfo] at h
      simp only [Option.bind_some] at h
      cases hdec : s1.dec E (l == 0) with
      | mk e0 s2 =>
      obtain ⟨hsame2, hob2⟩ := SH.dec_ok hdec
      rw [hdec] at h
      obtain ⟨hsame, hob⟩ := sBounds_ok (w := w) hb rl rh hlen true (Nat.le_refl _)
      cases e0
      · simp only [cond_false] at h
        cases hask : s2.ask E (info.size == 1 && Nat.blt l len) with
        | none => rw [hask] at h; cases h
        | some s3 =>
        rw [hask] at h; cases h
        obtain ⟨hsame3, hob3⟩ := SH.ask_ok hask
        refine ⟨(hsame.trans hsame2).trans hsame3, fun ob => ?_⟩
        obtain ⟨ob2, hz⟩ := hob3 ob
        obtain ⟨ob1, hl0⟩ := hob2 ob2
        have hl0 : l ≠ 0 := by simpa using hl0
        rw [Bool.and_eq_true] at hz
        obtain ⟨hz1, hz2⟩ := hz
        have hz1 : info.size = 1 := by simpa using hz1
        have hz2 := blt_iff.1 hz2
        obtain ⟨ob0, hrun, h1, h2⟩ := hob ob1
        refine ⟨ob0, _, ?_, VR.sl_iff.2 ⟨c, hc, ?_, rfl⟩⟩
        · simp only [Instr.sliceAt, Instr.slice, Sem.run_bind, run_underlying hd, Result.andThen_ok, Option.getD_none, hrun, run_sizeOf hinfo, Sem.run_pure]
          rw [if_neg (by omega)]
          simp only [hz1, Nat.mul_one, Option.map_some, addr_add, show c.2 - (off + l) = c.2 - off - l from by omega]
        · simp only [Option.getD_none]; omega
      · simp only [cond_true] at h
        cases h
        refine ⟨hsame.trans hsame2, fun ob => ?_⟩
        obtain ⟨ob1, hl0⟩ := hob2 ob
        obtain rfl : l = 0 := by simpa using hl0
        obtain ⟨ob0, hrun, h1, h2⟩ := hob ob1
        refine ⟨ob0, _, ?_, VR.sl_iff.2 ⟨c, hc, ?_, rfl⟩⟩
        · simp only [Instr.sliceAt, Instr.slice, Sem.run_bind, run_underlying hd, Result.andThen_ok, Option.getD_none, hrun, run_sizeOf hinfo, Sem.run_pure]
          split
          · rename_i e; rw [e]; rfl
          · simp [Addr.add]
        · simp only [Option.getD_none]; omega
  · -- the end of a slice
    rename_i elem i off len adv hd
    cases hmx
    obtain ⟨c, hc, rfl⟩ := VR.fin_iff.1 hx
    cases hb : sBounds E 0 0 ol oh s with
    | none => rw [hb] at h; cases h
    | some p =>
      obtain ⟨l, hh, s1⟩ := p
      rw [hb] at h
      simp only [Option.bind_some] at h
      cases hinfo : tinfo E elem with
      | none => rw [hinfo] at h; cases h
      | some info =>
      rw [hinfo] at h; cases h
      obtain ⟨hsame, hob⟩ := sBounds_ok (w := w) hb rl rh (Nat.zero_le (c.2 - off - len)) true (Nat.zero_le _)
      refine ⟨hsame, fun ob => ?_⟩
      obtain ⟨ob0, hrun, h1, h2⟩ := hob ob
      obtain rfl : hh = 0 := by omega
      obtain rfl : l = 0 := by omega
      refine ⟨ob0, _, ?_, VR.fin_iff.2 ⟨c, hc, rfl⟩⟩
      simp only [Instr.sliceAt, Instr.slice, Sem.run_bind, run_underlying hd, Result.andThen_ok, hrun, run_sizeOf hinfo, Sem.run_pure]
      split
      · rename_i e; rw [e]
      · simp [Addr.add]
  · -- three indexes
    rename_i elem i off len cap mx hd
    cases hmx with
    | some hm =>
    rename_i mv
    obtain ⟨c, hc, hlen, rfl⟩ := VR.sl_iff.1 hx
    have hcap : cap.getD len ≤ cap.getD (c.2 - off) := by cases cap <;> simp_all
    generalize hC : cap.getD (c.2 - off) = C at hlen hcap
    cases hmi : mx.int with
    | none => rw [hmi] at h; cases h
    | some km =>
    obtain ⟨km, m⟩ := km
    rw [hmi] at h
    simp only [Option.bind_some] at h
    obtain rfl := SV.int_ok hmi hm
    rcases rh with ⟨rfl, _⟩ | ⟨kh, nh, rfl, rfl⟩
    · cases h
    simp only [Option.isSome_some, guard', cond_true, Option.bind_some] at h
    cases ha : s.ask E (decide (0 ≤ m ∧ m ≤ cap.getD len)) with
    | none => rw [ha] at h; cases h
    | some s1 =>
    rw [ha] at h
    simp only [Option.bind_some, sBounds3, Option.bind_eq_bind] at h
    obtain ⟨hsame1, hob1⟩ := SH.ask_ok ha
    cases ha2 : s1.ask E (decide (0 ≤ nh ∧ nh ≤ m.toNat)) with
    | none => rw [ha2] at h; cases h
    | some s2 =>
    rw [ha2] at h
    simp only [Option.bind_some] at h
    obtain ⟨hsame2, hob2⟩ := SH.ask_ok ha2
    have key : ∀ (l : Nat) (s3 : SH), s2.Same s3 → (s3.ob → s2.ob ∧ l ≤ nh.toNat ∧ ∀ w, (Instr.sliceBounds true len C lv (some (.int kh nh)) (some (.int km m))).run E.P w = .ok (l, nh.toNat, m.toNat) w) →
        ((tinfo E elem).bind fun info => match s3.dec E (decide (m.toNat = l)) with
          | (e, s) => bif e then some (SV.sl i off (nh.toNat - l) (some (m.toNat - l)), s) else some (SV.sl i (off + l * info.size) (nh.toNat - l) (some (m.toNat - l)), s)) = some (y, s') →
        s.Same s' ∧ (s'.ob → s.ob ∧ ∃ yv, (Instr.sliceAt t (.slice (some ⟨c.1, off, none⟩) len C) lv (some (.int kh nh)) (some (.int km m))).run E.P w = .ok yv w ∧ VR ν y yv) := by
      intro l s3 hsame3 hob3 h
      cases hinfo : tinfo E elem with
      | none => rw [hinfo] at h; cases h
      | some info =>
      rw [hinfo] at h
      simp only [Option.bind_some] at h
      cases hdec : s3.dec E (decide (m.toNat = l)) with
      | mk e s4 =>
      obtain ⟨hsame4, hob4⟩ := SH.dec_ok hdec
      rw [hdec] at h
      have hs : s.Same s4 := ((hsame1.trans hsame2).trans hsame3).trans hsame4
      cases e
      · cases h
        refine ⟨hs, fun ob => ?_⟩
        obtain ⟨ob3, he⟩ := hob4 ob
        obtain ⟨ob2, h1, hrun⟩ := hob3 ob3
        have he := of_decide_eq_false he
        have hm' := of_decide_eq_true (hob1 (hob2 ob2).1).2
        have hh' := of_decide_eq_true (hob2 ob2).2
        refine ⟨(hob1 (hob2 ob2).1).1, _, ?_, VR.sl_iff.2 ⟨c, hc, ?_, rfl⟩⟩
        · simp only [Instr.sliceAt, Instr.slice, Sem.run_bind, run_underlying hd, Result.andThen_ok, Option.getD_some, hrun, run_sizeOf hinfo, Sem.run_pure, if_neg he, Option.map_some, addr_add]
        · simp only [Option.getD_some]; omega
      · cases h
        refine ⟨hs, fun ob => ?_⟩
        obtain ⟨ob3, he⟩ := hob4 ob
        obtain ⟨ob2, h1, hrun⟩ := hob3 ob3
        have he := of_decide_eq_true he
        have hm' := of_decide_eq_true (hob1 (hob2 ob2).1).2
        have hh' := of_decide_eq_true (hob2 ob2).2
        refine ⟨(hob1 (hob2 ob2).1).1, _, ?_, VR.sl_iff.2 ⟨c, hc, ?_, rfl⟩⟩
        · simp only [Instr.sliceAt, Instr.slice, Sem.run_bind, run_underlying hd, Result.andThen_ok, Option.getD_some, hrun, run_sizeOf hinfo, Sem.run_pure, if_pos he]
        · simp only [Option.getD_some]; omega
    rcases rl with ⟨rfl, rfl⟩ | ⟨kl, nl, rfl, rfl⟩
    · refine key 0 s2 (.refl _) (fun ob => ⟨ob, Nat.zero_le _, fun w => ?_⟩) h
      have hm' : 0 ≤ m ∧ m ≤ (C : Int) := by have := of_decide_eq_true (hob1 (hob2 ob).1).2; omega
      have hh' := of_decide_eq_true (hob2 ob).2
      simp [Instr.sliceBounds, run_sliceBound hm', run_sliceBound hh']
    · dsimp only at h
      cases ha3 : s2.ask E (decide (0 ≤ nl ∧ nl ≤ nh.toNat)) with
      | none => rw [ha3] at h; cases h
      | some s3 =>
      rw [ha3] at h
      obtain ⟨hsame3, hob3⟩ := SH.ask_ok ha3
      refine key nl.toNat s3 hsame3 (fun ob => ?_) h
      have hl' := of_decide_eq_true (hob3 ob).2
      refine ⟨(hob3 ob).1, by omega, fun w => ?_⟩
      have hm' : 0 ≤ m ∧ m ≤ (C : Int) := by have := of_decide_eq_true (hob1 (hob2 (hob3 ob).1).1).2; omega
      have hh' := of_decide_eq_true (hob2 (hob3 ob).1).2
      simp [Instr.sliceBounds, run_sliceBound hm', run_sliceBound hh', run_sliceBound hl']
  · cases h

theorem sSliceB_ok {t : TypeId} {x : SV} {L : List (SV × SH)} {lo hi mx : Option SV} {xv : Value} {lv hv mv : Option Value} (h : sSliceB E t x lo hi mx s = some L) (hx : VR ν x xv)
    (hlo : OptR ν lo lv) (hhi : OptR ν hi hv) (hmx : OptR ν mx mv) :
    ∃ p ∈ L, s.Same p.2 ∧ (p.2.ob → s.ob ∧ ∃ yv, (Instr.sliceAt t xv lv hv mv).run E.P w = .ok yv w ∧ VR ν p.1 yv) := by
  unfold sSliceB at h
  cases hol : optInt lo with
  | none => rw [hol] at h; cases h
  | some ol =>
  cases hoh : optInt hi with
  | none => rw [hol, hoh] at h; cases h
  | some oh =>
  rw [hol, hoh] at h
  simp only [Option.bind_eq_bind, Option.bind_some] at h
  have rl := optInt_ok hol hlo
  have rh := optInt_ok hoh hhi
  split at h
  · rename_i elem i off len hd
    cases hmx
    obtain ⟨c, hc, hlen, rfl⟩ := VR.sl_iff.1 hx
    simp only [Option.getD_none] at hlen
    cases hb : sBounds E len len ol oh s with
    | none => rw [hb] at h; cases h
    | some p =>
      obtain ⟨l, hh, s1⟩ := p
      rw [hb] at h
      simp only [Option.bind_some] at h
      cases hinfo : tinfo E elem with
      | none => rw [hinfo] at h; cases h
      | some info =>
      rw [hinfo] at h
      simp only [Option.bind_some] at h
      cases hz : ((info.size == 1 || off == 0) && Nat.beq l len && Nat.beq hh len)
      · rw [hz] at h; cases h
      rw [hz] at h; cases h
      rw [Bool.and_eq_true, Bool.and_eq_true] at hz
      obtain rfl := Nat.eq_of_beq_eq_true hz.1.2
      obtain rfl := Nat.eq_of_beq_eq_true hz.2
      obtain ⟨hsame, hob⟩ := sBounds_ok (w := w) hb rl rh hlen true (Nat.le_refl _)
      refine ⟨_, List.mem_singleton.2 rfl, hsame, fun ob => ?_⟩
      obtain ⟨ob0, hrun, h1, h2⟩ := hob ob
      refine ⟨ob0, _, ?_, VR.fin_iff.2 ⟨c, hc, rfl⟩⟩
      simp only [Instr.sliceAt, Instr.slice, Sem.run_bind, run_underlying hd, Result.andThen_ok, Option.getD_none, hrun, run_sizeOf hinfo, Sem.run_pure]
      by_cases hcap : c.2 - off = hh
      · rw [if_pos hcap, if_pos hcap]
        simp
      · rw [if_neg (by omega), if_neg hcap]
        simp only [Option.map_some, addr_add, Nat.sub_self]
  · cases h

theorem sSliceB_len {t : TypeId} {x : SV} {L : List (SV × SH)} {lo hi mx : Option SV} (h : sSliceB E t x lo hi mx s = some L) : ∃ p i o l a, L = [p] ∧ p.1 = .fin i o l a := by
  unfold sSliceB at h
  obtain ⟨ol, _, h⟩ := Option.bind_eq_some_iff.1 h
  obtain ⟨oh, _, h⟩ := Option.bind_eq_some_iff.1 h
  split at h
  · obtain ⟨p, _, h⟩ := Option.bind_eq_some_iff.1 h
    obtain ⟨l, hh, s1⟩ := p
    obtain ⟨info, _, h⟩ := Option.bind_eq_some_iff.1 h
    revert h
    generalize (_ && _ : Bool) = b
    cases b
    · intro h; cases h
    · intro h; cases h; exact ⟨_, _, _, _, _, rfl, rfl⟩
  · cases h

end
end Go.Rx
set_option linter.unusedVariables false
set_option linter.unusedSimpArgs false
namespace Go.Rx
section
variable {ν : Val} {M : Own} {w0 w : World} {s s' : SH} {E : Env}

theorem foldl_zipIdx_splice (zs : List Value) : ∀ (ys : List Value) (off k : Nat),
    (zs.zipIdx k).foldl (fun (cs : Array Value) p => cs.setIfInBounds (off + p.2) p.1) ys.toArray = (spliceV ys (off + k) zs).toArray := by
  induction zs with
  | nil => intros; rfl
  | cons z zs ih =>
    intro ys off k
    simp only [List.zipIdx_cons, List.foldl_cons, List.setIfInBounds_toArray, spliceV]
    rw [ih]; rfl

theorem fill_step (v : Value) (off : Nat) (ys : List Value) :
    v.cells.zipIdx.foldl (fun (cs : Array Value) (p : Value × Nat) => cs.setIfInBounds (off + p.2) p.1) ys.toArray = (spliceV ys off v.cells.toList).toArray := by
  rw [← Array.foldl_toList, Array.toList_zipIdx]
  exact foldl_zipIdx_splice _ ys off 0

/-- The parts of a literal. -/
inductive PartsR (ν : Val) : List (Nat × SV) → List (Nat × Value) → Prop
  | nil : PartsR ν [] []
  | cons {i : Nat} {x : SV} {v : Value} {l : List (Nat × SV)} {m : List (Nat × Value)} (h : VR ν x v) (t : PartsR ν l m) : PartsR ν ((i, x) :: l) ((i, v) :: m)

theorem fillS_ok {place : Nat → Option (Nat × Nat)} {parts : List (Nat × SV)} {pv : List (Nat × Value)} (hp : PartsR ν parts pv) :
    ∀ {cells out : List SV} {ys : List Value}, fillS place cells parts = some out → VRL ν cells ys → ∃ zs : List Value, Instr.fill place ys.toArray pv = some zs.toArray ∧ VRL ν out zs := by
  induction hp with
  | nil => intro cells out ys h hv; cases h; exact ⟨ys, rfl, hv⟩
  | @cons i x v l m hx _ ih =>
    intro cells out ys h hv
    unfold fillS at h
    split at h
    · rename_i off size lc hpl hc
      cases hb : (lc.length == size && Nat.ble (off + lc.length) cells.length)
      · rw [hb] at h; cases h
      · rw [hb] at h
        rw [Bool.and_eq_true] at hb
        have h1 : lc.length = size := by simpa using hb.1
        have h2 := Nat.le_of_ble_eq_true hb.2
        have hcl := SV.cells_ok hc hx
        have hlen := hcl.length
        have hyl := hv.length
        have hsz : v.cells.size = size := by rw [← h1, ← hlen]; simp
        obtain ⟨zs, hz, hzv⟩ := ih h (hv.splice hcl off)
        refine ⟨zs, ?_, hzv⟩
        simp only [Instr.fill, hpl]
        have hle : ¬ (off + v.cells.size > ys.toArray.size) := by simp; omega
        rw [if_neg (by simp [hsz] at hle ⊢; omega)]
        have := fill_step v off ys
        rw [this]; exact hz
    · cases h

theorem placesOf_ok {fields : List Field} : ∀ {l : List (Nat × Nat)}, placesOf E fields = some l →
    (fields.mapM fun f => do pure (f.offset, ← sizeOf f.type) : Sem (List (Nat × Nat))).run E.P w = .ok l w := by
  induction fields with
  | nil => intro l h; cases h; rfl
  | cons f fs ih =>
    intro l h
    unfold placesOf at h
    split at h
    · rename_i info l' hi hl
      cases h
      simp only [List.mapM_cons, Sem.run_bind, run_sizeOf hi, Result.andThen_ok, Sem.run_pure, ih hl]
    · cases h

theorem sBuild_ok {t : TypeId} {ps : List (Nat × SV)} {pv : List (Nat × Value)} {y : SV} (h : sBuild E t ps = some y) (hp : PartsR ν ps pv) :
    ∃ yv, (Instr.build t pv.toArray).run E.P w = .ok yv w ∧ VR ν y yv := by
  unfold sBuild at h
  cases hi : tinfo E t with
  | none => rw [hi] at h; cases h
  | some info =>
  rw [hi] at h
  simp only [Option.bind_eq_bind, Option.bind_some] at h
  cases hz : info.zero with
  | none => rw [hz] at h; cases h
  | some z =>
  rw [hz] at h
  simp only [Option.bind_some] at h
  split at h
  · rename_i fields hd
    cases hpl : placesOf E fields.toList with
    | none => rw [hpl] at h; cases h
    | some pl =>
    rw [hpl] at h
    simp only [Option.bind_some] at h
    cases hf : fillS (pl[·]?) (z.cells.toList.map .v) ps with
    | none => rw [hf] at h; cases h
    | some out =>
    rw [hf] at h; cases h
    obtain ⟨zs, hfill, hv⟩ := fillS_ok hp hf (VRL.lits ν z.cells.toList)
    refine ⟨_, ?_, VR.agg_iff.2 ⟨zs, rfl, hv⟩⟩
    have hm : (fields.mapM fun f => do pure (f.offset, ← sizeOf f.type) : Sem (Array (Nat × Nat))).run E.P w = .ok pl.toArray w := by
      rw [Array.mapM_eq_mapM_toList]
      simp only [Sem.run_map, placesOf_ok hpl, Result.andThen_ok]
    simp only [Instr.build, Sem.run_bind, run_zeroValue hi hz, Result.andThen_ok, run_underlying hd, hm]
    have : (fun x : Nat => pl.toArray[x]?) = (fun x : Nat => pl[x]?) := by funext x; simp
    simp only [this, Array.toArray_toList] at hfill ⊢
    rw [hfill]; rfl
  · rename_i n elem hd
    cases hei : tinfo E elem with
    | none => rw [hei] at h; cases h
    | some ei =>
    rw [hei] at h
    simp only [Option.bind_some] at h
    cases hf : fillS (fun i => some (i * ei.size, ei.size)) (z.cells.toList.map .v) ps with
    | none => rw [hf] at h; cases h
    | some out =>
    rw [hf] at h; cases h
    obtain ⟨zs, hfill, hv⟩ := fillS_ok hp hf (VRL.lits ν z.cells.toList)
    refine ⟨_, ?_, VR.agg_iff.2 ⟨zs, rfl, hv⟩⟩
    simp only [Instr.build, Sem.run_bind, run_zeroValue hi hz, Result.andThen_ok, run_underlying hd, run_sizeOf hei]
    simp only [Array.toArray_toList] at hfill ⊢
    rw [hfill]; rfl
  · cases h

end
end Go.Rx
set_option linter.unusedVariables false
set_option linter.unusedSimpArgs false
namespace Go.Rx
section
variable {ν : Val} {M : Own} {w0 w : World} {s s' : SH} {E : Env}

theorem range_map_mod (z : List Value) (n : Nat) : (List.range (n * z.length)).map (fun k => z.toArray[k % z.length]!) = (List.replicate n z).flatten := by
  induction n with
  | zero => simp
  | succ n ih =>
    have e : (n + 1) * z.length = z.length + n * z.length := by rw [Nat.succ_mul, Nat.add_comm]
    rw [e, List.range_add, List.map_append, List.replicate_succ, List.flatten_cons, ← ih]
    congr 1
    · apply List.ext_getElem
      · simp
      · intro k h1 h2
        simp at h1
        simp [Nat.mod_eq_of_lt h1, h1]
    · simp [List.map_map, Function.comp_def, Nat.add_mod_left]

theorem zeros_ok {info : TypeInfo} {n : Nat} {l : List SV} (h : zeros info n = some l) : ∃ z, info.zero = some z ∧ z.cells.size = info.size ∧
    VRL ν l ((List.range (n * info.size)).map (fun k => z.cells[k % z.cells.size]!)) := by
  unfold zeros at h
  cases hz : info.zero with
  | none => rw [hz] at h; cases h
  | some z =>
    rw [hz] at h
    cases hs : (z.cells.size == info.size)
    · simp only [hs] at h; cases h
    · simp only [hs] at h; cases h
      have hs : z.cells.size = info.size := by simpa using hs
      refine ⟨z, rfl, hs, ?_⟩
      have := range_map_mod z.cells.toList n
      simp only [Array.length_toList, Array.toArray_toList] at this
      rw [← hs, this]
      induction n with
      | zero => simpa using VRL.nil
      | succ n ih =>
        simp only [List.replicate_succ, List.flatten_cons]
        exact (VRL.lits ν _).append (ih (range_map_mod z.cells.toList n |>.symm ▸ by simp))

theorem sMakeSlice_ok {t : TypeId} {len cap y : SV} {lv cv : Value} (h : sMakeSlice E t len cap s = some (y, s')) (hr : HR ν M w0 s w) (hl : VR ν len lv) (hc : VR ν cap cv) :
    (s'.ob = s.ob) ∧ GoodV E.P (Instr.makeSlice t lv cv) ν M w0 w y s' := by
  unfold sMakeSlice at h
  cases hli : len.int with
  | none => rw [hli] at h; cases h
  | some kl =>
  obtain ⟨kl, l⟩ := kl
  cases hci : cap.int with
  | none => rw [hli, hci] at h; cases h
  | some kc =>
  obtain ⟨kc, c⟩ := kc
  rw [hli, hci] at h
  simp only [Option.bind_eq_bind, Option.bind_some] at h
  obtain rfl := SV.int_ok hli hl
  obtain rfl := SV.int_ok hci hc
  split at h
  · rename_i elem hd
    cases hi : tinfo E elem with
    | none => rw [hi] at h; cases h
    | some info =>
    rw [hi] at h
    simp only [Option.bind_some] at h
    cases hg : guard' (decide (0 ≤ l ∧ l ≤ c ∧ info.bytes * c ≤ 2 ^ 40 ∧ c ≤ 2 ^ 40)) with
    | none => rw [hg] at h; cases h
    | some u =>
    rw [hg] at h
    simp only [Option.bind_some] at h
    obtain ⟨g1, g2, g3, g4⟩ := of_decide_eq_true (guard_ok hg)
    cases hz : zeros info c.toNat with
    | none => rw [hz] at h; cases h
    | some zs =>
    rw [hz] at h
    simp only [Option.bind_some] at h
    obtain ⟨z, hz0, hzs, hvr⟩ := zeros_ok (ν := ν) hz
    cases hn : sNew (.row zs elem (0, 0) none) s with
    | none => rw [hn] at h; cases h
    | some p =>
    obtain ⟨i, s1⟩ := p
    rw [hn] at h; cases h
    have hlen := hvr.length
    have hwl : IntKind.i64.wrap l = l := IntWalk.i64_in l (by omega)
    have hwc : IntKind.i64.wrap c = c := IntWalk.i64_in c (by omega)
    have hbytes : ¬ ((info.bytes : Int) * c > 2 ^ 48) := by omega
    obtain ⟨hob, ν', hle, hi', hr'⟩ := sNew_ok hn hr c.toNat (r := .cells ((Array.range (c.toNat * info.size)).map (fun k => z.cells[k % z.cells.size]!)) elem)
      (fun ν' hle _ => ⟨_, [], by rw [fzReal_zero, List.append_nil, ← List.toArray_range, List.map_toArray], hvr.mono hle, by
        simp only [ExtR, List.append_nil]; exact hlen⟩)
    refine ⟨hob, ν', _, _, hle, ?_, VR.sl_iff.2 ⟨_, hi', ?_, rfl⟩, hr'⟩
    · simp only [Instr.makeSlice, Sem.run_bind, run_underlying hd, Result.andThen_ok, asInt, asIntOf, Sem.run_pure, run_typeInfo hi, hwl, hwc]
      rw [if_neg (by simp; omega)]
      simp only [Sem.run_bind, run_askRoom, Result.andThen_ok, run_sizeOf hi]
      by_cases hn0 : c.toNat * info.size = 0
      · have r0 : Array.range 0 = #[] := rfl
        simp [hn0, r0, newRow]
      · simp [hn0, newRow, run_zeroValue hi hz0]
    · simp only [Option.getD_some]; omega
  · cases h

end
end Go.Rx
set_option linter.unusedVariables false
set_option linter.unusedSimpArgs false
namespace Go.Rx
section
variable {ν : Val} {M : Own} {w0 w : World} {s s' : SH} {E : Env}

theorem array_range_map (n : Nat) (f : Nat → Value) : (Array.range n).map f = ((List.range n).map f).toArray := by
  rw [← List.toArray_range, List.map_toArray]

theorem sBuildSlice_ok {t : TypeId} {len : Nat} {ps : List (Nat × SV)} {pv : List (Nat × Value)} {y : SV} (h : sBuildSlice E t len ps s = some (y, s')) (hr : HR ν M w0 s w) (hp : PartsR ν ps pv) :
    (s'.ob = s.ob) ∧ GoodV E.P (Instr.buildSlice t len pv.toArray) ν M w0 w y s' := by
  unfold sBuildSlice at h
  split at h
  · rename_i elem hd
    cases hi : tinfo E elem with
    | none => rw [hi] at h; cases h
    | some info =>
    rw [hi] at h
    simp only [Option.bind_eq_bind, Option.bind_some] at h
    cases hg : guard' (Nat.ble (len * info.size) 16777216) with
    | none => rw [hg] at h; cases h
    | some u =>
    rw [hg] at h
    simp only [Option.bind_some] at h
    have hg := Nat.le_of_ble_eq_true (guard_ok hg)
    cases hz : zeros info len with
    | none => rw [hz] at h; cases h
    | some zs =>
    rw [hz] at h
    simp only [Option.bind_some] at h
    obtain ⟨z, hz0, hzs, hvr⟩ := zeros_ok (ν := ν) hz
    cases hf : fillS (fun i => some (i * info.size, info.size)) zs ps with
    | none => rw [hf] at h; cases h
    | some l =>
    rw [hf] at h
    simp only [Option.bind_some] at h
    obtain ⟨ys, hfill, hlv⟩ := fillS_ok hp hf hvr
    cases hn : sNew (.row l elem (0, 0) none) s with
    | none => rw [hn] at h; cases h
    | some p =>
    obtain ⟨i, s1⟩ := p
    rw [hn] at h; cases h
    obtain ⟨hob, ν', hle, hi', hr'⟩ := sNew_ok hn hr 0 (r := .cells ys.toArray elem)
      (fun ν' hle _ => ⟨ys, [], by rw [fzReal_zero, List.append_nil], hlv.mono hle, by simp only [ExtR, List.append_nil]; exact hlv.length⟩)
    refine ⟨hob, ν', _, _, hle, ?_, VR.sl_iff.2 ⟨_, hi', by simp, rfl⟩, hr'⟩
    simp only [Instr.buildSlice, Sem.run_bind, run_underlying hd, Result.andThen_ok, run_sizeOf hi]
    rw [if_neg (by omega)]
    by_cases hn0 : len * info.size = 0
    · simp only [hn0, if_true, Sem.run_bind, Sem.run_pure, Result.andThen_ok, array_range_map, List.range_zero, List.map_nil] at hfill ⊢
      rw [hfill]
      simp [newRow]
    · simp only [if_neg hn0, Sem.run_bind, run_zeroValue hi hz0, Result.andThen_ok, Sem.run_pure, array_range_map]
      rw [hfill]
      simp [newRow]
  · cases h

theorem sLen_ok {x : SV} {n : Nat} {y : Value} (h : sLen x = some n) (hv : VR ν x y) : (Builtin.lenOf y).run E.P w = .ok n w := by
  unfold sLen at h
  split at h
  · cases h; obtain rfl := VR.v_iff.1 hv; rfl
  · cases h; obtain rfl := VR.v_iff.1 hv; rfl
  · cases h; obtain ⟨b, _, _, rfl⟩ := VR.sl_iff.1 hv; rfl
  · cases h; obtain ⟨b, _, rfl⟩ := VR.fin_iff.1 hv; rfl
  · cases h

theorem sFirst_ok {size n : Nat} {x : SV} {l : List SV} {y : Value} (h : sFirst size n x s = some l) (hr : HR ν M w0 s w) (hv : VR ν x y) :
    ∃ ys : List Value, (Builtin.firstCells size n y).run E.P w = .ok ys.toArray w ∧ VRL ν l ys := by
  unfold sFirst at h
  split at h
  · cases h; obtain rfl := VR.v_iff.1 hv; exact ⟨[], rfl, VRL.nil⟩
  · rename_i b
    cases h; obtain rfl := VR.v_iff.1 hv
    refine ⟨(b.extract 0 n).data.toList.map fun c => .int .u8 c.toNat, ?_, ?_⟩
    · simp only [Builtin.firstCells, Sem.run_pure]
      congr 1
      apply Array.ext'
      simp
    · have := VRL.lits ν ((b.extract 0 n).data.toList.map fun c => Value.int .u8 c.toNat)
      rwa [List.map_map] at this
  · obtain ⟨b, _, rfl⟩ := VR.fin_iff.1 hv
    cases hn : (n == 0)
    · rw [hn] at h; cases h
    · rw [hn] at h; cases h
      obtain rfl : n = 0 := by simpa using hn
      refine ⟨[], ?_, VRL.nil⟩
      simp [Builtin.firstCells, loadCells, loadCellsFrom]
  · rename_i i off len cap
    obtain ⟨b, hb, _, rfl⟩ := VR.sl_iff.1 hv
    split at h
    · rename_i xs e fz ext own hl
      cases hle : Nat.ble (off + n * size) xs.length
      · rw [hle] at h; cases h
      · rw [hle] at h; cases h
        have hle := Nat.le_of_ble_eq_true hle
        obtain ⟨_, _, b', o, hb', ho, hor, _⟩ := hr.look hl
        rw [hb] at hb'; cases hb'
        obtain ⟨ys, rest, rfl, hvl, _⟩ := hor
        have hlen := hvl.length
        refine ⟨(ys.drop off).take (n * size), ?_, (hvl.drop off).take _⟩
        refine run_loadCells ?_ (by simp; omega)
        intro k hk
        rw [cell_at ho, List.getElem?_take, if_pos hk, List.getElem?_drop]
        have : off + k < ys.length := by omega
        simp [List.getElem?_append_left this]
    · cases h
  · cases h

theorem growBy_le (newLen : Nat) : ∀ (r c : Nat), c ≤ newLen + (newLen + 768) / 4 → Builtin.growBy newLen r c ≤ newLen + (newLen + 768) / 4
  | 0, c, h => h
  | r + 1, c, h => by
    unfold Builtin.growBy
    split
    · exact h
    · exact growBy_le newLen r _ (by omega)

theorem nextslicecap_le {need cap : Nat} (h : cap < need) : Builtin.nextslicecap need cap ≤ 2 * need + 1024 := by
  unfold Builtin.nextslicecap
  split
  · omega
  · split
    · omega
    · exact Nat.le_trans (growBy_le _ _ _ (by omega)) (by omega)

theorem zeroCells_length (z : Array Value) (n : Nat) : (Builtin.zeroCells z n).size = n * z.size := by simp [Builtin.zeroCells]

/-- The model's append: there is room. -/
theorem run_append_room {st xt elem : TypeId} {d : TypeDesc} {info : TypeInfo} {base : Option Addr} {len cap n : Nat} {yv : Value} {new : List Value} {w' : World} {ty : TypeId}
    (hst : tdesc E st = some (.slice elem)) (hxt : tdesc E xt = some d) (hd : ∀ k, d ≠ .int k) (hi : tinfo E elem = some info)
    (hn : (Builtin.lenOf yv).run E.P w = .ok n w) (hnew : (Builtin.firstCells info.size n yv).run E.P w = .ok new.toArray w)
    (hroom : len + n ≤ cap) (hs : match base with | some a => (storeCells (a.add (len * info.size)) new).run E.P w = .ok () w' | none => w' = w) :
    (Builtin.append_ #[st, xt] ty #[.slice base len cap, yv]).run E.P w = .ok (.slice base (len + n) cap) w' := by
  have a0 : (#[st, xt] : Array TypeId)[0]? = some st := rfl
  have a1 : (#[st, xt] : Array TypeId)[1]? = some xt := rfl
  have b0 : (#[.slice base len cap, yv] : Array Value)[0]? = some (.slice base len cap) := rfl
  have b1 : (#[.slice base len cap, yv] : Array Value)[1]? = some yv := rfl
  have hz : (match d with | .int _ => true | _ => false) = false := by cases d <;> first | rfl | exact absurd rfl (hd _)
  simp only [Builtin.append_, a0, a1, b0, b1, Sem.run_bind, run_underlying hst, run_underlying hxt, Result.andThen_ok, run_sizeOf hi, Sem.run_pure]
  simp only [Bool.false_eq_true, if_false, Sem.run_bind, hn, Result.andThen_ok, Bool.not_false, if_true, if_pos hroom, hnew]
  cases base with
  | none => simp only at hs; rw [hs]; rfl
  | some a => simp only at hs; simp only [Sem.run_bind, List.toList_toArray, hs, Result.andThen_ok, Sem.run_pure]

/-- The model's append: there is none: a new row. -/
theorem run_append_grow {st xt elem : TypeId} {d : TypeDesc} {info : TypeInfo} {base : Option Addr} {len cap n : Nat} {yv z : Value} {old new : List Value} {ty : TypeId}
    (hst : tdesc E st = some (.slice elem)) (hxt : tdesc E xt = some d) (hd : ∀ k, d ≠ .int k) (hi : tinfo E elem = some info) (hz : info.zero = some z) (hzs : z.cells.size = info.size) (hb0 : info.bytes ≠ 0)
    (hn : (Builtin.lenOf yv).run E.P w = .ok n w) (hnew : ∀ k, (Builtin.firstCells info.size n yv).run E.P { w with drawn := k } = .ok new.toArray { w with drawn := k })
    (hold : ∀ k, (Builtin.firstCells info.size len (.slice base len cap)).run E.P { w with drawn := k } = .ok old.toArray { w with drawn := k })
    (hroom : cap < len + n) (hlim : (2 * (len + n) + 1024) * info.bytes ≤ 2 ^ 47) :
    ∃ newCap k, len + n ≤ newCap ∧ ∃ rest : List Value, rest.length = (newCap - (len + n)) * info.size ∧
      (Builtin.append_ #[st, xt] ty #[.slice base len cap, yv]).run E.P w = .ok (.slice (some ⟨w.heap.size, 0, none⟩) (len + n) newCap) { w with drawn := k, heap := w.heap.push (.cells (old ++ new ++ rest).toArray elem) } := by
  have a0 : (#[st, xt] : Array TypeId)[0]? = some st := rfl
  have a1 : (#[st, xt] : Array TypeId)[1]? = some xt := rfl
  have b0 : (#[.slice base len cap, yv] : Array Value)[0]? = some (.slice base len cap) := rfl
  have b1 : (#[.slice base len cap, yv] : Array Value)[1]? = some yv := rfl
  have hzd : (match d with | .int _ => true | _ => false) = false := by cases d <;> first | rfl | exact absurd rfl (hd _)
  have hnr : ¬ (len + n ≤ cap) := by omega
  have hnc : ¬ (Builtin.nextslicecap (len + n) cap * info.bytes > 2 ^ 48) := by
    have h1 := nextslicecap_le hroom
    have h2 := Nat.mul_le_mul_right info.bytes h1
    omega
  have hq : (Question.appendCap (len + n) cap elem).forced = false := rfl
  refine ⟨(Question.appendCap (len + n) cap elem).cut (w.tape w.drawn (.appendCap (len + n) cap elem)), w.drawn + 1, by simp [Question.cut], ?_⟩
  generalize hc : (Question.appendCap (len + n) cap elem).cut (w.tape w.drawn (.appendCap (len + n) cap elem)) = newCap
  refine ⟨(Builtin.zeroCells z.cells (newCap - (len + n))).toList, by simp [zeroCells_length, hzs], ?_⟩
  simp only [Builtin.append_, a0, a1, b0, b1, Sem.run_bind, run_underlying hst, run_underlying hxt, Result.andThen_ok, run_sizeOf hi, Sem.run_pure]
  simp only [Bool.false_eq_true, if_false, Sem.run_bind, hn, Result.andThen_ok, Bool.not_false, if_true, if_neg hnr, run_typeInfo hi, hb0, false_or, and_false, if_neg hnc, run_choose, hq, hc, run_askRoom, hold, hnew,
    run_zeroValue hi hz, newRow, run_newObj, Sem.run_pure]
  have e : old.toArray ++ new.toArray ++ Builtin.zeroCells z.cells (newCap - (len + n)) = (old ++ new ++ (Builtin.zeroCells z.cells (newCap - (len + n))).toList).toArray := by
    apply Array.ext'; simp
  rw [e]

/-- What is known of the appending of n elements whose cells are 'new'. -/
structure AppTo (E : Env) (st xt elem : TypeId) (info : TypeInfo) (n : Nat) (yv : Value) (new : List Value) (w : World) : Prop where
  room : ∀ {base : Option Addr} {len cap : Nat} {w' : World} {ty : TypeId}, len + n ≤ cap → (match base with | some a => (storeCells (a.add (len * info.size)) new).run E.P w = .ok () w' | none => w' = w) →
    (Builtin.append_ #[st, xt] ty #[.slice base len cap, yv]).run E.P w = .ok (.slice base (len + n) cap) w'
  grow : ∀ {base : Option Addr} {len cap : Nat} {z : Value} {old : List Value} {ty : TypeId}, info.zero = some z → z.cells.size = info.size → info.bytes ≠ 0 →
    (∀ k, (Builtin.firstCells info.size len (.slice base len cap)).run E.P { w with drawn := k } = .ok old.toArray { w with drawn := k }) → cap < len + n → (2 * (len + n) + 1024) * info.bytes ≤ 2 ^ 47 →
    ∃ newCap k, len + n ≤ newCap ∧ ∃ rest : List Value, rest.length = (newCap - (len + n)) * info.size ∧
      (Builtin.append_ #[st, xt] ty #[.slice base len cap, yv]).run E.P w = .ok (.slice (some ⟨w.heap.size, 0, none⟩) (len + n) newCap) { w with drawn := k, heap := w.heap.push (.cells (old ++ new ++ rest).toArray elem) }

theorem AppTo.of {st xt elem : TypeId} {d : TypeDesc} {info : TypeInfo} {n : Nat} {yv : Value} {new : List Value} (hst : tdesc E st = some (.slice elem)) (hxt : tdesc E xt = some d) (hd : ∀ k, d ≠ .int k) (hi : tinfo E elem = some info)
    (hn : (Builtin.lenOf yv).run E.P w = .ok n w) (hnew : ∀ k, (Builtin.firstCells info.size n yv).run E.P { w with drawn := k } = .ok new.toArray { w with drawn := k }) : AppTo E st xt elem info n yv new w :=
  ⟨fun h1 h2 => run_append_room hst hxt hd hi hn (hnew w.drawn) h1 h2, fun h1 h2 h3 h4 h5 h6 => run_append_grow hst hxt hd hi h1 h2 h3 hn hnew h4 h5 h6⟩

theorem AppTo.zeros {st xt elem : TypeId} {ik k : IntKind} {info : TypeInfo} {z : Value} {m : Int} (hst : tdesc E st = some (.slice elem)) (hxt : tdesc E xt = some (.int ik)) (hi : tinfo E elem = some info)
    (hz : info.zero = some z) (hzs : z.cells.size = info.size) (hm : 0 ≤ m ∧ m ≤ 2 ^ 40) (hb : m.toNat * info.bytes ≤ 2 ^ 47) : AppTo E st xt elem info m.toNat (.int k m) ((List.range (m.toNat * z.cells.size)).map fun i => z.cells[i % z.cells.size]!) w := by
  have hm2 : m ≤ 1099511627776 := hm.2
  have hw : IntKind.i64.wrap m = m := by rw [IntKind.wrap_i64]; omega
  have hneg : ¬ m < 0 := by omega
  have hbig : ¬ (m * (info.bytes : Int) > 2 ^ 48) := by
    have hb' : m.toNat * info.bytes ≤ 140737488355328 := hb
    have e : m * (info.bytes : Int) = ((m.toNat * info.bytes : Nat) : Int) := by rw [Int.natCast_mul, Int.toNat_of_nonneg hm.1]
    rw [e]
    show ¬ (281474976710656 : Int) < _
    omega
  have hzc : Builtin.zeroCells z.cells m.toNat = ((List.range (m.toNat * z.cells.size)).map fun i => z.cells[i % z.cells.size]!).toArray := array_range_map _ _
  have a0 : (#[st, xt] : Array TypeId)[0]? = some st := rfl
  have a1 : (#[st, xt] : Array TypeId)[1]? = some xt := rfl
  have happ : ∀ w : World, (if m.toNat * info.size = 0 then (pure #[] : Sem (Array Value)) else do pure (Builtin.zeroCells (← zeroValue elem).cells m.toNat)).run E.P w = .ok ((List.range (m.toNat * z.cells.size)).map fun i => z.cells[i % z.cells.size]!).toArray w := by
    intro w
    by_cases h0 : m.toNat * info.size = 0
    · rw [if_pos h0, hzs, h0]; rfl
    · rw [if_neg h0]
      simp only [Sem.run_bind, run_zeroValue hi hz, Result.andThen_ok, Sem.run_pure, hzc]
  constructor
  · intro base len cap w' ty hroom hs
    have b0 : (#[.slice base len cap, .int k m] : Array Value)[0]? = some (.slice base len cap) := rfl
    have b1 : (#[.slice base len cap, .int k m] : Array Value)[1]? = some (.int k m) := rfl
    simp only [Builtin.append_, a0, a1, b0, b1, Sem.run_bind, run_underlying hst, run_underlying hxt, Result.andThen_ok, run_sizeOf hi, Sem.run_pure]
    simp only [if_true, asInt, asIntOf, Sem.run_bind, Sem.run_pure, Result.andThen_ok, hw, if_neg hneg, run_typeInfo hi, if_neg hbig, Bool.not_true, Bool.false_eq_true, if_false, if_pos hroom, happ]
    cases base with
    | none => simp only at hs; rw [hs]; rfl
    | some a => simp only at hs; simp only [Sem.run_bind, List.toList_toArray, hs, Result.andThen_ok, Sem.run_pure]
  · intro base len cap z' old ty hz' _ hb0 hold hroom hlim
    rw [hz] at hz'; cases hz'
    have b0 : (#[.slice base len cap, .int k m] : Array Value)[0]? = some (.slice base len cap) := rfl
    have b1 : (#[.slice base len cap, .int k m] : Array Value)[1]? = some (.int k m) := rfl
    have hnr : ¬ (len + m.toNat ≤ cap) := by omega
    have hnc : ¬ (Builtin.nextslicecap (len + m.toNat) cap * info.bytes > 2 ^ 48) := by
      have h1 := nextslicecap_le hroom
      have h2 := Nat.mul_le_mul_right info.bytes h1
      omega
    have hmax : ¬ (((len + m.toNat : Nat) : Int) > IntKind.i64.max ∧ (True ∨ info.bytes = 0)) := by
      have h1 : (2 * (len + m.toNat) + 1024) * 1 ≤ (2 * (len + m.toNat) + 1024) * info.bytes := Nat.mul_le_mul_left _ (Nat.pos_of_ne_zero hb0)
      have h2 : (2 * (len + m.toNat) + 1024) * info.bytes ≤ 140737488355328 := hlim
      have h3 : IntKind.i64.max = 9223372036854775807 := rfl
      rw [h3]
      omega
    have hq : (Question.appendCap (len + m.toNat) cap elem).forced = false := rfl
    refine ⟨(Question.appendCap (len + m.toNat) cap elem).cut (w.tape w.drawn (.appendCap (len + m.toNat) cap elem)), w.drawn + 1, by simp [Question.cut], ?_⟩
    generalize hc : (Question.appendCap (len + m.toNat) cap elem).cut (w.tape w.drawn (.appendCap (len + m.toNat) cap elem)) = newCap
    refine ⟨(Builtin.zeroCells z.cells (newCap - (len + m.toNat))).toList, by simp [zeroCells_length, hzs], ?_⟩
    simp only [Builtin.append_, a0, a1, b0, b1, Sem.run_bind, run_underlying hst, run_underlying hxt, Result.andThen_ok, run_sizeOf hi, Sem.run_pure]
    simp only [if_true, asInt, asIntOf, Sem.run_bind, Sem.run_pure, Result.andThen_ok, hw, if_neg hneg, run_typeInfo hi, if_neg hbig, Bool.not_true, Bool.false_eq_true, if_false, if_neg hnr, if_neg hmax, if_neg hnc, run_choose, hq, hc, run_askRoom, hold, happ,
      run_zeroValue hi hz, newRow, run_newObj]
    have e : old.toArray ++ ((List.range (m.toNat * z.cells.size)).map fun i => z.cells[i % z.cells.size]!).toArray ++ Builtin.zeroCells z.cells (newCap - (len + m.toNat)) =
        (old ++ ((List.range (m.toNat * z.cells.size)).map fun i => z.cells[i % z.cells.size]!) ++ (Builtin.zeroCells z.cells (newCap - (len + m.toNat))).toList).toArray := by
      apply Array.ext'; simp
    rw [e]

end
end Go.Rx
