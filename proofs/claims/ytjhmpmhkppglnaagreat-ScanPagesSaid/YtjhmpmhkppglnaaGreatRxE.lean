/- The symbolic executor 'Rx', part E: what each operation's symbolic meaning has to do with the model's. By an AI agent. -/
import Derived.Test.YtjhmpmhkppglnaaGreatRxC
set_option linter.unusedVariables false
set_option linter.unusedSimpArgs false
namespace Go.Rx

/-- The same memory (choices may have been made, something may be owed). -/
structure SH.Same (s s' : SH) : Prop where
  d : s'.d = s.d
  H : s'.H = s.H
  nx : s'.nx = s.nx

theorem SH.Same.refl (s : SH) : s.Same s := ⟨rfl, rfl, rfl⟩
theorem SH.Same.trans {a b c : SH} (h : a.Same b) (k : b.Same c) : a.Same c := ⟨k.d.trans h.d, k.H.trans h.H, k.nx.trans h.nx⟩

theorem SH.Same.symm {a b : SH} (h : a.Same b) : b.Same a := ⟨h.d.symm, h.H.symm, h.nx.symm⟩

section
variable {ν : Val} {M : Own} {w0 w : World} {s s' : SH} {E : Env}

theorem HR.same (h : HR ν M w0 s w) (e : s.Same s') : HR ν M w0 s' w := by
  cases s; cases s'
  obtain ⟨rfl, rfl, rfl⟩ := e
  exact ⟨h.full, h.dom, h.fresh, h.obj, h.inj, h.size, h.frame, h.ro, h.os, h.tape, h.output⟩

theorem SH.Same.look (e : s.Same s') (i : Nat) : s'.look i = s.look i := by
  cases s; cases s'
  obtain ⟨rfl, rfl, rfl⟩ := e
  rfl

theorem SH.dec_ok {b t : Bool} (h : s.dec E b = (t, s')) : s.Same s' ∧ (s'.ob → s.ob ∧ b = t) := by
  unfold SH.dec at h
  cases ho : s.says E with
  | none => rw [ho] at h; cases h; exact ⟨⟨rfl, rfl, rfl⟩, fun k => ⟨k, rfl⟩⟩
  | some u => rw [ho] at h; cases h; exact ⟨⟨rfl, rfl, rfl⟩, fun k => k⟩

theorem SH.ask_ok {b : Bool} (h : s.ask E b = some s') : s.Same s' ∧ (s'.ob → s.ob ∧ b = true) := by
  unfold SH.ask at h
  cases ho : s.says E with
  | none =>
    rw [ho] at h
    dsimp only at h
    cases hs : s.soft
    · rw [hs] at h
      cases b
      · cases h
      · cases h; exact ⟨⟨rfl, rfl, rfl⟩, fun k => ⟨k, rfl⟩⟩
    · rw [hs] at h
      cases h; exact ⟨⟨rfl, rfl, rfl⟩, fun k => k⟩
  | some u => rw [ho] at h; cases h; exact ⟨⟨rfl, rfl, rfl⟩, fun k => k⟩
end

theorem guard_ok {b : Bool} {u : Unit} (h : guard' b = some u) : b = true := by
  unfold guard' at h; cases b <;> simp_all

theorem pureRun_ok {α : Type} {P : Program} : ∀ {x : Sem α} {a : α}, pureRun P x = some a → ∀ w, x.run P w = .ok a w
  | .pure _, _, h, w => by rw [pureRun] at h; cases h; rfl
  | .program k, _, h, w => by rw [pureRun] at h; rw [Sem.run]; exact pureRun_ok h w
  | .load .., _, h, _ => by simp [pureRun] at h
  | .store .., _, h, _ => by simp [pureRun] at h
  | .new .., _, h, _ => by simp [pureRun] at h
  | .shape .., _, h, _ => by simp [pureRun] at h
  | .freeze .., _, h, _ => by simp [pureRun] at h
  | .frozen .., _, h, _ => by simp [pureRun] at h
  | .getObj .., _, h, _ => by simp [pureRun] at h
  | .setObj .., _, h, _ => by simp [pureRun] at h
  | .choose .., _, h, _ => by simp [pureRun] at h
  | .sys .., _, h, _ => by simp [pureRun] at h
  | .mark .., _, h, _ => by simp [pureRun] at h
  | .halt .., _, h, _ => by simp [pureRun] at h

/-- What an operation that hands back a value has to come to. -/
def GoodV (P : Program) (g : Sem Value) (ν : Val) (M : Own) (w0 w : World) (x : SV) (s' : SH) : Prop :=
  ∃ ν' w' y, ν.Le ν' ∧ g.run P w = .ok y w' ∧ VR ν' x y ∧ HR ν' M w0 s' w'

/-- One that hands back nothing. -/
def GoodU (P : Program) (g : Sem Unit) (ν : Val) (M : Own) (w0 w : World) (s' : SH) : Prop :=
  ∃ ν' w', ν.Le ν' ∧ g.run P w = .ok () w' ∧ HR ν' M w0 s' w'

section
variable {ν : Val} {M : Own} {w0 w : World} {s s' : SH} {E : Env}

theorem GoodV.now {g : Sem Value} {x : SV} {y : Value} (hr : HR ν M w0 s' w) (h : g.run E.P w = .ok y w) (hx : VR ν x y) : GoodV E.P g ν M w0 w x s' :=
  ⟨ν, w, y, Val.Le.refl _, h, hx, hr⟩

theorem VR.v_iff {x y : Value} : VR ν (.v x) y ↔ y = x := by rw [VR]
theorem VR.ptr_iff {i off : Nat} {y : Value} : VR ν (.ptr i off) y ↔ ∃ b, ν i = some b ∧ y = .pointer (some ⟨b.1, off, none⟩) := by rw [VR]
theorem VR.sl_iff {i off len : Nat} {cap : Option Nat} {y : Value} : VR ν (.sl i off len cap) y ↔ ∃ b, ν i = some b ∧ len ≤ cap.getD (b.2 - off) ∧ y = .slice (some ⟨b.1, off, none⟩) len (cap.getD (b.2 - off)) := by rw [VR]
theorem VR.map_iff {i : Nat} {y : Value} : VR ν (.map i) y ↔ ∃ b, ν i = some b ∧ y = .map (some b.1) := by rw [VR]
theorem VR.agg_iff {l : List SV} {y : Value} : VR ν (.agg l) y ↔ ∃ a : List Value, y = .agg a.toArray ∧ VRL ν l a := by rw [VR]
theorem VR.tup_iff {l : List SV} {y : Value} : VR ν (.tup l) y ↔ ∃ a : List Value, y = .tuple a.toArray ∧ VRL ν l a := by rw [VR]
theorem VR.iface_iff {t : TypeId} {x : SV} {y : Value} : VR ν (.iface t x) y ↔ ∃ z, y = .iface t z ∧ VR ν x z := by rw [VR]
theorem VR.func_iff {fn : Fn} {a b : List SV} {y : Value} : VR ν (.func fn a b) y ↔ ∃ a' b' : List Value, y = .func fn a'.toArray b'.toArray ∧ VRL ν a a' ∧ VRL ν b b' := by rw [VR]
theorem VR.yield_iff {i : Nat} {y : Value} : VR ν (.yield i) y ↔ ∃ b, ν i = some b ∧ y = .func (.yield b.1) #[] #[] := by rw [VR]
theorem VR.fin_iff {i off len adv : Nat} {y : Value} : VR ν (.fin i off len adv) y ↔ ∃ b, ν i = some b ∧ y = .slice (some ⟨b.1, if b.2 - off = len then off else off + adv, none⟩) 0 (b.2 - off - len) := by rw [VR]

mutual
theorem plainV_ok {ν : Val} : ∀ {x : SV} {z y : Value}, plainV x = some z → VR ν x y → y = z
  | .v x, z, y, h, hv => by rw [plainV] at h; cases h; exact VR.v_iff.1 hv
  | .agg l, z, y, h, hv => by
    rw [plainV] at h
    obtain ⟨vs, hvs, rfl⟩ := Option.map_eq_some_iff.1 h
    obtain ⟨a, rfl, ha⟩ := VR.agg_iff.1 hv
    rw [plainVs_ok hvs ha]
  | .tup l, z, y, h, hv => by
    rw [plainV] at h
    obtain ⟨vs, hvs, rfl⟩ := Option.map_eq_some_iff.1 h
    obtain ⟨a, rfl, ha⟩ := VR.tup_iff.1 hv
    rw [plainVs_ok hvs ha]
  | .iface t x, z, y, h, hv => by
    rw [plainV] at h
    obtain ⟨v, hx, rfl⟩ := Option.map_eq_some_iff.1 h
    obtain ⟨u, rfl, hu⟩ := VR.iface_iff.1 hv
    rw [plainV_ok hx hu]
  | .junk, _, _, h, _ => by rw [plainV] at h; cases h
  | .ptr _ _, _, _, h, _ => by rw [plainV] at h; cases h
  | .sl _ _ _ _, _, _, h, _ => by rw [plainV] at h; cases h
  | .map _, _, _, h, _ => by rw [plainV] at h; cases h
  | .func _ _ _, _, _, h, _ => by rw [plainV] at h; cases h
  | .yield _, _, _, h, _ => by rw [plainV] at h; cases h
  | .fin _ _ _ _, _, _, h, _ => by rw [plainV] at h; cases h
theorem plainVs_ok {ν : Val} : ∀ {l : List SV} {zs ys : List Value}, plainVs l = some zs → VRL ν l ys → ys = zs
  | [], _, _, h, hv => by rw [plainVs] at h; cases h; exact hv.nil_inv
  | x :: xs, zs, ys, h, hv => by
    rw [plainVs] at h
    obtain ⟨y, ys', rfl, hy, hys⟩ := hv.cons_inv
    split at h
    · rename_i v vs h1 h2
      cases h
      rw [plainV_ok h1 hy, plainVs_ok h2 hys]
    · cases h
end

/-! ### tables -/

theorem run_underlying {t : TypeId} {d : TypeDesc} (h : tdesc E t = some d) : (underlying t).run E.P w = .ok d w := by
  have h' : E.P.underlying t = some d := h
  simp [underlying, h']

theorem run_typeInfo {t : TypeId} {d : TypeInfo} (h : tinfo E t = some d) : (typeInfo t).run E.P w = .ok d w := by
  have h' : E.P.info? t = some d := h
  simp [typeInfo, h']

theorem run_sizeOf {t : TypeId} {d : TypeInfo} (h : tinfo E t = some d) : (sizeOf t).run E.P w = .ok d.size w := by
  simp [sizeOf, run_typeInfo h]

theorem run_zeroValue {t : TypeId} {d : TypeInfo} {z : Value} (h : tinfo E t = some d) (hz : d.zero = some z) : (zeroValue t).run E.P w = .ok z w := by
  simp [zeroValue, run_typeInfo h, hz]

theorem run_isAgg {t : TypeId} {b : Bool} (h : aggType E t = some b) : (isAgg t).run E.P w = .ok b w := by
  unfold aggType at h
  cases hd : tdesc E t with
  | none => rw [hd] at h; cases h
  | some d => rw [hd] at h; simp only [isAgg, Sem.run_bind, run_underlying hd, Result.andThen_ok]; cases d <;> simp_all

/-! ### loads -/

/-- Where cell k of a row lies. -/
theorem cell_at {b : Nat} {c : Array Value} {e : TypeId} {fz : Nat × Nat} (h : w.heap[b]? = some (.cells c e fz)) (off : Nat) : w.cell? ⟨b, off, none⟩ = c[off]? := by
  simp [World.cell?, h]

theorem addr_add (b off k : Nat) : (⟨b, off, none⟩ : Addr).add k = ⟨b, off + k, none⟩ := by
  unfold Addr.add; split
  · rename_i h; rw [h]; rfl
  · rfl

theorem run_load_cell {P : Program} {a : Addr} {v : Value} (h : w.cell? a = some v) : (load a).run P w = .ok v w := by
  simp [load, Sem.run, h]

theorem run_loadCellsFrom {P : Program} {b off : Nat} {vs : List Value} : ∀ (n i : Nat) (acc : Array Value), (∀ k, k < n → w.cell? ⟨b, off + (i + k), none⟩ = vs[k]?) → vs.length = n →
    (loadCellsFrom ⟨b, off, none⟩ i n acc).run P w = .ok (acc ++ vs.toArray) w := by
  intro n i acc h hl
  induction n generalizing i acc vs with
  | zero =>
    obtain rfl : vs = [] := List.length_eq_zero_iff.1 hl
    simp [loadCellsFrom]
  | succ n ih =>
    match vs, hl with
    | v :: vs, hl =>
      have h0 := h 0 (by omega)
      simp only [List.getElem?_cons_zero, Nat.add_zero] at h0
      simp only [loadCellsFrom, addr_add, Sem.run_bind, run_load_cell h0, Result.andThen_ok]
      have hstep : ∀ k, k < n → w.cell? ⟨b, off + ((i + 1) + k), none⟩ = vs[k]? := by
        intro k hk
        have hs := h (k + 1) (by omega)
        simp only [List.getElem?_cons_succ] at hs
        rw [← hs]; congr 2; omega
      rw [ih (vs := vs) (i + 1) (acc.push v) hstep (by simpa using hl)]
      simp

theorem run_loadCells {P : Program} {b off n : Nat} {vs : List Value} (h : ∀ k, k < n → w.cell? ⟨b, off + k, none⟩ = vs[k]?) (hl : vs.length = n) :
    (loadCells ⟨b, off, none⟩ n).run P w = .ok vs.toArray w := by
  rw [loadCells, run_loadCellsFrom n 0 #[] (fun k hk => by rw [Nat.zero_add]; exact h k hk) hl]
  simp

theorem getElem?_append_left' {ys rest : List Value} {k : Nat} {y : Value} (h : ys[k]? = some y) : (ys ++ rest)[k]? = some y := by
  have hk : k < ys.length := (List.getElem?_eq_some_iff.1 h).1
  rw [List.getElem?_append_left hk]; exact h

theorem SH.owe_same (s : SH) (p : Prop) : s.Same (s.owe p) := ⟨rfl, rfl, rfl⟩

/-- What is told of a row's first cells. -/
theorem told_ok {i : Nat} {xs : List SV} (h : (s.look i).bind (·.1.told) = some xs) (hr : HR ν M w0 s w) {b : Nat × Nat} (hb : ν i = some b) :
    ∃ (ys : List Value) (c : Array Value) (e : TypeId) (fz : Nat × Nat), w.heap[b.1]? = some (.cells c e fz) ∧ VRL ν xs ys ∧ ∀ (k : Nat) (y : Value), ys[k]? = some y → c[k]? = some y := by
  obtain ⟨⟨o, m⟩, hl, h⟩ := Option.bind_eq_some_iff.1 h
  obtain ⟨_, _, b', o', hb', ho, hor, _⟩ := hr.look hl
  rw [hb] at hb'; cases hb'
  cases o <;> simp only [SO.told, reduceCtorEq, Option.some.injEq] at h
  · subst h
    obtain ⟨ys, rest, rfl, hvl, _⟩ := hor
    exact ⟨ys, _, _, _, ho, hvl, fun k y hy => by simpa using getElem?_append_left' hy⟩
  · subst h
    obtain ⟨ys, c, e, fz, rfl, hvl, hc⟩ := hor
    exact ⟨ys, c, e, fz, ho, hvl, hc⟩

theorem sLoadQ_ok {t : TypeId} {a x : SV} {l : List SV} {av : Value} (h : sLoadQ E t a l s = some (x, s')) (hr : HR ν M w0 s w) (ha : VR ν a av) :
    s.Same s' ∧ (s'.ob → s.ob ∧ ∃ y, (Instr.loadAt t av).run E.P w = .ok y w ∧ VR ν x y) := by
  unfold sLoadQ at h
  split at h
  · rename_i i off ag info hag hinfo
    obtain ⟨b, hb, rfl⟩ := VR.ptr_iff.1 ha
    split at h
    · rename_i xs hl
      obtain ⟨ys, c, e, fz, ho, hvl, hc⟩ := told_ok hl hr hb
      cases ag
      · simp only [cond_false] at h
        split at h
        · rename_i x0
          cases h
          refine ⟨SH.owe_same _ _, fun ob => ⟨ob.1, ?_⟩⟩
          obtain ⟨y, hy, hv⟩ := hvl.get ob.2
          refine ⟨y, ?_, hv⟩
          have hrun : (Instr.loadAt t (.pointer (some ⟨b.1, off, none⟩))).run E.P w = (load ⟨b.1, off, none⟩).run E.P w := by
            simp [Instr.loadAt, Instr.sureAddr, loadVar, run_isAgg hag]
          rw [hrun, run_load_cell]
          rw [cell_at ho]; exact hc _ _ hy
        · cases h
      · simp only [cond_true, Option.some.injEq, Prod.mk.injEq] at h
        obtain ⟨rfl, rfl⟩ := h
        refine ⟨SH.owe_same _ _, fun ob => ⟨ob.1, .agg ((ys.drop off).take info.size).toArray, ?_, VR.agg_iff.2 ⟨_, rfl, ?_⟩⟩⟩
        · have hlen : ((ys.drop off).take info.size).length = info.size := by
            rw [((hvl.drop off).take info.size).length, ob.2.1, ob.2.2]
          simp only [Instr.loadAt, Instr.sureAddr, loadVar, Sem.run_bind, Sem.run_pure, Result.andThen_ok, run_isAgg hag, if_true, run_sizeOf hinfo]
          rw [run_loadCells (vs := (ys.drop off).take info.size) ?_ hlen]
          · rfl
          intro k hk
          have hk2 : k < ((ys.drop off).take info.size).length := by omega
          rw [cell_at ho, List.getElem?_eq_getElem hk2]
          refine hc _ _ ?_
          rw [← List.getElem?_eq_getElem hk2, List.getElem?_take, if_pos hk, List.getElem?_drop]
        · have := (hvl.drop off).take info.size
          rw [ob.2.1] at this; exact this
    · cases h
  · cases h

theorem sLoad0_ok {t : TypeId} {a x : SV} {av : Value} (h : sLoad0 E t a s = some (x, s')) (hr : HR ν M w0 s w) (ha : VR ν a av) :
    s.Same s' ∧ (s'.ob → s.ob ∧ ∃ y, (Instr.loadAt t av).run E.P w = .ok y w ∧ VR ν x y) := by
  unfold sLoad0 at h
  split at h
  · -- one cell
    rename_i i off hag
    obtain ⟨b, hb, rfl⟩ := VR.ptr_iff.1 ha
    have hrun : (Instr.loadAt t (.pointer (some ⟨b.1, off, none⟩))).run E.P w = (load ⟨b.1, off, none⟩).run E.P w := by
      simp [Instr.loadAt, Instr.sureAddr, loadVar, run_isAgg hag]
    split at h
    · rename_i xs e fz ext own hl
      obtain ⟨_, _, b', o, hb', ho, hor, _⟩ := hr.look hl
      rw [hb] at hb'; cases hb'
      obtain ⟨ys, rest, rfl, hvl, _⟩ := hor
      cases hx : xs[off]? with
      | none => rw [hx] at h; cases h
      | some x0 =>
        rw [hx] at h; cases h
        obtain ⟨y, hy, hv⟩ := hvl.get hx
        refine ⟨.refl _, fun ob => ⟨ob, y, ?_, hv⟩⟩
        rw [hrun, run_load_cell]
        rw [cell_at ho]; simpa using getElem?_append_left' hy
    · rename_i xs own hl
      obtain ⟨_, _, b', o, hb', ho, hor, _⟩ := hr.look hl
      rw [hb] at hb'; cases hb'
      obtain ⟨ys, c, e, fz, rfl, hvl, hc⟩ := hor
      cases hx : xs[off]? with
      | none => rw [hx] at h; cases h
      | some x0 =>
        rw [hx] at h; cases h
        obtain ⟨y, hy, hv⟩ := hvl.get hx
        refine ⟨.refl _, fun ob => ⟨ob, y, ?_, hv⟩⟩
        rw [hrun, run_load_cell]
        rw [cell_at ho]; exact hc _ _ hy
    · rename_i n f e fz ext own hl
      obtain ⟨_, _, b', o, hb', ho, hor, _⟩ := hr.look hl
      rw [hb] at hb'; cases hb'
      obtain ⟨c, rfl, hf, _⟩ := hor
      cases hs : s.ask E (Nat.blt off n) with
      | none => rw [hs] at h; cases h
      | some s1 =>
        rw [hs] at h; cases h
        obtain ⟨hsame, hob⟩ := SH.ask_ok hs
        refine ⟨hsame, fun ob => ⟨(hob ob).1, f off, ?_, VR.v_iff.2 rfl⟩⟩
        rw [hrun, run_load_cell]
        rw [cell_at ho]; exact hf off (blt_iff.1 (hob ob).2)
    · cases h
  · -- many cells
    rename_i i off info hag hinfo
    obtain ⟨b, hb, rfl⟩ := VR.ptr_iff.1 ha
    have hrun : ∀ vs : List Value, (loadCells ⟨b.1, off, none⟩ info.size).run E.P w = .ok vs.toArray w → (Instr.loadAt t (.pointer (some ⟨b.1, off, none⟩))).run E.P w = .ok (.agg vs.toArray) w := by
      intro vs hvs
      simp [Instr.loadAt, Instr.sureAddr, loadVar, run_isAgg hag, run_sizeOf hinfo, hvs]
    split at h
    · rename_i xs e fz ext own hl
      obtain ⟨_, _, b', o, hb', ho, hor, _⟩ := hr.look hl
      rw [hb] at hb'; cases hb'
      obtain ⟨ys, rest, rfl, hvl, _⟩ := hor
      cases hle : Nat.ble (off + info.size) xs.length
      · rw [hle] at h; cases h
      · rw [hle] at h; cases h
        have hle := Nat.le_of_ble_eq_true hle
        have hlen := hvl.length
        refine ⟨.refl _, fun ob => ⟨ob, .agg ((ys.drop off).take info.size).toArray, ?_, VR.agg_iff.2 ⟨_, rfl, (hvl.drop off).take info.size⟩⟩⟩
        refine hrun _ (run_loadCells ?_ ?_)
        · intro k hk
          rw [cell_at ho, List.getElem?_take, if_pos hk, List.getElem?_drop]
          have : off + k < ys.length := by omega
          simp [List.getElem?_append_left this]
        · simp; omega
    · rename_i n f e fz ext own hl
      obtain ⟨_, _, b', o, hb', ho, hor, _⟩ := hr.look hl
      rw [hb] at hb'; cases hb'
      obtain ⟨c, rfl, hf, _⟩ := hor
      cases hs : s.ask E (Nat.ble (off + info.size) n) with
      | none => rw [hs] at h; cases h
      | some s1 =>
        rw [hs] at h; cases h
        obtain ⟨hsame, hob⟩ := SH.ask_ok hs
        have hmap : ∀ l : List Nat, VRL ν (l.map fun k => SV.v (f (off + k))) (l.map fun k => f (off + k)) := by
          intro l; induction l with
          | nil => exact VRL.nil
          | cons k l ih => exact VRL.cons (VR.v_iff.2 rfl) ih
        refine ⟨hsame, fun ob => ⟨(hob ob).1, _, ?_, VR.agg_iff.2 ⟨_, rfl, hmap _⟩⟩⟩
        have hle := Nat.le_of_ble_eq_true (hob ob).2
        refine hrun _ (run_loadCells ?_ (by simp))
        intro k hk
        rw [cell_at ho, hf (off + k) (by omega)]
        simp [hk]
    · cases h
  · cases h

theorem sLoad_ok {t : TypeId} {a x : SV} {av : Value} (h : sLoad E t a s = some (x, s')) (hr : HR ν M w0 s w) (ha : VR ν a av) :
    s.Same s' ∧ (s'.ob → s.ob ∧ ∃ y, (Instr.loadAt t av).run E.P w = .ok y w ∧ VR ν x y) := by
  unfold sLoad at h
  split at h
  · exact sLoadQ_ok h hr ha
  · exact sLoad0_ok h hr ha

/-! ### stores -/

theorem SV.cells_ok {x : SV} {l : List SV} {y : Value} (h : x.cells = some l) (hv : VR ν x y) : VRL ν l y.cells.toList := by
  have one : ∀ {x : SV} {y : Value}, VR ν x y → y.cells = #[y] → VRL ν [x] y.cells.toList := by
    intro x y hv hc
    rw [hc]; exact VRL.cons hv VRL.nil
  cases x with
  | junk => cases h
  | agg l' => cases h; obtain ⟨a, rfl, ha⟩ := VR.agg_iff.1 hv; simpa [Value.cells] using ha
  | v x =>
    obtain rfl := VR.v_iff.1 hv
    cases y <;> first | (cases h; exact one hv rfl) | (cases h; simpa [Value.cells] using VRL.lits ν _)
  | ptr => cases h; refine one hv ?_; obtain ⟨b, _, rfl⟩ := VR.ptr_iff.1 hv; rfl
  | sl => cases h; refine one hv ?_; obtain ⟨b, _, _, rfl⟩ := VR.sl_iff.1 hv; rfl
  | map => cases h; refine one hv ?_; obtain ⟨b, _, rfl⟩ := VR.map_iff.1 hv; rfl
  | tup => cases h; refine one hv ?_; obtain ⟨b, rfl, _⟩ := VR.tup_iff.1 hv; rfl
  | iface => cases h; refine one hv ?_; obtain ⟨b, rfl, _⟩ := VR.iface_iff.1 hv; rfl
  | func => cases h; refine one hv ?_; obtain ⟨b, c, rfl, _⟩ := VR.func_iff.1 hv; rfl
  | yield => cases h; refine one hv ?_; obtain ⟨b, _, rfl⟩ := VR.yield_iff.1 hv; rfl
  | fin => cases h; refine one hv ?_; obtain ⟨b, _, rfl⟩ := VR.fin_iff.1 hv; rfl

theorem SV.flat_ok {x : SV} {y : Value} (h : x.flat = true) (hv : VR ν x y) : y.oneCell' = true := by
  cases x with
  | junk => cases h
  | agg l => cases h
  | tup l => cases h
  | v x => rw [VR.v_iff.1 hv]; cases x <;> first | rfl | cases h
  | ptr => obtain ⟨b, _, rfl⟩ := VR.ptr_iff.1 hv; rfl
  | sl => obtain ⟨b, _, _, rfl⟩ := VR.sl_iff.1 hv; rfl
  | map => obtain ⟨b, _, rfl⟩ := VR.map_iff.1 hv; rfl
  | iface => obtain ⟨b, rfl, _⟩ := VR.iface_iff.1 hv; rfl
  | func => obtain ⟨b, c, rfl, _⟩ := VR.func_iff.1 hv; rfl
  | yield => obtain ⟨b, _, rfl⟩ := VR.yield_iff.1 hv; rfl
  | fin => obtain ⟨b, _, rfl⟩ := VR.fin_iff.1 hv; rfl

theorem VRL.flat {l : List SV} {ys : List Value} (h : l.all SV.flat = true) (hv : VRL ν l ys) : ∀ y ∈ ys, y.oneCell' = true := by
  induction l generalizing ys with
  | nil => rw [hv.nil_inv]; simp
  | cons x l ih =>
    obtain ⟨z, zs, rfl, hz, hs⟩ := hv.cons_inv
    simp at h
    intro y hy
    rcases List.mem_cons.1 hy with rfl | hy
    · exact SV.flat_ok h.1 hz
    · exact ih (by simpa using h.2) hs y hy

def spliceV (ys : List Value) (off : Nat) : List Value → List Value
  | [] => ys
  | z :: zs => spliceV (ys.set off z) (off + 1) zs

theorem spliceV_length (ys : List Value) (off : Nat) (zs : List Value) : (spliceV ys off zs).length = ys.length := by
  induction zs generalizing ys off with
  | nil => rfl
  | cons z zs ih => rw [spliceV, ih, List.length_set]
theorem splice_length (xs : List SV) (off : Nat) (l : List SV) : (splice xs off l).length = xs.length := by
  induction l generalizing xs off with
  | nil => rw [splice_nil]
  | cons z zs ih => rw [splice_cons, ih, List.length_set]

theorem VRL.splice {xs : List SV} {ys : List Value} {l : List SV} {zs : List Value} (h : VRL ν xs ys) (hl : VRL ν l zs) (off : Nat) : VRL ν (Go.Rx.splice xs off l) (spliceV ys off zs) := by
  induction l generalizing xs ys zs off with
  | nil => rw [hl.nil_inv, splice_nil]; exact h
  | cons x l ih =>
    obtain ⟨z, zs, rfl, hz, hs⟩ := hl.cons_inv
    rw [splice_cons]
    exact ih (h.set hz off) hs (off + 1)

theorem spliceV_append {ys rest : List Value} {zs : List Value} {off : Nat} (h : off + zs.length ≤ ys.length) : spliceV (ys ++ rest) off zs = spliceV ys off zs ++ rest := by
  induction zs generalizing ys off with
  | nil => rfl
  | cons z zs ih =>
    simp only [List.length_cons] at h
    rw [spliceV, spliceV, List.set_append_left _ _ (by omega), ih (by simp; omega)]

/-- What storing some cells comes to. -/
theorem run_storeCells {P : Program} {b off : Nat} {e : TypeId} {fz : Nat × Nat} : ∀ (zs : List Value) (i : Nat) (w : World) (c : List Value), w.heap[b]? = some (.cells c.toArray e fz) →
    (∀ z ∈ zs, z.oneCell' = true) → off + i + zs.length ≤ c.length → (∀ k, off + i ≤ k → k < off + i + zs.length → ¬ (fz.1 ≤ k ∧ k < fz.2)) →
    (storeCells ⟨b, off, none⟩ zs i).run P w = .ok () { w with heap := w.heap.setIfInBounds b (.cells (spliceV c (off + i) zs).toArray e fz) } := by
  intro zs
  induction zs with
  | nil =>
    intro i w c hw _ _ _
    have : w.heap.setIfInBounds b (.cells c.toArray e fz) = w.heap := by
      apply Array.ext_getElem?
      intro j
      rw [Array.getElem?_setIfInBounds]
      split
      · rename_i ej
        subst ej
        have := (Array.getElem?_eq_some_iff.1 hw).1
        have hw' := (Array.getElem?_eq_some_iff.1 hw).2
        simp [this, hw']
      · rfl
    simp [storeCells, spliceV, this]
  | cons z zs ih =>
    intro i w c hw hone hlen hfz
    simp only [List.length_cons] at hlen hfz
    have hz := hone z (by simp)
    have hcell : w.cell? ⟨b, off + i, none⟩ = c[off + i]? := by rw [cell_at hw]; simp
    have hlt : off + i < c.length := by omega
    have hfr : w.frozen? ⟨b, off + i, none⟩ = false := by
      simp only [World.frozen?, hw]
      have := hfz (off + i) (by omega) (by omega)
      obtain ⟨lo, hi⟩ := fz
      simp at this ⊢
      omega
    have hbl := (Array.getElem?_eq_some_iff.1 hw).1
    have hset : w.setCell ⟨b, off + i, none⟩ z = { w with heap := w.heap.setIfInBounds b (.cells (c.set (off + i) z).toArray e fz) } := by
      unfold World.setCell
      congr 1
      apply Array.ext_getElem?
      intro j
      rw [Array.getElem?_modify, Array.getElem?_setIfInBounds]
      split
      · rename_i ej
        subst ej
        have hw' := (Array.getElem?_eq_some_iff.1 hw).2
        simp [hbl, hw']
      · rfl
    have hstore : (store ⟨b, off + i, none⟩ z).run P w = .ok () (w.setCell ⟨b, off + i, none⟩ z) := by
      rw [run_store P w ⟨b, off + i, none⟩ z .plain hz, hcell, List.getElem?_eq_getElem hlt]
      simp [hfr]
    simp only [storeCells, addr_add, Sem.run_bind]
    rw [hstore, Result.andThen_ok, hset]
    have hw2 : ({ w with heap := w.heap.setIfInBounds b (.cells (c.set (off + i) z).toArray e fz) } : World).heap[b]? = some (.cells (c.set (off + i) z).toArray e fz) := by
      simp [hbl]
    rw [ih (i + 1) _ (c.set (off + i) z) hw2 (fun y hy => hone y (List.mem_cons_of_mem _ hy)) (by simp; omega) (fun k h1 h2 => hfz k (by omega) (by omega))]
    simp [spliceV, Nat.add_assoc]

theorem fzOk_ok {fz : Nat × Nat} {off n : Nat} (h : fzOk fz off n = true) : ∀ k, off ≤ k → k < off + n → ¬ (fz.1 ≤ k ∧ k < fz.2) := by
  intro k h1 h2 h3
  unfold fzOk at h
  rw [Bool.or_eq_true, Bool.or_eq_true] at h
  rcases h with (h | h) | h <;> (have := Nat.le_of_ble_eq_true h; omega)

theorem fzReal_ok {fz : Nat × Nat} {off n m : Nat} (h : fzOk fz off n = true) (hm : off + n ≤ m) : ∀ k, off ≤ k → k < off + n → ¬ ((fzReal fz m).1 ≤ k ∧ k < (fzReal fz m).2) := by
  intro k h1 h2
  unfold fzReal
  cases hb : (Nat.beq fz.1 1 && Nat.beq fz.2 0)
  · exact fzOk_ok h k h1 h2
  · simp; omega

/-- A row of which some cells are written anew. -/
theorem HR.spliced (hr : HR ν M w0 s w) {i : Nat} {xs : List SV} {e : TypeId} {fz : Nat × Nat} {ext : Option Nat} (hl : s.look i = some (.row xs e fz ext, true))
    {b : Nat × Nat} (hb : ν i = some b) {l : List SV} {zs : List Value} (hz : VRL ν l zs) {off : Nat} (hlen : off + l.length ≤ xs.length) (hfz : fzOk fz off l.length = true) (hflat : l.all SV.flat = true) :
    ∃ w', (storeCells ⟨b.1, off, none⟩ zs).run E.P w = .ok () w' ∧ HR ν M w0 (s.put i (.row (splice xs off l) e fz ext)) w' := by
  obtain ⟨_, _, b', o, hb', ho, hor, _⟩ := hr.look hl
  rw [hb] at hb'; cases hb'
  obtain ⟨ys, rest, rfl, hvl, hext⟩ := hor
  have h1 := hvl.length
  have h2 := hz.length
  have hrun := run_storeCells (P := E.P) (b := b.1) (off := off) (e := e) (fz := fzReal fz (ys ++ rest).length) zs 0 w (ys ++ rest) ho (hz.flat hflat) (by simp; omega) (by
    intro k hk1 hk2
    exact fzReal_ok hfz (by simp; omega) k (by omega) (by omega))
  rw [Nat.add_zero, spliceV_append (by omega)] at hrun
  have hl1 : (splice xs off l).length = xs.length := splice_length _ _ _
  have hl2 : (spliceV ys off zs ++ rest).length = (ys ++ rest).length := by simp [spliceV_length]
  refine ⟨_, hrun, hr.put hl (o := .row (splice xs off l) e fz ext) hb ⟨spliceV ys off zs, rest, by rw [hl2], hvl.splice hz off, ?_⟩ rfl rfl rfl rfl⟩
  rw [hl1, hl2]; exact hext

theorem sStoreQ_ok {t : TypeId} {a x : SV} {av xv : Value} (h : sStoreQ E t a x s = some s') (hr : HR ν M w0 s w) (ha : VR ν a av) (hx : VR ν x xv) :
    s'.ob → s.ob ∧ GoodU E.P (Instr.storeAt t av xv) ν M w0 w s' := by
  unfold sStoreQ at h
  split at h
  · rename_i i off l info hc hinfo
    obtain ⟨b, hb, rfl⟩ := VR.ptr_iff.1 ha
    have hcl := SV.cells_ok hc hx
    cases hb1 : (l.length == info.size && l.all SV.flat)
    · rw [hb1] at h; cases h
    · rw [hb1] at h
      rw [Bool.and_eq_true] at hb1
      obtain ⟨hsz, hflat⟩ := hb1
      have hsz : l.length = info.size := by simpa using hsz
      simp only [cond_true] at h
      split at h
      · rename_i xs e fz ext hl
        cases h
        intro ob
        have ob : (s.owe (off + l.length ≤ xs.length ∧ fzOk fz off l.length = true)).ob := ob
        obtain ⟨w', hrun, hr'⟩ := (hr.same (SH.owe_same s (off + l.length ≤ xs.length ∧ fzOk fz off l.length = true))).spliced (E := E) hl hb hcl ob.2.1 ob.2.2 hflat
        refine ⟨ob.1, ν, w', Val.Le.refl _, ?_, hr'⟩
        have hne : xv.cells.size = info.size := by rw [← hsz, ← hcl.length]; simp
        simp [Instr.storeAt, Instr.sureAddr, storeVar, run_sizeOf hinfo, hne, hrun]
      · cases h
  · cases h

theorem sStore0_ok {t : TypeId} {a x : SV} {av xv : Value} (h : sStore0 E t a x s = some s') (hr : HR ν M w0 s w) (ha : VR ν a av) (hx : VR ν x xv) :
    (s'.ob → s.ob) ∧ GoodU E.P (Instr.storeAt t av xv) ν M w0 w s' := by
  unfold sStore0 at h
  split at h
  · rename_i i off l info hc hinfo
    obtain ⟨b, hb, rfl⟩ := VR.ptr_iff.1 ha
    have hcl := SV.cells_ok hc hx
    cases hb1 : (l.length == info.size && l.all SV.flat)
    · rw [hb1] at h; cases h
    · rw [hb1] at h
      rw [Bool.and_eq_true] at hb1
      obtain ⟨hsz, hflat⟩ := hb1
      have hsz : l.length = info.size := by simpa using hsz
      simp only [cond_true] at h
      split at h
      · rename_i xs e fz ext hl
        cases hb2 : (Nat.ble (off + l.length) xs.length && fzOk fz off l.length)
        · rw [hb2] at h; cases h
        · rw [hb2] at h; cases h
          rw [Bool.and_eq_true] at hb2
          obtain ⟨w', hrun, hr'⟩ := hr.spliced (E := E) hl hb hcl (Nat.le_of_ble_eq_true hb2.1) hb2.2 hflat
          refine ⟨fun k => k, ν, w', Val.Le.refl _, ?_, hr'⟩
          have hne : xv.cells.size = info.size := by rw [← hsz, ← hcl.length]; simp
          simp [Instr.storeAt, Instr.sureAddr, storeVar, run_sizeOf hinfo, hne, hrun]
      · cases h
  · cases h

theorem sStore_ok {t : TypeId} {a x : SV} {av xv : Value} (h : sStore E t a x s = some s') (hr : HR ν M w0 s w) (ha : VR ν a av) (hx : VR ν x xv) :
    s'.ob → s.ob ∧ GoodU E.P (Instr.storeAt t av xv) ν M w0 w s' := by
  unfold sStore at h
  split at h
  · exact sStoreQ_ok h hr ha hx
  · exact fun ob => ⟨(sStore0_ok h hr ha hx).1 ob, (sStore0_ok h hr ha hx).2⟩

/-! ### new objects -/

theorem sNew_ok {o : SO} {i : Nat} (h : sNew o s = some (i, s')) (hr : HR ν M w0 s w) (c : Nat) {r : Obj} (ho : ∀ ν', ν.Le ν' → ν' i = some (w.heap.size, c) → OR ν' i o r) :
    (s'.ob = s.ob) ∧ ∃ ν', ν.Le ν' ∧ ν' i = some (w.heap.size, c) ∧ HR ν' M w0 s' { w with heap := w.heap.push r } := by
  unfold sNew at h
  cases hroom : s.room
  · rw [hroom] at h; cases h
  · rw [hroom] at h; cases h
    have hnx : ν s.nx = none := hr.fresh _ (Nat.le_refl _)
    have hle := Val.put_le hnx (w.heap.size, c)
    obtain ⟨_, hr'⟩ := hr.new (w' := { w with heap := w.heap.push r }) hroom c (ho _ hle (Val.put_self _ _ _)) rfl rfl rfl rfl
    exact ⟨rfl, _, hle, Val.put_self _ _ _, hr'⟩

theorem sBox_ok {t : TypeId} {x y : SV} {xv : Value} (h : sBox t x s = some (y, s')) (hr : HR ν M w0 s w) (hx : VR ν x xv) :
    (s'.ob = s.ob) ∧ GoodV E.P (Instr.box t xv) ν M w0 w y s' := by
  unfold sBox at h
  cases hc : x.cells with
  | none => rw [hc] at h; cases h
  | some l =>
    rw [hc] at h
    simp only [Option.bind_eq_bind, Option.bind_some] at h
    cases hn : sNew (.row l t (0, 0) none) s with
    | none => rw [hn] at h; cases h
    | some p =>
      obtain ⟨i, s1⟩ := p
      rw [hn] at h; cases h
      have hcl := SV.cells_ok hc hx
      obtain ⟨hob, ν', hle, hi, hr'⟩ := sNew_ok hn hr 0 (r := .cells xv.cells t) (fun ν' hle _ => ⟨xv.cells.toList, [], by simp, hcl.mono hle, by simpa [ExtR] using hcl.length⟩)
      refine ⟨hob, ν', _, _, hle, ?_, VR.ptr_iff.2 ⟨_, hi, rfl⟩, hr'⟩
      simp [Instr.box, newVar, newRow]

theorem sAlloc_ok {t : TypeId} {y : SV} (h : sAlloc E t s = some (y, s')) (hr : HR ν M w0 s w) :
    (s'.ob = s.ob) ∧ GoodV E.P (Instr.alloc t true (.tuple #[])) ν M w0 w y s' := by
  unfold sAlloc at h
  cases hi : tinfo E t with
  | none => rw [hi] at h; cases h
  | some info =>
    rw [hi] at h
    simp only [Option.bind_eq_bind, Option.bind_some] at h
    cases hz : info.zero with
    | none => rw [hz] at h; cases h
    | some z =>
      rw [hz] at h
      simp only [Option.bind_some] at h
      obtain ⟨hob, ν', w', v, hle, hrun, hv, hr'⟩ := sBox_ok (E := E) (xv := z) h hr (VR.v_iff.2 rfl)
      refine ⟨hob, ν', w', v, hle, ?_, hv, hr'⟩
      rw [← hrun]
      simp [Instr.alloc, Instr.box, run_zeroValue hi hz]

end
end Go.Rx
