/- The symbolic executor 'Rx', part U: operations that go ahead of their turn. By an AI agent. -/
import Derived.Test.YtjhmpmhkppglnaaGreatRxT
set_option linter.unusedVariables false
set_option linter.unusedSimpArgs false
namespace Go.Rx
section
variable {ν : Val} {M : Own} {w0 w : World} {s s' : SH} {E : Env}

mutual
theorem VR.func1 {ν : Val} : ∀ (s : SV) (x y : Value), s.solid = true → VR ν s x → VR ν s y → x = y
  | .junk, _, _, h, _, _ => by cases h
  | .v _, _, _, _, hx, hy => by rw [VR.v_iff.1 hx, VR.v_iff.1 hy]
  | .ptr _ _, _, _, _, hx, hy => by
    obtain ⟨b, hb, rfl⟩ := VR.ptr_iff.1 hx; obtain ⟨c, hc, rfl⟩ := VR.ptr_iff.1 hy; rw [hb] at hc; cases hc; rfl
  | .sl _ _ _ _, _, _, _, hx, hy => by
    obtain ⟨b, hb, _, rfl⟩ := VR.sl_iff.1 hx; obtain ⟨c, hc, _, rfl⟩ := VR.sl_iff.1 hy; rw [hb] at hc; cases hc; rfl
  | .map _, _, _, _, hx, hy => by
    obtain ⟨b, hb, rfl⟩ := VR.map_iff.1 hx; obtain ⟨c, hc, rfl⟩ := VR.map_iff.1 hy; rw [hb] at hc; cases hc; rfl
  | .agg l, _, _, h, hx, hy => by
    obtain ⟨a, rfl, ha⟩ := VR.agg_iff.1 hx; obtain ⟨b, rfl, hb⟩ := VR.agg_iff.1 hy
    rw [VRL.func1 l a b h ha hb]
  | .tup l, _, _, h, hx, hy => by
    obtain ⟨a, rfl, ha⟩ := VR.tup_iff.1 hx; obtain ⟨b, rfl, hb⟩ := VR.tup_iff.1 hy
    rw [VRL.func1 l a b h ha hb]
  | .iface _ x, _, _, h, hx, hy => by
    obtain ⟨a, rfl, ha⟩ := VR.iface_iff.1 hx; obtain ⟨b, rfl, hb⟩ := VR.iface_iff.1 hy
    rw [VR.func1 x a b h ha hb]
  | .func _ p q, _, _, h, hx, hy => by
    obtain ⟨a, a', rfl, ha, ha'⟩ := VR.func_iff.1 hx; obtain ⟨b, b', rfl, hb, hb'⟩ := VR.func_iff.1 hy
    rw [SV.solid, Bool.and_eq_true] at h
    rw [VRL.func1 p a b h.1 ha hb, VRL.func1 q a' b' h.2 ha' hb']
  | .yield _, _, _, _, hx, hy => by
    obtain ⟨b, hb, rfl⟩ := VR.yield_iff.1 hx; obtain ⟨c, hc, rfl⟩ := VR.yield_iff.1 hy; rw [hb] at hc; cases hc; rfl
  | .fin _ _ _ _, _, _, _, hx, hy => by
    obtain ⟨b, hb, rfl⟩ := VR.fin_iff.1 hx; obtain ⟨c, hc, rfl⟩ := VR.fin_iff.1 hy; rw [hb] at hc; cases hc; rfl
theorem VRL.func1 {ν : Val} : ∀ (l : List SV) (a b : List Value), solidL l = true → VRL ν l a → VRL ν l b → a = b
  | [], _, _, _, ha, hb => by rw [ha.nil_inv, hb.nil_inv]
  | x :: xs, _, _, h, ha, hb => by
    obtain ⟨y, ys, rfl, hy, hys⟩ := ha.cons_inv; obtain ⟨z, zs, rfl, hz, hzs⟩ := hb.cons_inv
    rw [solidL, Bool.and_eq_true] at h
    rw [VR.func1 x y z h.1 hy hz, VRL.func1 xs ys zs h.2 hys hzs]
end

theorem cellEq_ok {x y : Value} {s s' : SH} (h : cellEq E x y s = some s') : s.Same s' ∧ (s'.ob → s.ob ∧ x = y) := by
  unfold cellEq at h
  split at h
  · rename_i k x k' y
    cases hb : (k == k')
    · rw [hb] at h; cases h
    · rw [hb] at h
      obtain ⟨hsame, hob⟩ := SH.ask_ok h
      have hb : k = k' := by simpa using hb
      exact ⟨hsame, fun ob => ⟨(hob ob).1, by have := (hob ob).2; have : x = y := by simpa using this
                                              rw [hb, this]⟩⟩
  · rename_i x y
    obtain ⟨hsame, hob⟩ := SH.ask_ok h
    exact ⟨hsame, fun ob => ⟨(hob ob).1, by rw [(ba_beq _ _).1 (hob ob).2]⟩⟩
  · rename_i x y
    obtain ⟨hsame, hob⟩ := SH.ask_ok h
    exact ⟨hsame, fun ob => ⟨(hob ob).1, by have := (hob ob).2; have : x = y := by simpa using this
                                            rw [this]⟩⟩
  · cases h; exact ⟨.refl _, fun ob => ⟨ob, rfl⟩⟩
  · cases h; exact ⟨.refl _, fun ob => ⟨ob, rfl⟩⟩
  · cases h; exact ⟨.refl _, fun ob => ⟨ob, rfl⟩⟩
  · rename_i a l c b m d
    obtain ⟨hsame, hob⟩ := SH.ask_ok h
    refine ⟨hsame, fun ob => ⟨(hob ob).1, ?_⟩⟩
    obtain ⟨rfl, rfl, rfl⟩ := of_decide_eq_true (hob ob).2
    rfl
  · cases h; exact ⟨.refl _, fun ob => ⟨ob, rfl⟩⟩
  · rename_i f a b g c d
    cases hb : (f == g && (a.size == 0 && b.size == 0) && (c.size == 0 && d.size == 0))
    · rw [hb] at h; cases h
    · rw [hb] at h; cases h
      simp only [Bool.and_eq_true] at hb
      obtain ⟨⟨h1, h2, h3⟩, h4, h5⟩ := hb
      have h1 : f = g := by simpa using h1
      have h2 : a = #[] := by simpa using h2
      have h3 : b = #[] := by simpa using h3
      have h4 : c = #[] := by simpa using h4
      have h5 : d = #[] := by simpa using h5
      exact ⟨.refl _, fun ob => ⟨ob, by rw [h1, h2, h3, h4, h5]⟩⟩
  · cases h

theorem cellsEq_ok : ∀ {a b : List Value} {s s' : SH}, cellsEq E a b s = some s' → s.Same s' ∧ (s'.ob → s.ob ∧ a = b)
  | [], [], _, _, h => by cases h; exact ⟨.refl _, fun ob => ⟨ob, rfl⟩⟩
  | [], _ :: _, _, _, h => by cases h
  | _ :: _, [], _, _, h => by cases h
  | x :: xs, y :: ys, s, s', h => by
    simp only [cellsEq] at h
    obtain ⟨s1, h1, h2⟩ := Option.bind_eq_some_iff.1 h
    obtain ⟨e1, e2⟩ := cellEq_ok h1
    obtain ⟨e3, e4⟩ := cellsEq_ok h2
    exact ⟨e1.trans e3, fun ob => ⟨(e2 (e4 ob).1).1, by rw [(e4 ob).2, (e2 (e4 ob).1).2]⟩⟩

theorem plainEq_ok {x y : Value} {s s' : SH} (h : plainEq E x y s = some s') : s.Same s' ∧ (s'.ob → s.ob ∧ x = y) := by
  unfold plainEq at h
  split at h
  · obtain ⟨e1, e2⟩ := cellsEq_ok h
    exact ⟨e1, fun ob => ⟨(e2 ob).1, by rw [Array.toList_inj.1 (e2 ob).2]⟩⟩
  · obtain ⟨e1, e2⟩ := cellsEq_ok h
    exact ⟨e1, fun ob => ⟨(e2 ob).1, by rw [Array.toList_inj.1 (e2 ob).2]⟩⟩
  · exact cellEq_ok h

theorem eqN_ok {b : Bool} {p : Prop} (hp : b = true → p) (h : s.eqN b p = some s') : s.Same s' ∧ (s'.ob → s.ob ∧ p) := by
  unfold SH.eqN at h
  cases hs : s.soft
  · rw [hs] at h
    cases b
    · cases h
    · cases h; exact ⟨.refl _, fun ob => ⟨ob, hp rfl⟩⟩
  · rw [hs] at h; cases h; exact ⟨SH.owe_same _ _, fun ob => ob⟩

mutual
theorem svEq_ok : ∀ {x y : SV} {s s' : SH}, svEq E x y s = some s' → s.Same s' ∧ (s'.ob → s.ob ∧ x = y)
  | .ptr i o, y, s, s', h => by
    simp only [svEq] at h
    split at h
    · rename_i j p
      cases hb : (i == j)
      · rw [hb] at h; cases h
      · rw [hb] at h
        have hb : i = j := by simpa using hb
        obtain ⟨e1, e2⟩ := eqN_ok (fun hp => by simpa using hp) h
        exact ⟨e1, fun ob => ⟨(e2 ob).1, by rw [hb, (e2 ob).2]⟩⟩
    · cases h
  | .map i, y, s, s', h => by
    simp only [svEq] at h
    split at h
    · rename_i j
      cases hb : (i == j)
      · rw [hb] at h; cases h
      · rw [hb] at h; cases h
        exact ⟨.refl _, fun ob => ⟨ob, by simpa using hb⟩⟩
    · cases h
  | .sl i o l c, y, s, s', h => by
    simp only [svEq] at h
    split at h
    · rename_i j p m d
      cases hb : (i == j)
      · rw [hb] at h; cases h
      · rw [hb] at h
        have hb : i = j := by simpa using hb
        obtain ⟨e1, e2⟩ := eqN_ok (fun hp => by
          rw [Bool.and_eq_true, Bool.and_eq_true] at hp
          obtain ⟨⟨h2, h3⟩, h4⟩ := hp
          have h2 : o = p := by simpa using h2
          have h3 : l = m := by simpa using h3
          have h4 : c = d := by simpa using h4
          exact ⟨h2, h3, h4⟩) h
        exact ⟨e1, fun ob => ⟨(e2 ob).1, by obtain ⟨h2, h3, h4⟩ := (e2 ob).2; rw [hb, h2, h3, h4]⟩⟩
    · cases h
  | .fin i o l a, y, s, s', h => by
    simp only [svEq] at h
    split at h
    · rename_i j p m b
      cases hb : (i == j)
      · rw [hb] at h; cases h
      · rw [hb] at h
        have hb : i = j := by simpa using hb
        obtain ⟨e1, e2⟩ := eqN_ok (fun hp => by
          rw [Bool.and_eq_true, Bool.and_eq_true] at hp
          obtain ⟨⟨h2, h3⟩, h4⟩ := hp
          have h2 : o = p := by simpa using h2
          have h3 : l = m := by simpa using h3
          have h4 : a = b := by simpa using h4
          exact ⟨h2, h3, h4⟩) h
        exact ⟨e1, fun ob => ⟨(e2 ob).1, by obtain ⟨h2, h3, h4⟩ := (e2 ob).2; rw [hb, h2, h3, h4]⟩⟩
    · cases h
  | .yield i, y, s, s', h => by
    simp only [svEq] at h
    split at h
    · rename_i j
      cases hb : (i == j)
      · rw [hb] at h; cases h
      · rw [hb] at h; cases h
        exact ⟨.refl _, fun ob => ⟨ob, by simpa using hb⟩⟩
    · cases h
  | .iface t x, y, s, s', h => by
    simp only [svEq] at h
    split at h
    · rename_i u y
      cases hb : (t == u)
      · rw [hb] at h; cases h
      · rw [hb] at h
        obtain ⟨h1, h2⟩ := svEq_ok (x := x) (y := y) h
        have hb : t = u := by simpa using hb
        exact ⟨h1, fun ob => ⟨(h2 ob).1, by rw [hb, (h2 ob).2]⟩⟩
    · cases h
  | .agg l, y, s, s', h => by
    simp only [svEq] at h
    split at h
    · rename_i m
      obtain ⟨h1, h2⟩ := svEqL_ok (l := l) (m := m) h
      exact ⟨h1, fun ob => ⟨(h2 ob).1, by rw [(h2 ob).2]⟩⟩
    · cases h
  | .tup l, y, s, s', h => by
    simp only [svEq] at h
    split at h
    · rename_i m
      obtain ⟨h1, h2⟩ := svEqL_ok (l := l) (m := m) h
      exact ⟨h1, fun ob => ⟨(h2 ob).1, by rw [(h2 ob).2]⟩⟩
    · cases h
  | .func f a b, y, s, s', h => by
    simp only [svEq] at h
    split at h
    · rename_i f g c d
      cases hb : (f == g)
      · rw [hb] at h; cases h
      · rw [hb] at h
        have hb : f = g := by simpa using hb
        obtain ⟨s1, h1, h2⟩ := Option.bind_eq_some_iff.1 h
        obtain ⟨e1, e2⟩ := svEqL_ok (l := a) (m := c) h1
        obtain ⟨e3, e4⟩ := svEqL_ok (l := b) (m := d) h2
        exact ⟨e1.trans e3, fun ob => ⟨(e2 (e4 ob).1).1, by rw [hb, (e4 ob).2, (e2 (e4 ob).1).2]⟩⟩
    · cases h
  | .junk, y, s, s', h => by simp [svEq] at h
  | .v x, y, s, s', h => by
    simp only [svEq] at h
    split at h
    · rename_i y
      obtain ⟨h1, h2⟩ := plainEq_ok h
      exact ⟨h1, fun ob => ⟨(h2 ob).1, by rw [(h2 ob).2]⟩⟩
    · cases h
theorem svEqL_ok : ∀ {l m : List SV} {s s' : SH}, svEqL E l m s = some s' → s.Same s' ∧ (s'.ob → s.ob ∧ l = m)
  | [], m, s, s', h => by
    simp only [svEqL] at h
    split at h
    · cases h; exact ⟨.refl _, fun ob => ⟨ob, rfl⟩⟩
    · cases h
  | x :: xs, m, s, s', h => by
    simp only [svEqL] at h
    split at h
    · rename_i y ys
      obtain ⟨s1, h1, h2⟩ := Option.bind_eq_some_iff.1 h
      obtain ⟨e1, e2⟩ := svEq_ok (x := x) (y := y) h1
      obtain ⟨e3, e4⟩ := svEqL_ok (l := xs) (m := ys) h2
      exact ⟨e1.trans e3, fun ob => ⟨(e2 (e4 ob).1).1, by rw [(e4 ob).2, (e2 (e4 ob).1).2]⟩⟩
    · cases h
end

/-- What is known of a value that went ahead. -/
def QuietOut (E : Env) (g : Sem Next) (ν : Val) (w : World) (x : SV) (looksIn : Bool) : Prop :=
  (∃ y, g.run E.P w = .ok (.value y) w ∧ VR ν x y) ∧ (looksIn = false → ∀ w, ∃ y, g.run E.P w = .ok (.value y) w ∧ VR ν x y)

theorem QuietOut.ofV {g : Sem Value} {x : SV} {b : Bool} (h : ∀ w, ∃ y, g.run E.P w = .ok y w ∧ VR ν x y) : QuietOut E (do pure (.value (← g))) ν w x b := by
  have : ∀ w, ∃ y, ((do pure (.value (← g)) : Sem Next)).run E.P w = .ok (.value y) w ∧ VR ν x y := by
    intro w
    obtain ⟨y, hy, hv⟩ := h w
    exact ⟨y, by simp [hy], hv⟩
  exact ⟨this w, fun _ => this⟩

theorem QuietOut.ofLook {g : Sem Value} {x : SV} (h : ∃ y, g.run E.P w = .ok y w ∧ VR ν x y) : QuietOut E (do pure (.value (← g))) ν w x true := by
  obtain ⟨y, hy, hv⟩ := h
  exact ⟨⟨y, by simp [hy], hv⟩, by intro h; cases h⟩

theorem sPure_quiet {tm : STm} {o : Oper} {x : SV} (hk : pureKind o.op = true) (h : sPure E tm o = some x) {ρ : Operand → Value} (hρ : OpdR E ν tm ρ) (b : Bool) :
    QuietOut E (execOp ρ o) ν w x b := by
  unfold sPure at h
  cases hp : allPlain E tm o.op.operands.toList
  · rw [hp] at h; cases h
  · rw [hp] at h
    simp only [cond_true] at h
    split at h
    · rename_i v hrun
      cases h
      have hc := Go.Rx.execOp_congr hk (plain_of hp hρ)
      have : ∀ w, ∃ y, (execOp ρ o).run E.P w = .ok (.value y) w ∧ VR ν (.v v) y := fun w => ⟨v, by rw [hc]; exact pureRun_ok hrun w, VR.v_iff.2 rfl⟩
      exact ⟨this w, fun _ => this⟩
    · cases h

theorem sQuiet_ok0 {tm : STm} {o : Oper} {x : SV} {ρ : Operand → Value} (hf : floats o.op = true) (hnc : ∀ a b c, o.op ≠ .convert a b c) (hnf : ∀ op t a b yt, o.op = .binOp op t a b yt → sEqlFar E t (evalOpd E tm a) (evalOpd E tm b) s = false) (h : sOp E tm o s = some [(.val x, s')]) (hr : HR ν M w0 s w) (hρ : OpdR E ν tm ρ) :
    s.Same s' ∧ (s'.ob → s.ob ∧ QuietOut E (execOp ρ o) ν w x (looks o.op)) := by
  obtain ⟨dst, op, type, pos, aft, guard⟩ := o
  have hval : ∀ (z : Operand), QuietOut E (pure (.value (ρ z))) ν w (evalOpd E tm z) false := fun z =>
    ⟨⟨_, rfl, hρ z⟩, fun _ w => ⟨_, rfl, hρ z⟩⟩
  have vV : ∀ {z : Option SV} {g : Sem Value} {b : Bool}, (z.map fun x => [(SNext.val x, s)]) = some [(.val x, s')] → (∀ x0, z = some x0 → ∀ w, ∃ y, g.run E.P w = .ok y w ∧ VR ν x0 y) →
      s.Same s' ∧ (s'.ob → s.ob ∧ QuietOut E (do pure (.value (← g))) ν w x b) := by
    intro z g b h hg
    cases z with
    | none => cases h
    | some x0 => cases h; exact ⟨.refl _, fun ob => ⟨ob, .ofV (hg x rfl)⟩⟩
  have pureV : ∀ {o : Oper} (hk : pureKind o.op = true) (b : Bool), ((sPure E tm o).map fun x => [(SNext.val x, s)]) = some [(.val x, s')] → s.Same s' ∧ (s'.ob → s.ob ∧ QuietOut E (execOp ρ o) ν w x b) := by
    intro o hk b h
    cases hp : sPure E tm o with
    | none => rw [hp] at h; cases h
    | some x0 => rw [hp] at h; cases h; exact ⟨.refl _, fun ob => ⟨ob, sPure_quiet hk hp hρ b⟩⟩
  have vsV : ∀ {z : Option (SV × SH)} {g : Sem Value} {b : Bool}, (z.map fun x => [(SNext.val x.1, x.2)]) = some [(.val x, s')] →
      (∀ x0 s1, z = some (x0, s1) → s.Same s1 ∧ (s1.ob → s.ob ∧ ∀ w, ∃ y, g.run E.P w = .ok y w ∧ VR ν x0 y)) → s.Same s' ∧ (s'.ob → s.ob ∧ QuietOut E (do pure (.value (← g))) ν w x b) := by
    intro z g b h hg
    cases z with
    | none => cases h
    | some p =>
      obtain ⟨x0, s1⟩ := p
      cases h
      obtain ⟨h1, h2⟩ := hg _ _ rfl
      exact ⟨h1, fun ob => ⟨(h2 ob).1, .ofV (h2 ob).2⟩⟩
  have lsV : ∀ {z : Option (SV × SH)} {g : Sem Value}, (z.map fun x => [(SNext.val x.1, x.2)]) = some [(.val x, s')] →
      (∀ x0 s1, z = some (x0, s1) → s.Same s1 ∧ (s1.ob → s.ob ∧ ∃ y, g.run E.P w = .ok y w ∧ VR ν x0 y)) → s.Same s' ∧ (s'.ob → s.ob ∧ QuietOut E (do pure (.value (← g))) ν w x true) := by
    intro z g h hg
    cases z with
    | none => cases h
    | some p =>
      obtain ⟨x0, s1⟩ := p
      cases h
      obtain ⟨h1, h2⟩ := hg _ _ rfl
      exact ⟨h1, fun ob => ⟨(h2 ob).1, .ofLook (h2 ob).2⟩⟩
  cases op <;> try cases hf
  case convert a b c => exact (hnc a b c rfl).elim
  case move z => cases h; exact ⟨.refl _, fun ob => ⟨ob, hval z⟩⟩
  case pick c a b =>
    simp only [sOp] at h
    split at h
    · rename_i t hc
      have hcv := hρ c
      rw [hc] at hcv
      have hcv := VR.v_iff.1 hcv
      cases hdec : s.dec E t with
      | mk u s1 =>
      rw [hdec] at h
      cases h
      obtain ⟨hsame, hob⟩ := SH.dec_ok hdec
      refine ⟨hsame, fun ob => ⟨(hob ob).1, ?_⟩⟩
      have hu := (hob ob).2
      have : ∀ w, ∃ y, (execOp ρ { dst := dst, op := .pick c a b, type := type, pos := pos, after := aft, guard := guard }).run E.P w = .ok (.value y) w ∧ VR ν (bif u then evalOpd E tm a else evalOpd E tm b) y := by
        intro w
        refine ⟨if u = true then ρ a else ρ b, by simp [execOp, hcv, asBool, hu], ?_⟩
        cases u
        · exact hρ b
        · exact hρ a
      exact ⟨this w, fun _ => this⟩
    · cases h
  case build t ps =>
    refine vV h fun x0 e w => ?_
    have := sBuild_ok (w := w) e (parts_ok hρ ps.toList)
    rw [arr_map]; exact this
  case load t a =>
    exact lsV h fun x0 s1 e => sLoad_ok e hr (hρ a)
  case nilCheck z =>
    have hx := hρ z
    have go : ∀ {y : SV}, evalOpd E tm z = y → (execOp ρ { dst := dst, op := .nilCheck z, type := type, pos := pos, after := aft, guard := guard } = pure (.value (ρ z))) → [(SNext.val y, s)] = [(SNext.val x, s')] →
        s.Same s' ∧ (s'.ob → s.ob ∧ QuietOut E (execOp ρ { dst := dst, op := .nilCheck z, type := type, pos := pos, after := aft, guard := guard }) ν w x false) := by
      intro y hy he h
      cases h
      rw [he, ← hy]
      exact ⟨.refl _, fun ob => ⟨ob, hval z⟩⟩
    simp only [sOp] at h
    split at h
    · rename_i i off hc
      rw [hc] at hx
      obtain ⟨b, hb, he⟩ := VR.ptr_iff.1 hx
      exact go hc (by simp only [execOp, he]) (Option.some.inj h)
    · rename_i t y hc
      rw [hc] at hx
      obtain ⟨b, he, hb⟩ := VR.iface_iff.1 hx
      exact go hc (by simp only [execOp, he]) (Option.some.inj h)
    · rename_i f a b hc
      rw [hc] at hx
      obtain ⟨a', b', he, _⟩ := VR.func_iff.1 hx
      exact go hc (by simp only [execOp, he]) (Option.some.inj h)
    · rename_i i hc
      rw [hc] at hx
      obtain ⟨b, hb, he⟩ := VR.yield_iff.1 hx
      exact go hc (by simp only [execOp, he]) (Option.some.inj h)
    · rename_i f a b hc
      rw [hc] at hx
      have he := VR.v_iff.1 hx
      exact go hc (by simp only [execOp, he]) (Option.some.inj h)
    · cases h
  case binOp op t a b yt =>
    simp only [sOp] at h
    split at h
    · rename_i r he
      obtain ⟨p, hs, hrun⟩ := sEqS_ok (r := r.1) (s' := r.2) he (hρ a) (hρ b)
      obtain ⟨r1, r2⟩ := r
      dsimp only at hs hrun h
      subst hs
      cases h
      refine ⟨SH.owe_same _ _, fun ob => ?_⟩
      obtain ⟨ob0, hp⟩ := ob
      exact ⟨ob0, .ofV fun w => ⟨.bool r1, hrun _ _ _ hp, VR.v_iff.2 rfl⟩⟩
    split at h
    · rename_i p q hab
      cases h
      refine ⟨SH.owe_same _ _, fun ob => ?_⟩
      obtain ⟨ob0, hle⟩ := ob
      obtain ⟨hx, hy, rfl⟩ := strAdd_ok hab (hρ a) (hρ b)
      refine ⟨ob0, .ofV fun w => ⟨.string (p ++ q), ?_, VR.v_iff.2 rfl⟩⟩
      rw [hx, hy]; exact strAdd_run w t a b hle
    split at h
    · exact pureV (o := { dst := dst, op := .binOp op t a b yt, type := type, pos := pos, after := aft, guard := guard }) rfl _ h
    · split at h
      · cases he : sEql E t (evalOpd E tm a) (evalOpd E tm b) s with
        | none =>
          rw [he] at h
          rw [hnf _ _ _ _ _ rfl] at h
          simp only [cond_false] at h
          exact pureV (o := { dst := dst, op := .binOp _ t a b yt, type := type, pos := pos, after := aft, guard := guard }) rfl _ h
        | some p =>
          obtain ⟨r, s1⟩ := p
          rw [he] at h; cases h
          have hs := (sEql_ok (w := w) he (hρ a) (hρ b)).1
          subst hs
          refine ⟨.refl _, fun ob => ⟨ob, .ofV fun w => ⟨.bool r, ?_, VR.v_iff.2 rfl⟩⟩⟩
          obtain ⟨_, h1, h2, h3, _⟩ := sEql_ok (w := w) he (hρ a) (hρ b)
          simp only [Sem.run_bind, h2, Result.andThen_ok, h3, h1, Sem.run_pure]
      · cases he : sEql E t (evalOpd E tm a) (evalOpd E tm b) s with
        | none =>
          rw [he] at h
          rw [hnf _ _ _ _ _ rfl] at h
          simp only [cond_false] at h
          exact pureV (o := { dst := dst, op := .binOp _ t a b yt, type := type, pos := pos, after := aft, guard := guard }) rfl _ h
        | some p =>
          obtain ⟨r, s1⟩ := p
          rw [he] at h; cases h
          have hs := (sEql_ok (w := w) he (hρ a) (hρ b)).1
          subst hs
          refine ⟨.refl _, fun ob => ⟨ob, .ofV fun w => ⟨.bool !r, ?_, VR.v_iff.2 rfl⟩⟩⟩
          obtain ⟨_, h1, h2, _, h3⟩ := sEql_ok (w := w) he (hρ a) (hρ b)
          simp only [Sem.run_bind, h2, Result.andThen_ok, h3, h1, Sem.run_pure]
      · cases h
  case unOp op t a => exact pureV (o := { dst := dst, op := .unOp op t a, type := type, pos := pos, after := aft, guard := guard }) rfl _ h
  case makeInterface t a =>
    simp only [sOp] at h
    split at h
    · cases h
    · rename_i d hnd hd
      refine vV (z := some _) h fun x0 e w => ?_
      cases e
      refine ⟨.iface t (ρ a), ?_, VR.iface_iff.2 ⟨_, rfl, hρ a⟩⟩
      simp only [Instr.makeInterface, Sem.run_bind, run_underlying (by assumption), Result.andThen_ok]
      cases d <;> first | rfl | exact (hnd _ rfl).elim
    · cases h
  case makeFunc fn a b =>
    simp only [sOp] at h
    split at h
    · refine vV (z := some _) h fun x0 e w => ?_
      cases e
      refine ⟨_, rfl, VR.func_iff.2 ⟨_, _, ?_, mapOpd_ok hρ a, mapOpd_ok hρ b⟩⟩
      rw [arr_map a, arr_map b]
    · cases h
  case slice t a lo hi mx =>
    simp only [sOp] at h
    split at h
    · rename_i r hc
      refine vsV (z := some r) h fun x0 s1 e => ?_
      cases e
      have h1 := (sSlice_ok (w := w) hc (hρ a) (opt_ok hρ lo) (opt_ok hρ hi) (opt_ok hρ mx)).1
      refine ⟨h1, fun ob => ⟨((sSlice_ok (w := w) hc (hρ a) (opt_ok hρ lo) (opt_ok hρ hi) (opt_ok hρ mx)).2 ob).1, fun w => ((sSlice_ok (w := w) hc (hρ a) (opt_ok hρ lo) (opt_ok hρ hi) (opt_ok hρ mx)).2 ob).2⟩⟩
    · split at h
      · rename_i l hl
        obtain ⟨p0, _, _, _, _, rfl, _⟩ := sSliceB_len hl
        cases h
        have key : ∀ w, s.Same p0.2 ∧ (p0.2.ob → s.ob ∧ ∃ yv, (Instr.sliceAt t (ρ a) (lo.map ρ) (hi.map ρ) (mx.map ρ)).run E.P w = .ok yv w ∧ VR ν p0.1 yv) := fun w => by
          obtain ⟨p, hp, h1, h2⟩ := sSliceB_ok (w := w) hl (hρ a) (opt_ok hρ lo) (opt_ok hρ hi) (opt_ok hρ mx)
          rw [List.mem_singleton.1 hp] at h1 h2; exact ⟨h1, h2⟩
        exact ⟨(key w).1, fun ob => ⟨((key w).2 ob).1, .ofV fun w => ((key w).2 ob).2⟩⟩
      split at h
      · exact pureV (o := { dst := dst, op := .slice t a lo hi mx, type := type, pos := pos, after := aft, guard := guard }) rfl _ h
      · cases h
  case fieldAddr t a f => exact vV h fun x0 e w => sFieldAddr_ok e (hρ a)
  case field t a f =>
    simp only [sOp] at h
    split at h
    · exact pureV (o := { dst := dst, op := .field t a f, type := type, pos := pos, after := aft, guard := guard }) rfl _ h
    · exact vV h fun x0 e w => sField_ok e (hρ a)
  case indexAddr t a i =>
    refine vsV h fun x0 s1 e => ?_
    exact ⟨(sIndexAddr_ok (w := w) e (hρ a) (hρ i)).1, fun ob => ⟨((sIndexAddr_ok (w := w) e (hρ a) (hρ i)).2 ob).1, fun w => ((sIndexAddr_ok (w := w) e (hρ a) (hρ i)).2 ob).2⟩⟩
  case index t a i =>
    refine vsV h fun x0 s1 e => ?_
    exact ⟨(sIndex_ok (w := w) e (hρ a) (hρ i)).1, fun ob => ⟨((sIndex_ok (w := w) e (hρ a) (hρ i)).2 ob).1, fun w => ((sIndex_ok (w := w) e (hρ a) (hρ i)).2 ob).2⟩⟩
  case lookup t m k ok => exact lsV h fun x0 s1 e => sLookup_ok e hr (hρ m) (hρ k)
  case typeAssert a xt at_ ok =>
    simp only [sOp] at h
    split at h
    · exact pureV (o := { dst := dst, op := .typeAssert a xt at_ ok, type := type, pos := pos, after := aft, guard := guard }) rfl _ h
    · exact vV h fun x0 e w => sTypeAssert_ok (xt := xt) e (hρ a)
  case extract t i =>
    simp only [sOp] at h
    split at h
    · rename_i l hl
      refine vV h fun x0 e w => ?_
      obtain ⟨a, he, ha⟩ := SV.tuple_ok hl (hρ t)
      obtain ⟨y, hy, hv⟩ := ha.get e
      refine ⟨y, ?_, hv⟩
      rw [he]
      simp [Instr.extract, hy]
    · cases h
  case call c =>
    obtain ⟨callee, args, ats⟩ := c
    cases callee with
    | value f => cases hf
    | invoke r n => cases hf
    | builtin b =>
      simp only [sOp] at h
      split at h
      · rename_i r hc
        obtain ⟨x0, s1⟩ := r
        have hx : x0 = x ∧ s1 = s' := by
          have := Option.some.inj h
          simpa using this
        obtain ⟨rfl, rfl⟩ := hx
        have harr : args.map ρ = (args.toList.map ρ).toArray := by apply Array.ext'; simp
        have ha := mapOpd_ok hρ args
        have look : ∀ {y : Value}, (builtin b ats type (args.map fun | .const _ => true | _ => false) (args.toList.map ρ).toArray).run E.P w = .ok (.value y) w → VR ν x0 y →
            QuietOut E (execOp ρ { dst := dst, op := .call { callee := .builtin b, args := args, argTypes := ats }, type := type, pos := pos, after := aft, guard := guard }) ν w x0 true := by
          intro y h1 h2
          refine ⟨⟨y, ?_, h2⟩, by intro h; cases h⟩
          simp only [execOp, resolve, harr]; exact h1
        cases b <;> try cases hf
        case h_1.cap.refl =>
          simp only [sBuiltin] at hc
          split at hc
          · rename_i t ts z hats hargs
            cases hz : sCap1 E t z with
            | none => rw [hz] at hc; cases hc
            | some y0 =>
            rw [hz] at hc; cases hc
            rw [hargs] at ha
            obtain ⟨y, ys, hl, hy, hys⟩ := ha.cons_inv
            obtain rfl := hys.nil_inv
            obtain ⟨yv, hrun, hv⟩ := sCap1_ok (w := w) (ats := ats) (ty := type) hz (by rw [ats_eq hats]; simp) hy
            refine ⟨.refl _, fun ob => ⟨ob, look (y := yv) ?_ hv⟩⟩
            rw [hl]; simp only [builtin, Sem.run_bind, hrun, Result.andThen_ok, Sem.run_pure]
          · cases hc
        case h_1.len.refl =>
          simp only [sBuiltin] at hc
          split at hc
          · rename_i t ts z hats hargs
            cases hz : sLen1 E t z s with
            | none => rw [hz] at hc; cases hc
            | some y0 =>
            rw [hz] at hc; cases hc
            rw [hargs] at ha
            obtain ⟨y, ys, hl, hy, hys⟩ := ha.cons_inv
            obtain rfl := hys.nil_inv
            obtain ⟨yv, hrun, hv⟩ := sLen1_ok (ats := ats) (ty := type) hz (by rw [ats_eq hats]; simp) hy hr
            refine ⟨.refl _, fun ob => ⟨ob, look (y := yv) ?_ hv⟩⟩
            rw [hl]; simp only [builtin, Sem.run_bind, hrun, Result.andThen_ok, Sem.run_pure]
          · cases hc
        all_goals (simp only [sBuiltin] at hc; cases hc)
      · exact pureV (o := { dst := dst, op := .call { callee := .builtin b, args := args, argTypes := ats }, type := type, pos := pos, after := aft, guard := guard }) rfl _ h

/-- The text of a row's bytes. -/
theorem sReadText_ok {src dst : TypeId} {a x : SV} {xv : Value} (h : sReadText E src dst a s = some x) (hr : HR ν M w0 s w) (ha : VR ν a xv) : ∃ y, (convert src dst xv).run E.P w = .ok y w ∧ VR ν x y := by
  unfold sReadText at h
  split at h
  · rename_i e i off len cap hs hd
    split at h
    · rename_i xs el fz ext mk he hl
      revert h
      cases hb : Nat.ble (off + len) xs.length
      · intro h; cases h
      · intro h
        simp only [cond_true] at h
        obtain ⟨ns, hbs, rfl⟩ := Option.map_eq_some_iff.1 h
        have hg := Nat.le_of_ble_eq_true hb
        obtain ⟨b, hb, _, rfl⟩ := VR.sl_iff.1 ha
        obtain ⟨_, _, b', o, hb', ho, hor, _⟩ := hr.look hl
        rw [hb] at hb'; cases hb'
        obtain ⟨ys, rest, rfl, hvl, _⟩ := hor
        have hlen := hvl.length
        have hcells := run_loadCells (P := E.P) (w := w) (b := b.1) (off := off) (n := len) (vs := (ys.drop off).take len) (by
          intro k hk
          rw [cell_at ho, List.getElem?_take, if_pos hk, List.getElem?_drop]
          have : off + k < ys.length := by omega
          simp [List.getElem?_append_left this]) (by simp; omega)
        rw [bytesOf_ok hbs ((hvl.drop off).take len)] at hcells
        refine ⟨_, ?_, VR.v_iff.2 rfl⟩
        rw [run_convert_bytes_string w src dst e _ _ _ hs he hd, run_bytesToString w _ _ _ ns hcells, foldl_byteStr]
    · cases h
  · cases h

theorem sQuiet_ok {tm : STm} {o : Oper} {x : SV} {ρ : Operand → Value} (hf : floats o.op = true) (h : sOpF E tm o s = some [(.val x, s')]) (hr : HR ν M w0 s w) (hρ : OpdR E ν tm ρ) :
    s.Same s' ∧ (s'.ob → s.ob ∧ QuietOut E (execOp ρ o) ν w x (looks o.op)) := by
  unfold sOpF at h
  split at h
  · rename_i a b c hop
    split at h
    · rename_i r hr'
      cases h
      obtain ⟨y, hy, hv⟩ := sReadText_ok hr' hr (hρ c)
      refine ⟨.refl _, fun ob => ⟨ob, ?_⟩⟩
      have hl : looks o.op = true := by rw [hop]; rfl
      have : execOp ρ o = (do pure (.value (← convert a b (ρ c)))) := by
        obtain ⟨dst, op, type, pos, aft, guard⟩ := o
        subst hop; rfl
      rw [hl, this]
      exact .ofLook ⟨y, hy, hv⟩
    cases hp : sPure E tm o with
    | none => rw [hp] at h; cases h
    | some x0 => rw [hp] at h; cases h; exact ⟨.refl _, fun ob => ⟨ob, sPure_quiet (by rw [hop]; rfl) hp hρ _⟩⟩
  · rename_i op t a b yt hop
    cases hfar : sEqlFar E t (evalOpd E tm a) (evalOpd E tm b) s
    · rw [hfar] at h
      simp only [cond_false] at h
      exact sQuiet_ok0 hf (fun a b c e => by rw [hop] at e; cases e) (fun _ _ _ _ _ e => by rw [hop] at e; cases e; exact hfar) h hr hρ
    · rw [hfar] at h; cases h
  · rename_i hn hn2
    exact sQuiet_ok0 hf (fun a b c e => hn a b c e) (fun _ _ _ _ _ e => (hn2 _ _ _ _ _ e).elim) h hr hρ

end
end Go.Rx
