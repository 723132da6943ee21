/- The symbolic executor 'Rx', part S: every operation. By an AI agent. -/
import Derived.Test.YtjhmpmhkppglnaaGreatRxR
set_option linter.unusedVariables false
set_option linter.unusedSimpArgs false
namespace Go.Rx
section
variable {ν : Val} {M : Own} {w0 w : World} {s s' : SH} {E : Env}

/-- One of the ways that are told is the one that is gone. -/
def OpOut (E : Env) (g : Sem Next) (ν : Val) (M : Own) (w0 w : World) (s : SH) (L : List (SNext × SH)) : Prop :=
  ∃ p ∈ L, p.2.ob → s.ob ∧ OpGood E g ν M w0 w p.1 p.2

theorem OpOut.one {g : Sem Next} {n : SNext} (h : s'.ob → s.ob ∧ OpGood E g ν M w0 w n s') : OpOut E g ν M w0 w s [(n, s')] := ⟨_, List.mem_singleton.2 rfl, h⟩

theorem OpGood.nowV {g : Sem Value} {x : SV} {y : Value} (hr : HR ν M w0 s' w) (h : g.run E.P w = .ok y w) (hx : VR ν x y) : OpGood E (do pure (.value (← g))) ν M w0 w (.val x) s' :=
  OpGood.ofV (GoodV.now hr h hx)

theorem OpGood.value {x : SV} {y : Value} (hr : HR ν M w0 s' w) (hx : VR ν x y) : OpGood E (pure (.value y)) ν M w0 w (.val x) s' :=
  ⟨ν, w, y, Val.Le.refl _, .inl rfl, hx, hr⟩

theorem parts_ok {tm : STm} {ρ : Operand → Value} (hρ : OpdR E ν tm ρ) : ∀ (l : List (Nat × Operand)), PartsR ν (l.map fun (i, x) => (i, evalOpd E tm x)) (l.map fun (i, x) => (i, ρ x))
  | [] => .nil
  | (_, x) :: l => .cons (hρ x) (parts_ok hρ l)

theorem opt_ok {tm : STm} {ρ : Operand → Value} (hρ : OpdR E ν tm ρ) : ∀ (o : Option Operand), OptR ν (o.map (evalOpd E tm)) (o.map ρ)
  | none => .none
  | some x => .some (hρ x)

theorem SV.tuple_ok {x : SV} {l : List SV} {y : Value} (h : x.tuple = some l) (hv : VR ν x y) : ∃ a : List Value, y = .tuple a.toArray ∧ VRL ν l a := by
  unfold SV.tuple at h
  split at h
  · cases h; exact VR.tup_iff.1 hv
  · rename_i vs
    cases h; obtain rfl := VR.v_iff.1 hv; exact ⟨vs.toList, by simp, VRL.lits ν _⟩
  · cases h

theorem arr_map {α β : Type} (l : Array α) (f : α → β) : l.map f = (l.toList.map f).toArray := by
  apply Array.ext'; simp

theorem deferFn_ok {f : SV} {fv : Value} {args : List SV} {a : List Value} {d : SDef} (h : deferFn f args = some d) (hf : VR ν f fv) (ha : VRL ν args a) :
    ∃ dv, DefR ν d dv ∧ Deferred.ofValue fv a.toArray = pure dv := by
  unfold deferFn at h
  split at h
  · rename_i g x y
    cases h
    obtain rfl := VR.v_iff.1 hf
    refine ⟨_, ⟨y.toList, x.toList ++ a, rfl, VRL.toList ν y, (VRL.toList ν x).append ha⟩, ?_⟩
    simp only [Deferred.ofValue]
    congr 2
    · apply Array.ext'; simp
  · rename_i g x y
    cases h
    obtain ⟨x', y', rfl, hx, hy⟩ := VR.func_iff.1 hf
    refine ⟨_, ⟨y', x' ++ a, rfl, hy, hx.append ha⟩, ?_⟩
    simp only [Deferred.ofValue]
    congr 2
    · apply Array.ext'; simp
  · cases h

theorem strAdd_ok {x y : SV} {xv yv : Value} {op : BinOp} {soft : Bool} {a b : ByteArray} (h : strAdd x y op soft = some (a, b)) (hx : VR ν x xv) (hy : VR ν y yv) : xv = .string a ∧ yv = .string b ∧ op = .add := by
  unfold strAdd at h
  split at h
  · cases h
    exact ⟨VR.v_iff.1 hx, VR.v_iff.1 hy, rfl⟩
  · cases h

theorem strAdd_run {P : Program} (w : World) (t : TypeId) (x y : Operand) {a b : ByteArray} (h : a.size + b.size ≤ 9223372036854775807) :
    (do eqGuard .add t x y (.string a) (.string b); binOp .add t (.string a) (.string b)).run P w = .ok (.string (a ++ b)) w := by
  have hn : ¬ (((a.size + b.size : Nat) : Int) > IntKind.i64.max) := by
    have : IntKind.i64.max = 9223372036854775807 := rfl
    rw [this]; omega
  simp [eqGuard, binOp, Op.stringOp, hn]
  omega

theorem sOp_ok {tm : STm} {o : Oper} {L : List (SNext × SH)} {ρ : Operand → Value} (h : sOp E tm o s = some L) (hr : HR ν M w0 s w) (hρ : OpdR E ν tm ρ) :
    OpOut E (execOp ρ o) ν M w0 w s L := by
  have vV : ∀ {x : Option SV} {g : Sem Value}, (x.map fun x => [(SNext.val x, s)]) = some L → (∀ x0, x = some x0 → ∃ y, g.run E.P w = .ok y w ∧ VR ν x0 y) → OpOut E (do pure (.value (← g))) ν M w0 w s L := by
    intro x g h hg
    cases x with
    | none => cases h
    | some x0 =>
      cases h
      obtain ⟨y, hrun, hy⟩ := hg x0 rfl
      exact .one fun ob => ⟨ob, .nowV hr hrun hy⟩
  have vsV : ∀ {x : Option (SV × SH)} {g : Sem Value}, (x.map fun x => [(SNext.val x.1, x.2)]) = some L → (∀ x0 s', x = some (x0, s') → s'.ob → s.ob ∧ GoodV E.P g ν M w0 w x0 s') → OpOut E (do pure (.value (← g))) ν M w0 w s L := by
    intro x g h hg
    cases x with
    | none => cases h
    | some p =>
      obtain ⟨x0, s'⟩ := p
      cases h
      exact .one fun ob => ⟨(hg x0 s' rfl ob).1, .ofV (hg x0 s' rfl ob).2⟩
  have uV : ∀ {x : Option SH} {g : Sem Unit}, (x.map fun s => [(SNext.val (.v undef), s)]) = some L → (∀ s', x = some s' → s'.ob → s.ob ∧ GoodU E.P g ν M w0 w s') → OpOut E (do g; pure .skip) ν M w0 w s L := by
    intro x g h hg
    cases x with
    | none => cases h
    | some s' => cases h; exact .one fun ob => ⟨(hg s' rfl ob).1, .ofU (hg s' rfl ob).2⟩
  have pureV : ∀ (hk : pureKind o.op = true), ((sPure E tm o).map fun x => [(SNext.val x, s)]) = some L → OpOut E (execOp ρ o) ν M w0 w s L := by
    intro hk h
    cases hp : sPure E tm o with
    | none => rw [hp] at h; cases h
    | some x => rw [hp] at h; cases h; exact .one fun ob => ⟨ob, sPure_ok hk hp hρ hr⟩
  obtain ⟨dst, op, type, pos, aft, guard⟩ := o
  cases op with
  | move x => cases h; exact .one fun ob => ⟨ob, .value hr (hρ x)⟩
  | assign x => cases h; exact .one fun ob => ⟨ob, .value hr (hρ x)⟩
  | pick c a b =>
    simp only [sOp] at h
    split at h
    · rename_i t hc
      have hcv := hρ c
      rw [hc] at hcv
      have hcv := VR.v_iff.1 hcv
      cases hdec : s.dec E t with
      | mk u s1 =>
      rw [hdec] at h
      cases h
      obtain ⟨hsame, hob⟩ := SH.dec_ok hdec
      refine .one fun ob => ⟨(hob ob).1, ν, w, if u = true then ρ a else ρ b, Val.Le.refl _, .inl ?_, ?_, hr.same hsame⟩
      · have := (hob ob).2
        simp [execOp, hcv, asBool, this]
      · cases u
        · exact hρ b
        · exact hρ a
    · cases h
  | alloc t =>
    exact vsV h fun x0 s' e ob => by
      obtain ⟨h1, h2⟩ := sAlloc_ok (E := E) e hr
      exact ⟨h1 ▸ ob, h2⟩
  | box t x =>
    exact vsV h fun x0 s' e ob => by
      obtain ⟨h1, h2⟩ := sBox_ok (E := E) e hr (hρ x)
      exact ⟨h1 ▸ ob, h2⟩
  | build t ps =>
    refine vV h fun x0 e => ?_
    have := sBuild_ok (w := w) e (parts_ok hρ ps.toList)
    rw [arr_map]; exact this
  | buildSlice t n ps =>
    refine vsV h fun x0 s' e ob => ?_
    obtain ⟨h1, h2⟩ := sBuildSlice_ok e hr (parts_ok hρ ps.toList)
    refine ⟨h1 ▸ ob, ?_⟩
    rw [arr_map]; exact h2
  | insert t m k x => exact uV h fun s' e ob => sMapUpdate_ok e hr (hρ m) (hρ k) (hρ x) ob
  | load t a =>
    refine vsV h fun x0 s' e ob => ?_
    obtain ⟨hsame, hg⟩ := sLoad_ok e hr (hρ a)
    obtain ⟨ob0, y, hrun, hy⟩ := hg ob
    exact ⟨ob0, GoodV.now (hr.same hsame) hrun hy⟩
  | store t a x =>
    refine uV h fun s' e ob => ?_
    exact sStore_ok e hr (hρ a) (hρ x) ob
  | ready g => cases h
  | waits g => cases h
  | nilCheck x =>
    have hx := hρ x
    simp only [sOp] at h
    split at h
    · rename_i i off hc
      rw [hc] at hx
      cases h
      obtain ⟨b, hb, he⟩ := VR.ptr_iff.1 hx
      refine .one fun ob => ⟨ob, ν, w, ρ x, Val.Le.refl _, .inl ?_, hx, hr⟩
      simp only [execOp, he, Sem.run_pure]
    · rename_i t y hc
      rw [hc] at hx
      cases h
      obtain ⟨b, he, hb⟩ := VR.iface_iff.1 hx
      refine .one fun ob => ⟨ob, ν, w, ρ x, Val.Le.refl _, .inl ?_, hx, hr⟩
      simp only [execOp, he, Sem.run_pure]
    · rename_i f a b hc
      rw [hc] at hx
      cases h
      obtain ⟨a', b', he, _⟩ := VR.func_iff.1 hx
      refine .one fun ob => ⟨ob, ν, w, ρ x, Val.Le.refl _, .inl ?_, hx, hr⟩
      simp only [execOp, he, Sem.run_pure]
    · rename_i i hc
      rw [hc] at hx
      cases h
      obtain ⟨b, hb, he⟩ := VR.yield_iff.1 hx
      refine .one fun ob => ⟨ob, ν, w, ρ x, Val.Le.refl _, .inl ?_, hx, hr⟩
      simp only [execOp, he, Sem.run_pure]
    · rename_i f a b hc
      rw [hc] at hx
      cases h
      have he := VR.v_iff.1 hx
      refine .one fun ob => ⟨ob, ν, w, ρ x, Val.Le.refl _, .inl ?_, hx, hr⟩
      simp only [execOp, he, Sem.run_pure]
    · cases h
  | binOp op t x y yt =>
    simp only [sOp] at h
    split at h
    · rename_i r he
      cases h
      obtain ⟨p, hs, hrun⟩ := sEqS_ok (r := r.1) (s' := r.2) he (hρ x) (hρ y)
      refine .one fun ob => ?_
      rw [hs] at ob
      obtain ⟨ob0, hp⟩ := ob
      refine ⟨ob0, ?_⟩
      rw [hs]
      exact .nowV (hr.same (SH.owe_same _ _)) (y := .bool r.1) (hrun _ _ _ hp) (VR.v_iff.2 rfl)
    split at h
    · rename_i a b hab
      cases h
      refine .one fun ob => ?_
      obtain ⟨ob0, hle⟩ := ob
      obtain ⟨hx, hy, rfl⟩ := strAdd_ok hab (hρ x) (hρ y)
      refine ⟨ob0, .nowV (hr.same (SH.owe_same _ _)) (y := .string (a ++ b)) ?_ (VR.v_iff.2 rfl)⟩
      rw [hx, hy]; exact strAdd_run w t x y hle
    split at h
    · exact pureV rfl h
    · have ef : ∀ (r : Bool) (s' : SH), sEql E t (evalOpd E tm x) (evalOpd E tm y) s = some (r, s') → _ := fun r s' e => sEql_ok (w := w) e (hρ x) (hρ y)
      split at h
      · cases he : sEql E t (evalOpd E tm x) (evalOpd E tm y) s with
        | none =>
          rw [he] at h
          cases hfar : sEqlFar E t (evalOpd E tm x) (evalOpd E tm y) s
          · rw [hfar] at h; exact pureV rfl h
          · rw [hfar] at h
            simp only [cond_true] at h
            cases h
            obtain ⟨h1, h2, h3, _⟩ := sEqlFar_ok hfar hr (hρ x) (hρ y)
            refine .one fun ob => ⟨ob, .nowV hr (y := .bool false) ?_ (VR.v_iff.2 rfl)⟩
            simp only [Sem.run_bind, h2, Result.andThen_ok, h3, h1, Sem.run_pure]
        | some p =>
          obtain ⟨r, s1⟩ := p
          rw [he] at h; cases h
          obtain ⟨rfl, h1, h2, h3, _⟩ := ef r s1 he
          refine .one fun ob => ⟨ob, .nowV hr (y := .bool r) ?_ (VR.v_iff.2 rfl)⟩
          simp only [Sem.run_bind, h2, Result.andThen_ok, h3, h1, Sem.run_pure]
      · cases he : sEql E t (evalOpd E tm x) (evalOpd E tm y) s with
        | none =>
          rw [he] at h
          cases hfar : sEqlFar E t (evalOpd E tm x) (evalOpd E tm y) s
          · rw [hfar] at h; exact pureV rfl h
          · rw [hfar] at h
            simp only [cond_true] at h
            cases h
            obtain ⟨h1, h2, _, h3⟩ := sEqlFar_ok hfar hr (hρ x) (hρ y)
            refine .one fun ob => ⟨ob, .nowV hr (y := .bool true) ?_ (VR.v_iff.2 rfl)⟩
            simp only [Sem.run_bind, h2, Result.andThen_ok, h3, h1, Sem.run_pure, Bool.not_false]
        | some p =>
          obtain ⟨r, s1⟩ := p
          rw [he] at h; cases h
          obtain ⟨rfl, h1, h2, _, h3⟩ := ef r s1 he
          refine .one fun ob => ⟨ob, .nowV hr (y := .bool !r) ?_ (VR.v_iff.2 rfl)⟩
          simp only [Sem.run_bind, h2, Result.andThen_ok, h3, h1, Sem.run_pure]
      · cases h
  | unOp op t x => exact pureV rfl h
  | convert src dst x =>
    simp only [sOp] at h
    split at h
    · rename_i r hc
      refine vsV (x := some r) h fun x0 s' e ob => ?_
      cases e
      exact sConvert_ok hc hr (hρ x) ob
    · split at h
      · exact pureV rfl h
      · cases h
  | sliceToArrayPointer dst x => cases h
  | makeInterface t x =>
    simp only [sOp] at h
    split at h
    · cases h
    · rename_i d hnd hd
      refine vV (x := some _) h fun x0 e => ?_
      cases e
      refine ⟨.iface t (ρ x), ?_, VR.iface_iff.2 ⟨_, rfl, hρ x⟩⟩
      simp only [Instr.makeInterface, Sem.run_bind, run_underlying (by assumption), Result.andThen_ok]
      cases d <;> first | rfl | exact (hnd _ rfl).elim
    · cases h
  | makeFunc fn a b =>
    simp only [sOp] at h
    split at h
    · refine vV (x := some _) h fun x0 e => ?_
      cases e
      refine ⟨_, rfl, VR.func_iff.2 ⟨_, _, ?_, mapOpd_ok hρ a, mapOpd_ok hρ b⟩⟩
      rw [arr_map a, arr_map b]
    · cases h
  | makeMap t r =>
    cases r with
    | some r => cases h
    | none =>
      simp only [sOp] at h
      cases hn : sNew (.map [] 0) s with
      | none => rw [hn] at h; cases h
      | some p =>
        obtain ⟨i, s1⟩ := p
        rw [hn] at h; cases h
        obtain ⟨hob, ν', hle, hi, hr'⟩ := sNew_ok hn hr 0 (r := .map #[] 0) (fun _ _ _ => ⟨[], rfl, rfl⟩)
        refine .one fun ob => ⟨hob ▸ ob, .ofV ⟨ν', _, _, hle, ?_, VR.map_iff.2 ⟨_, hi, rfl⟩, hr'⟩⟩
        simp only [Instr.makeMap, Option.map_none, Sem.run_bind, run_newObj, Result.andThen_ok, Sem.run_pure]
  | makeChan t x => cases h
  | makeSlice t l c =>
    exact vsV h fun x0 s' e ob => by
      obtain ⟨h1, h2⟩ := sMakeSlice_ok e hr (hρ l) (hρ c)
      exact ⟨h1 ▸ ob, h2⟩
  | slice t x lo hi mx =>
    simp only [sOp] at h
    split at h
    · rename_i r hc
      refine vsV (x := some r) h fun x0 s' e ob => ?_
      cases e
      obtain ⟨hsame, hg⟩ := sSlice_ok (w := w) hc (hρ x) (opt_ok hρ lo) (opt_ok hρ hi) (opt_ok hρ mx)
      obtain ⟨ob0, y, hrun, hy⟩ := hg ob
      exact ⟨ob0, GoodV.now (hr.same hsame) hrun hy⟩
    · split at h
      · rename_i l hl
        cases h
        obtain ⟨p, hp, hsame, hg⟩ := sSliceB_ok (w := w) hl (hρ x) (opt_ok hρ lo) (opt_ok hρ hi) (opt_ok hρ mx)
        refine ⟨_, List.mem_map.2 ⟨p, hp, rfl⟩, fun ob => ?_⟩
        obtain ⟨ob0, y, hrun, hy⟩ := hg ob
        exact ⟨ob0, .ofV (GoodV.now (hr.same hsame) hrun hy)⟩
      split at h
      · exact pureV rfl h
      · cases h
  | fieldAddr t x f => exact vV h fun x0 e => sFieldAddr_ok e (hρ x)
  | field t x f =>
    simp only [sOp] at h
    split at h
    · exact pureV rfl h
    · exact vV h fun x0 e => sField_ok e (hρ x)
  | indexAddr t x i =>
    refine vsV h fun x0 s' e ob => ?_
    obtain ⟨hsame, hg⟩ := sIndexAddr_ok (w := w) e (hρ x) (hρ i)
    obtain ⟨ob0, y, hrun, hy⟩ := hg ob
    exact ⟨ob0, GoodV.now (hr.same hsame) hrun hy⟩
  | index t x i =>
    refine vsV h fun x0 s' e ob => ?_
    obtain ⟨hsame, hg⟩ := sIndex_ok (w := w) e (hρ x) (hρ i)
    obtain ⟨ob0, y, hrun, hy⟩ := hg ob
    exact ⟨ob0, GoodV.now (hr.same hsame) hrun hy⟩
  | lookup t m k ok =>
    refine vsV h fun x0 s' e ob => ?_
    obtain ⟨hsame, hg⟩ := sLookup_ok e hr (hρ m) (hρ k)
    obtain ⟨ob0, y, hrun, hy⟩ := hg ob
    exact ⟨ob0, GoodV.now (hr.same hsame) hrun hy⟩
  | mapUpdate t m k x => exact uV h fun s' e ob => sMapUpdate_ok e hr (hρ m) (hρ k) (hρ x) ob
  | mapEntry t m k => exact vsV h fun x0 s' e ob => sMapEntry_ok e hr (hρ m) (hρ k) ob
  | entryStore t m st x =>
    refine uV h fun s' e ob => ?_
    obtain ⟨h1, h2⟩ := sEntryStore_ok (t := t) e hr (hρ m) (hρ st) (hρ x)
    exact ⟨h1 ▸ ob, h2⟩
  | range t x =>
    refine vsV h fun x0 s' e ob => ?_
    obtain ⟨h1, h2⟩ := sRange_ok e hr (hρ x)
    exact ⟨h1 ▸ ob, h2⟩
  | next it b =>
    simp only [sOp] at h
    cases hn : sNextIt (evalOpd E tm it) b s with
    | none => rw [hn] at h; cases h
    | some l =>
      rw [hn] at h; cases h
      obtain ⟨p, hp, hob, hg⟩ := sNextIt_ok (ty := type) hn hr (hρ it)
      exact ⟨_, List.mem_map.2 ⟨p, hp, rfl⟩, fun ob => ⟨hob ▸ ob, .ofV hg⟩⟩
  | typeAssert x xt at_ ok =>
    simp only [sOp] at h
    split at h
    · exact pureV rfl h
    · exact vV h fun x0 e => sTypeAssert_ok (xt := xt) e (hρ x)
  | entry it =>
    exact vV h fun x0 e => sEntry_ok e hr (hρ it)
  | extract t i =>
    simp only [sOp] at h
    split at h
    · rename_i l hl
      refine vV h fun x0 e => ?_
      obtain ⟨a, he, ha⟩ := SV.tuple_ok hl (hρ t)
      obtain ⟨y, hy, hv⟩ := ha.get e
      refine ⟨y, ?_, hv⟩
      rw [he]
      simp [Instr.extract, hy]
    · cases h
  | call c =>
    obtain ⟨callee, args, ats⟩ := c
    have ha := mapOpd_ok hρ args
    have harr : args.map ρ = (args.toList.map ρ).toArray := by apply Array.ext'; simp
    cases callee with
    | value f =>
      simp only [sOp] at h
      cases hc : callFn (evalOpd E tm f) (mapOpd E tm args) with
      | none => rw [hc] at h; cases h
      | some n =>
        rw [hc] at h; cases h
        refine .one fun ob => ⟨ob, ?_⟩
        have := callFn_ok (E := E) hc (hρ f) ha hr
        simpa only [execOp, resolve, harr] using this
    | invoke r name =>
      simp only [sOp] at h
      cases hc : sInvoke E (evalOpd E tm r) name (mapOpd E tm args) with
      | none => rw [hc] at h; cases h
      | some n =>
        rw [hc] at h; cases h
        refine .one fun ob => ⟨ob, ?_⟩
        have := sInvoke_ok (E := E) hc (hρ r) ha hr
        simp only [execOp, resolve, harr]; exact this
    | builtin b =>
      simp only [sOp] at h
      split at h
      · rename_i r hc
        obtain ⟨x0, s1⟩ := r
        cases h
        refine .one fun ob => ?_
        have := sBuiltin_ok (ty := type) (cs := args.map fun | .const _ => true | _ => false) hc ha hr ob
        refine ⟨this.1, ?_⟩
        simp only [execOp, resolve, harr]; exact this.2
      · exact pureV rfl h
  | go c => cases h
  | defer c =>
    obtain ⟨callee, args, ats⟩ := c
    have ha := mapOpd_ok hρ args
    have harr : args.map ρ = (args.toList.map ρ).toArray := by apply Array.ext'; simp
    cases callee with
    | value f =>
      simp only [sOp] at h
      cases hc : deferFn (evalOpd E tm f) (mapOpd E tm args) with
      | none => rw [hc] at h; cases h
      | some d =>
        rw [hc] at h; cases h
        obtain ⟨dv, hd, hrun⟩ := deferFn_ok hc (hρ f) ha
        refine .one fun ob => ⟨ob, dv, hd, hr, ?_⟩
        simp only [execOp, resolve, harr, hrun]; rfl
    | invoke r name => cases h
    | builtin b => cases h
  | panic x => cases h
  | send c x => cases h
  | recv t c ok => cases h
  | select cs b => cases h

end
end Go.Rx
