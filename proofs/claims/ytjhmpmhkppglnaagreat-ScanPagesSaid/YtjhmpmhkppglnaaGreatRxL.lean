/- The symbolic executor 'Rx', part L: copy; maps. By an AI agent. -/
import Derived.Test.YtjhmpmhkppglnaaGreatRxK
set_option linter.unusedVariables false
set_option linter.unusedSimpArgs false
namespace Go.Rx
section
variable {ν : Val} {M : Own} {w0 w : World} {s s' : SH} {E : Env}

theorem sCopy_ok {dt : TypeId} {rest : List TypeId} {x y z : SV} {xv yv : Value} {ty : TypeId} (h : sCopy E dt x y s = some (z, s')) (hr : HR ν M w0 s w) (hx : VR ν x xv) (hy : VR ν y yv) :
    s'.ob = s.ob ∧ GoodV E.P (Builtin.copy_ (dt :: rest).toArray ty #[xv, yv]) ν M w0 w z s' := by
  have a0 : ((dt :: rest).toArray : Array TypeId)[0]? = some dt := by simp
  have b0 : (#[xv, yv] : Array Value)[0]? = some xv := rfl
  have b1 : (#[xv, yv] : Array Value)[1]? = some yv := rfl
  unfold sCopy at h
  split at h
  · rename_i elem hd
    cases hi : tinfo E elem with
    | none => rw [hi] at h; cases h
    | some info =>
    rw [hi] at h
    simp only [Option.bind_eq_bind, Option.bind_some] at h
    cases hm : sLen y with
    | none => rw [hm] at h; cases h
    | some m =>
    rw [hm] at h
    simp only [Option.bind_some] at h
    have hrn := sLen_ok (w := w) (E := E) hm hy
    split at h
    · cases hf : sFirst info.size (Nat.min m 0) y s with
      | none => rw [hf] at h; cases h
      | some l =>
      rw [hf] at h; cases h
      obtain rfl := VR.v_iff.1 hx
      obtain ⟨ys, hys, _⟩ := sFirst_ok (E := E) hf hr hy
      refine ⟨rfl, GoodV.now hr ?_ (VR.v_iff.2 rfl)⟩
      simp only [Builtin.copy_, a0, b0, b1, Sem.run_bind, run_underlying hd, Result.andThen_ok, hrn, run_sizeOf hi, hys]
      simp [goInt]
    · rename_i i off len cap
      obtain ⟨b, hb, _, rfl⟩ := VR.sl_iff.1 hx
      cases hf : sFirst info.size (Nat.min m len) y s with
      | none => rw [hf] at h; cases h
      | some l =>
      rw [hf] at h
      simp only [Option.bind_some] at h
      obtain ⟨ys, hys, hv⟩ := sFirst_ok (E := E) hf hr hy
      split at h
      · rename_i xs e fz ext hl
        cases hc : (Nat.ble (off + l.length) xs.length && fzOk fz off l.length && l.all SV.flat)
        · rw [hc] at h; cases h
        · rw [hc] at h; cases h
          rw [Bool.and_eq_true, Bool.and_eq_true] at hc
          obtain ⟨w', hrun, hr'⟩ := hr.spliced (E := E) hl hb hv (Nat.le_of_ble_eq_true hc.1.1) hc.1.2 hc.2
          refine ⟨rfl, ν, w', _, Val.Le.refl _, ?_, VR.v_iff.2 rfl, hr'⟩
          simp only [Builtin.copy_, a0, b0, b1, Sem.run_bind, run_underlying hd, Result.andThen_ok, hrn, run_sizeOf hi, hys, List.toList_toArray, hrun, Sem.run_pure, goInt]
      · cases h
    · cases h
  · cases h

/-! ### maps -/

theorem ba_beq (x y : ByteArray) : (x == y) = true ↔ x = y := by
  cases x with | mk a => cases y with | mk b =>
  have : ((⟨a⟩ : ByteArray) == ⟨b⟩) = (a == b) := rfl
  rw [this]; simp

/-- The kinds of keys that are served. -/
inductive Keyed : TypeDesc → Prop
  | int (k : IntKind) : Keyed (.int k)
  | string : Keyed .string
  | bool : Keyed .bool

theorem keyDesc_ok {t : TypeId} {kd : TypeDesc} (h : keyDesc E t = some kd) : tdesc E t = some kd ∧ Keyed kd := by
  unfold keyDesc at h
  split at h
  · cases h; rename_i k hk; exact ⟨hk, .int k⟩
  · cases h; rename_i hk; exact ⟨hk, .string⟩
  · cases h; rename_i hk; exact ⟨hk, .bool⟩
  · cases h

theorem run_checkKey {t : TypeId} {kd : TypeDesc} (h : tdesc E t = some kd) (hk : Keyed kd) (e : Bool) (v : Value) : (Instr.checkKey e 10000 t v).run E.P w = .ok () w := by
  rw [show (10000 : Nat) = 9999 + 1 from rfl, Instr.checkKey]
  simp only [Sem.run_bind, run_underlying h, Result.andThen_ok]
  cases hk <;> cases v <;> rfl

theorem keyIs_ok {kd : TypeDesc} {k k' : SV} {kv kv' : Value} {t : Bool} (h : keyIs E kd k k' s = some (t, s')) (hk : VR ν k kv) (hk' : VR ν k' kv') :
    s.Same s' ∧ (s'.ob → s.ob ∧ Instr.sameNow kd kv kv' = some t ∧ (t = true → ∀ n, Instr.sameBits (n + 1) kv' kv = true)) := by
  unfold keyIs at h
  split at h
  · rename_i kk a x b y
    obtain rfl := VR.v_iff.1 hk
    obtain rfl := VR.v_iff.1 hk'
    cases hab : (a == b)
    · rw [hab] at h; cases h
    · rw [hab] at h
      obtain rfl : a = b := by simpa using hab
      simp only [cond_true, Option.some.injEq] at h
      obtain ⟨hsame, hob⟩ := SH.dec_ok h
      refine ⟨hsame, fun ob => ⟨(hob ob).1, ?_, ?_⟩⟩
      · simp [Instr.sameNow, (hob ob).2]
      · intro ht n
        have := (hob ob).2
        rw [ht] at this
        have hxy : x = y := by simpa using this
        simp [Instr.sameBits, hxy]
  · rename_i x y
    obtain rfl := VR.v_iff.1 hk
    obtain rfl := VR.v_iff.1 hk'
    simp only [Option.some.injEq] at h
    obtain ⟨hsame, hob⟩ := SH.dec_ok h
    refine ⟨hsame, fun ob => ⟨(hob ob).1, ?_, ?_⟩⟩
    · simp [Instr.sameNow, (hob ob).2]
    · intro ht n
      have := (hob ob).2
      rw [ht] at this
      have hxy : x = y := (ba_beq x y).1 this
      subst hxy
      simp only [Instr.sameBits]; exact (ba_beq x x).2 rfl
  · rename_i x y
    obtain rfl := VR.v_iff.1 hk
    obtain rfl := VR.v_iff.1 hk'
    simp only [Option.some.injEq] at h
    obtain ⟨hsame, hob⟩ := SH.dec_ok h
    refine ⟨hsame, fun ob => ⟨(hob ob).1, ?_, ?_⟩⟩
    · simp [Instr.sameNow, (hob ob).2]
    · intro ht n
      have := (hob ob).2
      rw [ht] at this
      have hxy : x = y := by simpa using this
      simp [Instr.sameBits, hxy]
  · cases h

theorem findS_ok {kd : TypeDesc} {k : SV} {kv : Value} (hk : VR ν k kv) : ∀ {es : List (SV × SV × Nat)} {l : List MapEntry} {i : Nat} {s s' : SH} {r : Option (Nat × SV × Nat)},
    findS E kd k es i s = some (r, s') → EntR ν es l →
    s.Same s' ∧ (s'.ob → s.ob ∧ match r with
      | none => Instr.findNow kd kv l i = some none
      | some (j, x, born) => i ≤ j ∧ ∃ e, l[j - i]? = some e ∧ VR ν x e.val ∧ e.born = born ∧ Instr.findNow kd kv l i = some (some (j, e.val)) ∧ ∀ n, Instr.sameBits (n + 1) e.key kv = true) := by
  intro es
  induction es with
  | nil =>
    intro l i s s' r h hl
    cases h
    obtain rfl : l = [] := hl
    exact ⟨.refl _, fun ob => ⟨ob, rfl⟩⟩
  | cons e es ih =>
    intro l i s s' r h hl
    obtain ⟨z, zs, rfl, h1, h2, h3, hs⟩ := hl
    unfold findS at h
    split at h
    · rename_i s1 hkey
      cases h
      obtain ⟨hsame, hob⟩ := keyIs_ok hkey hk h1
      refine ⟨hsame, fun ob => ⟨(hob ob).1, Nat.le_refl _, z, by simp, h2, h3.symm, ?_, (hob ob).2.2 rfl⟩⟩
      simp [Instr.findNow, (hob ob).2.1]
    · rename_i s1 hkey
      obtain ⟨hsame, hob⟩ := keyIs_ok hkey hk h1
      obtain ⟨hsame2, hob2⟩ := ih h hs
      refine ⟨hsame.trans hsame2, fun ob => ?_⟩
      obtain ⟨ob1, hr⟩ := hob2 ob
      refine ⟨(hob ob1).1, ?_⟩
      have hf : ∀ i, Instr.findNow kd kv (z :: zs) i = Instr.findNow kd kv zs (i + 1) := by
        intro i; simp [Instr.findNow, (hob ob1).2.1]
      cases r with
      | none => simp only at hr ⊢; rw [hf]; exact hr
      | some p =>
        obtain ⟨j, x, born⟩ := p
        simp only at hr ⊢
        obtain ⟨hij, e', he', hx, hb, hfn, hsb⟩ := hr
        refine ⟨by omega, e', ?_, hx, hb, by rw [hf]; exact hfn, hsb⟩
        rw [show j - i = (j - (i + 1)) + 1 from by omega]
        simpa using he'
    · cases h

theorem EntR.modify {es : List (SV × SV × Nat)} {l : List MapEntry} (h : EntR ν es l) (j : Nat) (f : SV × SV × Nat → SV × SV × Nat) (g : MapEntry → MapEntry)
    (hfg : ∀ a e, VR ν a.1 e.key → VR ν a.2.1 e.val → a.2.2 = e.born → VR ν (f a).1 (g e).key ∧ VR ν (f a).2.1 (g e).val ∧ (f a).2.2 = (g e).born) : EntR ν (es.modify j f) (l.modify j g) := by
  induction es generalizing l j with
  | nil => have h' : l = [] := h; subst h'; simp [EntR]
  | cons a es ih =>
    obtain ⟨z, zs, rfl, h1, h2, h3, hs⟩ := h
    cases j with
    | zero =>
      obtain ⟨k1, k2, k3⟩ := hfg a z h1 h2 h3
      simp only [List.modify_zero_cons]
      exact ⟨g z, zs, rfl, k1, k2, k3, hs⟩
    | succ j =>
      simp only [List.modify_succ_cons]
      exact ⟨z, _, rfl, h1, h2, h3, ih hs j⟩

theorem EntR.append {es : List (SV × SV × Nat)} {l : List MapEntry} (h : EntR ν es l) {fs : List (SV × SV × Nat)} {m : List MapEntry} (k : EntR ν fs m) : EntR ν (es ++ fs) (l ++ m) := by
  induction es generalizing l with
  | nil => obtain rfl : l = [] := h; exact k
  | cons a es ih =>
    obtain ⟨z, zs, rfl, h1, h2, h3, hs⟩ := h
    exact ⟨z, _, rfl, h1, h2, h3, ih hs⟩

theorem EntR.erase {es : List (SV × SV × Nat)} {l : List MapEntry} (h : EntR ν es l) (j : Nat) : EntR ν (es.eraseIdx j) (l.eraseIdx j) := by
  induction es generalizing l j with
  | nil => have h' : l = [] := h; subst h'; simp [EntR]
  | cons a es ih =>
    obtain ⟨z, zs, rfl, h1, h2, h3, hs⟩ := h
    cases j with
    | zero => exact hs
    | succ j => exact ⟨z, _, rfl, h1, h2, h3, ih hs j⟩

theorem EntR.length {es : List (SV × SV × Nat)} {l : List MapEntry} (h : EntR ν es l) : l.length = es.length := by
  induction es generalizing l with
  | nil => obtain rfl : l = [] := h; rfl
  | cons a es ih => obtain ⟨z, zs, rfl, _, _, _, hs⟩ := h; simp [ih hs]

theorem run_getObj_map {P : Program} {b : Nat} {es : Array MapEntry} {c : Nat} (h : w.heap[b]? = some (.map es c)) : (getObj b).run P w = .ok (.map es c) w := by
  simp [getObj, Sem.run, h]

theorem run_setObj_map {P : Program} {b : Nat} {es : Array MapEntry} {c : Nat} (h : w.heap[b]? = some (.map es c)) (o : Obj) : (setObj b o).run P w = .ok () { w with heap := w.heap.setIfInBounds b o } := by
  simp [setObj, Sem.run, h]

theorem run_findKey {t : TypeId} {kd : TypeDesc} (h : tdesc E t = some kd) {kv : Value} {l : List MapEntry} {r : Option (Nat × Value)} (hf : Instr.findNow kd kv l 0 = some r) :
    (Instr.findKey t kv l).run E.P w = .ok r w := by
  simp [Instr.findKey, run_underlying h, hf]

theorem sLookup_ok {t : TypeId} {m k x : SV} {ok : Bool} {mv kv : Value} (h : sLookup E t m k ok s = some (x, s')) (hr : HR ν M w0 s w) (hm : VR ν m mv) (hk : VR ν k kv) :
    s.Same s' ∧ (s'.ob → s.ob ∧ ∃ y, (Instr.lookup t mv kv ok).run E.P w = .ok y w ∧ VR ν x y) := by
  unfold sLookup at h
  split at h
  · rename_i kt et hd
    cases hkd : keyDesc E kt with
    | none => rw [hkd] at h; cases h
    | some kd =>
    rw [hkd] at h
    simp only [Option.bind_eq_bind, Option.bind_some] at h
    obtain ⟨hkt, hkey⟩ := keyDesc_ok hkd
    cases hi : tinfo E et with
    | none => rw [hi] at h; cases h
    | some zi =>
    rw [hi] at h
    simp only [Option.bind_some] at h
    cases hz : zi.zero with
    | none => rw [hz] at h; cases h
    | some z =>
    rw [hz] at h
    simp only [Option.bind_some] at h
    -- the entries, and how the model comes to them
    have key : ∀ (es : List (SV × SV × Nat)) (l : List MapEntry), EntR ν es l →
        (∀ (q : Option (Nat × Value)), Instr.findNow kd kv l 0 = some q → (Instr.lookup t mv kv ok).run E.P w =
          .ok (if ok = true then .tuple #[(q.map (·.2)).getD z, .bool q.isSome] else (q.map (·.2)).getD z) w) →
        ((findS E kd k es 0 s).bind fun p => match p.1 with
          | some (_, x, _) => some (bif ok then SV.tup [x, .v (.bool true)] else x, p.2)
          | none => some (bif ok then SV.tup [.v z, .v (.bool false)] else .v z, p.2)) = some (x, s') →
        s.Same s' ∧ (s'.ob → s.ob ∧ ∃ y, (Instr.lookup t mv kv ok).run E.P w = .ok y w ∧ VR ν x y) := by
      intro es l hl hlook h
      cases hf : findS E kd k es 0 s with
      | none => rw [hf] at h; cases h
      | some p =>
      obtain ⟨r, s1⟩ := p
      rw [hf] at h
      simp only [Option.bind_some] at h
      obtain ⟨hsame, hob⟩ := findS_ok hk hf hl
      cases r with
      | none =>
        simp only at h
        cases h
        refine ⟨hsame, fun ob => ⟨(hob ob).1, _, hlook none (hob ob).2, ?_⟩⟩
        cases ok
        · exact VR.v_iff.2 rfl
        · exact VR.tup_iff.2 ⟨[z, .bool false], rfl, VRL.cons (VR.v_iff.2 rfl) (VRL.cons (VR.v_iff.2 rfl) VRL.nil)⟩
      | some q =>
        obtain ⟨j, x0, born⟩ := q
        simp only at h
        cases h
        refine ⟨hsame, fun ob => ?_⟩
        obtain ⟨ob0, _, e, he, hx, _, hfn, _⟩ := hob ob
        refine ⟨ob0, _, hlook (some (j, e.val)) hfn, ?_⟩
        cases ok
        · exact hx
        · exact VR.tup_iff.2 ⟨[e.val, .bool true], rfl, VRL.cons hx (VRL.cons (VR.v_iff.2 rfl) VRL.nil)⟩
    split at h
    · obtain rfl := VR.v_iff.1 hm
      refine key [] [] rfl (fun q hq => ?_) h
      simp only [Instr.lookup, Sem.run_bind, run_underlying hd, Result.andThen_ok, Sem.run_pure, run_checkKey hkt hkey, run_findKey hkt hq]
      cases q with
      | none => cases ok <;> simp [run_zeroValue hi hz]
      | some q => cases ok <;> simp
    · rename_i i
      split at h
      · rename_i es clock own hl
        obtain ⟨_, _, b, o, hb, ho, hor, _⟩ := hr.look hl
        obtain ⟨c, hc, rfl⟩ := VR.map_iff.1 hm
        rw [hb] at hc; cases hc
        obtain ⟨l, rfl, hl⟩ := hor
        refine key es l hl (fun q hq => ?_) h
        simp only [Instr.lookup, Sem.run_bind, run_underlying hd, run_getObj_map ho, Result.andThen_ok, Sem.run_pure, run_checkKey hkt hkey, run_findKey hkt hq]
        cases q with
        | none => cases ok <;> simp [run_zeroValue hi hz]
        | some q => cases ok <;> simp
      · cases h
    · cases h
  · cases h

end
end Go.Rx
