/- The symbolic executor 'Rx', part YE: functions without a body. By an AI agent. -/
import Derived.Test.YtjhmpmhkppglnaaGreatRyD
import Derived.Laws.Externs
set_option linter.unusedVariables false
set_option linter.unusedSimpArgs false
namespace Go.Rx
section
variable {E : Env} {ν : Val} {M : Own} {w0 w : World} {s s' : SH}

/-- What the model does in a body's place. -/
def extFn : ExtK → Option (Array Value → Sem Value)
  | .same => some Extern.AbiNoEscape.same
  | .pure f => some f
  | .makeNoZero ps t => some (Extern.BytealgMakeNoZero.makeNoZero ps #[t])
  | .mapsClone => some Extern.MapsClone.clone
  | .typeOf => some Extern.ReflectliteType.typeOf
  | .valueOf => some fun args => Extern.ReflectliteValue.unpack (args.getD 0 (.tuple #[]))
  | .valType => some (Extern.ReflectliteValue.methodAny (Extern.ReflectliteValue.valueError "reflectlite.Value.Type" 0) fun t _ _ _ => Extern.ReflectliteType.toType t)
  | .valIsNil => some (Extern.ReflectliteValue.method (Extern.ReflectliteValue.valueError "reflectlite.Value.IsNil" 0) Extern.ReflectliteValue.isNil)
  | .valElem => some (Extern.ReflectliteValue.method (Extern.ReflectliteValue.valueError "reflectlite.Value.Elem" 0) Extern.ReflectliteValue.elem)
  | .valSet => some Extern.ReflectliteValue.set

theorem whole_ok : ∀ (x : SV) (y v : Value), whole x = some v → VR ν x y → y = v
  | .v _, _, _, h, hv => by simp only [whole, Option.some.injEq] at h; rw [VR.v_iff.1 hv, h]
  | .iface t x, _, _, h, hv => by
    obtain ⟨z, rfl, hz⟩ := VR.iface_iff.1 hv
    simp only [whole, Option.map_eq_some_iff] at h
    obtain ⟨u, hu, rfl⟩ := h
    rw [whole_ok x z u hu hz]
  | .junk, _, _, h, _ => by simp [whole] at h
  | .ptr _ _, _, _, h, _ => by simp [whole] at h
  | .sl _ _ _ _, _, _, h, _ => by simp [whole] at h
  | .map _, _, _, h, _ => by simp [whole] at h
  | .agg _, _, _, h, _ => by simp [whole] at h
  | .tup _, _, _, h, _ => by simp [whole] at h
  | .func _ _ _, _, _, h, _ => by simp [whole] at h
  | .yield _, _, _, h, _ => by simp [whole] at h

theorem plains_ok : ∀ {l : List SV} {a b : List Value}, plains l = some a → VRL ν l b → b = a
  | [], _, _, h, hv => by cases h; exact hv.nil_inv
  | x :: xs, _, _, h, hv => by
    obtain ⟨y, ys, rfl, hy, hys⟩ := hv.cons_inv
    unfold plains at h
    split at h
    · rename_i u l hu hl
      cases h
      rw [whole_ok x y u hu hy, plains_ok hl hys]
    · cases h

theorem partsAny_eq (h : Value) (a : Addr) (f : Int) (hf : f ≠ 0) : Extern.ReflectliteValue.partsAny (.agg #[h, .pointer (some a), .int .u64 f]) = (do pure (some (← Extern.Rtype.ofHandle h, a, f.toNat))) := by
  match f, hf with
  | .ofNat 0, hf => exact absurd rfl hf
  | .ofNat (n + 1), _ => rfl
  | .negSucc n, _ => rfl

theorem clone_eq (t : TypeId) (r : Nat) : Extern.MapsClone.clone #[.iface t (.map (some r))] = (getObj r >>= fun o => match o with
    | .map entries clock => newObj (.map entries clock) >>= fun r' => pure (.iface t (.map (some r')))
    | _ => stuck "maps.clone: a map expected") := rfl

theorem method_eq (zero : Sem Value) (f : TypeId → Addr → Nat → Nat → Sem Value) (v : Value) : Extern.ReflectliteValue.method zero f #[v] = (Extern.ReflectliteValue.parts v >>= fun p => match p with
    | none => zero
    | some (t, a, fl) => f t a fl (fl % 32)) := rfl

theorem methodAny_eq (zero : Sem Value) (f : TypeId → Addr → Nat → Nat → Sem Value) (v : Value) : Extern.ReflectliteValue.methodAny zero f #[v] = (Extern.ReflectliteValue.partsAny v >>= fun p => match p with
    | none => zero
    | some (t, a, fl) => f t a fl (fl % 32)) := rfl

theorem set_eq (v x : Value) : ∃ g : Option (TypeId × Addr × Nat) → Option (TypeId × Addr × Nat) → Sem Value, Extern.ReflectliteValue.set #[v, x] = (Extern.ReflectliteValue.parts v >>= fun p => Extern.ReflectliteValue.parts x >>= fun q => g p q) ∧
    ∀ dst a fl src b fb, g (some (dst, a, fl)) (some (src, b, fb)) = (do
      if fl / Extern.ReflectliteValue.flagAddr % 2 == 0 then unsupported (.noEntry "extern/(internal/reflectlite.Value).Set.unaddressable")
      let val ← loadVar src b
      if ← Extern.Rtype.directlyAssignable dst src then storeVar dst a val
      else if ← Extern.Rtype.implements dst src then
        if (← Extern.Rtype.kind src) == 20 then
          match val with
          | .nilIface => unsupported (.noEntry "extern/reflectlite: a nil value of one interface type handed on as a value of another")
          | _ => storeVar dst a val
        else storeVar dst a (.iface src val)
      else panicString ("reflectlite.Set: value of type " ++ (← Extern.Rtype.spelt src) ++ " is not assignable to type " ++ (← Extern.Rtype.spelt dst))
      pure (.tuple #[])) := by
  refine ⟨_, rfl, fun dst a fl src b fb => rfl⟩

/-- Where a Value of internal/reflectlite leads. -/
theorem rvParts_ok {x : SV} {y : Value} {r : TypeId × Nat × Nat × Nat} (h : rvParts E x = some r) (hv : VR ν x y) :
    ∃ b, ν r.2.1 = some b ∧ ∀ w, (Extern.ReflectliteValue.partsAny y).run E.P w = .ok (some (r.1, ⟨b.1, r.2.2.1, none⟩, r.2.2.2)) w := by
  unfold rvParts at h
  split at h
  · rename_i hh i off f
    revert h
    cases hf : decide (f = 0)
    · intro h
      simp only [cond_false] at h
      obtain ⟨t, ht, rfl⟩ := Option.map_eq_some_iff.1 h
      obtain ⟨a, rfl, ha⟩ := VR.agg_iff.1 hv
      obtain ⟨y1, ys, rfl, h1, ha⟩ := ha.cons_inv
      obtain ⟨y2, ys, rfl, h2, ha⟩ := ha.cons_inv
      obtain ⟨y3, ys, rfl, h3, ha⟩ := ha.cons_inv
      obtain rfl := ha.nil_inv
      obtain rfl := VR.v_iff.1 h1
      obtain ⟨b, hb, rfl⟩ := VR.ptr_iff.1 h2
      obtain rfl := VR.v_iff.1 h3
      have hf : f ≠ 0 := of_decide_eq_false hf
      refine ⟨b, hb, fun w => ?_⟩
      rw [show ([y1, Value.pointer (some ⟨b.1, off, none⟩), Value.int .u64 f] : List Value).toArray = #[y1, .pointer (some ⟨b.1, off, none⟩), .int .u64 f] from rfl, partsAny_eq _ _ _ hf]
      simp [pureRun_ok ht w]
    · intro h; cases h
  · cases h

theorem rvParts'_ok {x : SV} {y : Value} {r : TypeId × Nat × Nat × Nat} (h : rvParts' E x = some r) (hv : VR ν x y) :
    ∃ b, ν r.2.1 = some b ∧ ∀ w, (Extern.ReflectliteValue.parts y).run E.P w = .ok (some (r.1, ⟨b.1, r.2.2.1, none⟩, r.2.2.2)) w := by
  unfold rvParts' at h
  obtain ⟨q, hq, h⟩ := Option.bind_eq_some_iff.1 h
  obtain ⟨u, hu, rfl⟩ := Option.map_eq_some_iff.1 h
  obtain ⟨b, hb, hrun⟩ := rvParts_ok hq hv
  exact ⟨b, hb, fun w => by simp [Extern.ReflectliteValue.parts, hrun w, pureRun_ok hu w]⟩

theorem rvMake_ok {t : TypeId} {i off fl : Nat} {x : SV} {b : Nat × Nat} (h : rvMake E t i off fl = some x) (hb : ν i = some b) :
    ∃ y, VR ν x y ∧ ∀ w, (Extern.ReflectliteValue.mk t ⟨b.1, off, none⟩ fl).run E.P w = .ok y w := by
  unfold rvMake at h
  obtain ⟨hd, hh, h⟩ := Option.bind_eq_some_iff.1 h
  obtain ⟨k, hk, rfl⟩ := Option.map_eq_some_iff.1 h
  refine ⟨.agg [hd, .pointer (some ⟨b.1, off, none⟩), .int .u64 (Int.ofNat (k + 128 + fl))].toArray, VR.agg_iff.2 ⟨_, rfl, VRL.cons (VR.v_iff.2 rfl) (VRL.cons (VR.ptr_iff.2 ⟨b, hb, rfl⟩) (VRL.cons (VR.v_iff.2 rfl) VRL.nil))⟩, fun w => ?_⟩
  simp [Extern.ReflectliteValue.mk, pureRun_ok hh w, pureRun_ok hk w, Extern.ReflectliteValue.flagIndir]

theorem beq22 {n : Nat} (h : Nat.beq (n % 32) 22 = true) : n % 32 = 22 := Nat.eq_of_beq_eq_true h

/-- What a load through a place comes to. -/
theorem sLoad_at {t : TypeId} {i off : Nat} {x : SV} {b : Nat × Nat} (h : sLoad E t (.ptr i off) s = some (x, s')) (hr : HR ν M w0 s w) (hb : ν i = some b) :
    s.Same s' ∧ (s'.ob → s.ob ∧ ∃ y, (loadVar t ⟨b.1, off, none⟩).run E.P w = .ok y w ∧ VR ν x y) := by
  obtain ⟨h1, h2⟩ := sLoad_ok h hr (VR.ptr_iff.2 ⟨b, hb, rfl⟩)
  refine ⟨h1, fun ob => ?_⟩
  obtain ⟨o, y, hy, hv⟩ := h2 ob
  refine ⟨o, y, ?_, hv⟩
  simpa [Instr.loadAt, Instr.sureAddr] using hy

theorem digits_size : ∀ (n t : Nat) (acc : Array Value), (Extern.BytealgMakeNoZero.digits n t acc).size = acc.size + n
  | 0, _, _ => rfl
  | n + 1, t, acc => by rw [Extern.BytealgMakeNoZero.digits, digits_size n]; simp; omega
theorem junks (ν : Val) : ∀ (n : Nat) (l : List Value), l.length = n → VRL ν (List.replicate n .junk) l
  | 0, l, h => by rw [List.length_eq_zero_iff.1 h]; exact VRL.nil
  | n + 1, y :: l, h => VRL.cons (by rw [VR]; trivial) (junks ν n l (by simpa using h))
  | _ + 1, [], h => by simp at h
def mkTail (n : Int) (elem : TypeId) : Sem Value := do
  if n < 0 || n > 2 ^ 48 then runtimePanic (.error "makeslice: len out of range")
  let cap ← choose (.appendCap n.toNat 0 elem)
  askRoom cap
  let bytes ← choose (.extern "internal/bytealg.MakeNoZero.bytes" 0)
  let a ← newRow elem (Extern.BytealgMakeNoZero.digits cap bytes #[])
  pure (.slice (some a) n.toNat cap)
theorem makeNoZero_eq (ps : Array TypeId) (t : TypeId) (n : Int) : ∃ g : TypeDesc → Sem Value, Extern.BytealgMakeNoZero.makeNoZero ps #[t] #[.int .i64 n] = (underlying t >>= g) ∧ ∀ e, g (.slice e) = mkTail n e := ⟨_, rfl, fun _ => rfl⟩
theorem makeNoZero_ok {ps : Array TypeId} {t elem : TypeId} {n : Int} {i : Nat} {s1 : SH} (ht : tdesc E t = some (.slice elem)) (hn : 0 ≤ n ∧ n ≤ 2 ^ 40)
    (h : sNew (.row (List.replicate n.toNat .junk) elem (0, 0) (some 1)) s = some (i, s1)) (hr : HR ν M w0 s w) :
    ∃ ν' w' y, ν.Le ν' ∧ (Extern.BytealgMakeNoZero.makeNoZero ps #[t] #[.int .i64 n]).run E.P w = .ok y w' ∧ VR ν' (.sl i 0 n.toNat none) y ∧ HR ν' M w0 s1 w' ∧ s1.ob = s.ob := by
  generalize hcap : (Question.appendCap n.toNat 0 elem).cut (w.tape w.drawn (.appendCap n.toNat 0 elem)) = cap
  have hle : n.toNat ≤ cap := by rw [← hcap]; simp [Question.cut]
  have hch : (choose (.appendCap n.toNat 0 elem)).run E.P w = .ok cap { w with drawn := w.drawn + 1 } := by
    rw [run_choose, show (Question.appendCap n.toNat 0 elem).forced = false from rfl, hcap]; rfl
  have hch2 : ∃ b k, (choose (.extern "internal/bytealg.MakeNoZero.bytes" 0)).run E.P { w with drawn := w.drawn + 1 } = .ok b { w with drawn := k } := by
    rw [run_choose]
    cases (Question.extern "internal/bytealg.MakeNoZero.bytes" 0).forced
    · exact ⟨_, w.drawn + 2, rfl⟩
    · exact ⟨_, w.drawn + 1, rfl⟩
  obtain ⟨bs, k, hch2⟩ := hch2
  generalize hd : Extern.BytealgMakeNoZero.digits cap bs #[] = ds
  have hds : ds.size = cap := by rw [← hd, digits_size]; simp
  have hlen : ds.toList.length = cap := by simpa using hds
  obtain ⟨hob, ν', hle', hi, hr'⟩ := sNew_ok h (hr.drawn k) cap (r := .cells ds elem)
    (fun ν' hle' hi' => ⟨ds.toList.take n.toNat, ds.toList.drop n.toNat, by rw [List.take_append_drop]; simp, junks ν' n.toNat _ (by rw [List.length_take]; omega), by
      rw [List.take_append_drop, List.length_replicate]
      refine ⟨by omega, _, hi', by simpa using hlen⟩⟩)
  refine ⟨ν', _, _, hle', ?_, VR.sl_iff.2 ⟨_, hi, by simpa using hle, rfl⟩, hr', hob⟩
  have hneg : ¬ (n < 0 ∨ n > 2 ^ 48) := by omega
  obtain ⟨g, hg1, hg2⟩ := makeNoZero_eq ps t n
  rw [hg1]
  simp only [Sem.run_bind, run_underlying ht, Result.andThen_ok, hg2]
  unfold mkTail
  rw [if_neg (by simp; omega)]
  simp only [Sem.run_bind, Sem.run_pure, hch, hch2, Result.andThen_ok, run_askRoom, hd, newRow, run_newObj]
  rfl
theorem sExt_ok {k : ExtK} {e : Array Value → Sem Value} (he : extFn k = some e) {args : List SV} {x : SV} {a : List Value} (h : sExt E k args s = some (x, s')) (hr : HR ν M w0 s w) (ha : VRL ν args a) (ob : s'.ob) :
    ∃ ν' w' y, ν.Le ν' ∧ (e a.toArray).run E.P w = .ok y w' ∧ VR ν' x y ∧ HR ν' M w0 s' w' := by
  unfold sExt at h
  split at h
  · -- same
    cases he
    cases h
    obtain ⟨y, ys, rfl, hy, hys⟩ := ha.cons_inv
    obtain rfl := hys.nil_inv
    exact ⟨ν, w, y, Val.Le.refl _, rfl, hy, hr⟩
  · -- pure
    cases he
    obtain ⟨l, hl, h⟩ := Option.bind_eq_some_iff.1 h
    obtain ⟨y, hy, h⟩ := Option.map_eq_some_iff.1 h
    cases h
    rw [plains_ok hl ha]
    exact ⟨ν, w, y, Val.Le.refl _, pureRun_ok hy w, VR.lift y, hr⟩
  · -- MakeNoZero
    cases he
    obtain ⟨y, ys, rfl, hy, hys⟩ := ha.cons_inv
    obtain rfl := hys.nil_inv
    obtain rfl := VR.v_iff.1 hy
    split at h
    · rename_i elem ht
      rename_i n _
      cases hd : decide (0 ≤ n ∧ n ≤ (2 : Int) ^ 40)
      · rw [hd] at h; cases h
      · rw [hd] at h
        simp only [cond_true] at h
        obtain ⟨⟨i, s1⟩, h1, h⟩ := Option.map_eq_some_iff.1 h
        cases h
        obtain ⟨ν', w', y, g1, g2, g3, g4, _⟩ := makeNoZero_ok (E := E) ht (of_decide_eq_true hd) h1 hr
        exact ⟨ν', w', y, g1, g2, g3, g4⟩
    · cases h
  · -- maps.clone
    cases he
    rename_i t i
    obtain ⟨y, ys, rfl, hy, hys⟩ := ha.cons_inv
    obtain rfl := hys.nil_inv
    obtain ⟨v, rfl, hv⟩ := VR.iface_iff.1 hy
    obtain ⟨b, hb, rfl⟩ := VR.map_iff.1 hv
    split at h
    · rename_i es clock wr hlook
      obtain ⟨⟨j, s1⟩, hn, h⟩ := Option.map_eq_some_iff.1 h
      cases h
      obtain ⟨_, _, b', o, hb', ho, hor, _⟩ := hr.look hlook
      rw [hb] at hb'; cases hb'
      obtain ⟨l, rfl, hl⟩ := hor
      obtain ⟨_, ν', hle, hi, hr'⟩ := sNew_ok hn hr 0 (r := .map l.toArray clock) (fun ν' hle _ => ⟨l, rfl, hl.mono hle⟩)
      refine ⟨ν', _, .iface t (.map (some w.heap.size)), hle, ?_, VR.iface_iff.2 ⟨_, rfl, VR.map_iff.2 ⟨_, hi, rfl⟩⟩, hr'⟩
      rw [show ([Value.iface t (.map (some b.1))] : List Value).toArray = #[.iface t (.map (some b.1))] from rfl, clone_eq]
      simp [run_getObj (P := E.P) ho (by intro c e f; exact fun h => by cases h)]
    · cases h
  · -- TypeOf
    cases he
    obtain ⟨y, ys, rfl, hy, hys⟩ := ha.cons_inv
    obtain rfl := hys.nil_inv
    obtain ⟨v, rfl, hv⟩ := VR.iface_iff.1 hy
    obtain ⟨y, hy, h⟩ := Option.map_eq_some_iff.1 h
    cases h
    exact ⟨ν, w, y, Val.Le.refl _, pureRun_ok hy w, VR.lift y, hr⟩
  · cases he
    obtain ⟨y, ys, rfl, hy, hys⟩ := ha.cons_inv
    obtain rfl := hys.nil_inv
    obtain rfl := VR.v_iff.1 hy
    cases h
    exact ⟨ν, w, _, Val.Le.refl _, rfl, VR.v_iff.2 rfl, hr⟩
  · -- ValueOf
    cases he
    rename_i t x0
    obtain ⟨y, ys, rfl, hy, hys⟩ := ha.cons_inv
    obtain rfl := hys.nil_inv
    obtain ⟨v, rfl, hv⟩ := VR.iface_iff.1 hy
    unfold sValueOf at h
    obtain ⟨⟨p, s1⟩, hp, h⟩ := Option.bind_eq_some_iff.1 h
    obtain ⟨_, ν', w', pv, hle, hrun, hpv, hr'⟩ := sBox_ok (E := E) hp hr hv
    dsimp only at h
    split at h
    · rename_i i
      obtain ⟨x1, hx1, h⟩ := Option.map_eq_some_iff.1 h
      cases h
      obtain ⟨b, hb, rfl⟩ := VR.ptr_iff.1 hpv
      obtain ⟨y, hy, hmk⟩ := rvMake_ok hx1 hb
      refine ⟨ν', w', y, hle, ?_, hy, hr'⟩
      have hbox : ∃ ad : Addr, (newVar t v).run E.P w = .ok ad w' ∧ Value.pointer (some ad) = .pointer (some ⟨b.1, 0, none⟩) := by
        simp only [Instr.box, Sem.run_bind] at hrun
        cases hnv : (newVar t v).run E.P w with
        | ok ad w2 =>
          rw [hnv] at hrun
          simp only [Result.andThen_ok, Sem.run_pure, Result.ok.injEq] at hrun
          obtain ⟨h1, rfl⟩ := hrun
          exact ⟨ad, rfl, h1⟩
        | _ => rw [hnv] at hrun; cases hrun
      obtain ⟨ad, hnv, had⟩ := hbox
      cases had
      simp [Extern.ReflectliteValue.unpack, hnv, hmk]
    · cases h
  · -- Value.Type
    cases he
    obtain ⟨y, ys, rfl, hy, hys⟩ := ha.cons_inv
    obtain rfl := hys.nil_inv
    obtain ⟨r, hr1, h⟩ := Option.bind_eq_some_iff.1 h
    obtain ⟨z, hz, h⟩ := Option.map_eq_some_iff.1 h
    cases h
    obtain ⟨b, hb, hp⟩ := rvParts_ok hr1 hy
    refine ⟨ν, w, z, Val.Le.refl _, ?_, VR.lift z, hr⟩
    rw [show ([y] : List Value).toArray = #[y] from rfl, methodAny_eq]
    simp [hp w, pureRun_ok hz w]
  · -- Value.IsNil
    cases he
    obtain ⟨y, ys, rfl, hy, hys⟩ := ha.cons_inv
    obtain rfl := hys.nil_inv
    obtain ⟨r, hr1, h⟩ := Option.bind_eq_some_iff.1 h
    obtain ⟨b, hb, hp⟩ := rvParts'_ok hr1 hy
    unfold sIsNil at h
    revert h
    cases hk : Nat.beq (r.2.2.2 % 32) 22
    · intro h; cases h
    · intro h
      simp only [cond_true] at h
      have hk := beq22 hk
      obtain ⟨⟨p, s1⟩, hl, h⟩ := Option.bind_eq_some_iff.1 h
      obtain ⟨hsame, hob⟩ := sLoad_at hl hr hb
      dsimp only at h
      split at h
      · cases h
        obtain ⟨_, y1, hy1, hv1⟩ := hob ob
        obtain ⟨c, _, rfl⟩ := VR.ptr_iff.1 hv1
        refine ⟨ν, w, .bool false, Val.Le.refl _, ?_, VR.v_iff.2 rfl, hr.same hsame⟩
        rw [show ([y] : List Value).toArray = #[y] from rfl, method_eq]
        simp [hp w, Extern.ReflectliteValue.isNil, hk, hy1]
      · cases h
        obtain ⟨_, y1, hy1, hv1⟩ := hob ob
        obtain rfl := VR.v_iff.1 hv1
        refine ⟨ν, w, .bool true, Val.Le.refl _, ?_, VR.v_iff.2 rfl, hr.same hsame⟩
        rw [show ([y] : List Value).toArray = #[y] from rfl, method_eq]
        simp [hp w, Extern.ReflectliteValue.isNil, hk, hy1]
      · cases h
  · -- Value.Elem
    cases he
    obtain ⟨y, ys, rfl, hy, hys⟩ := ha.cons_inv
    obtain rfl := hys.nil_inv
    obtain ⟨r, hr1, h⟩ := Option.bind_eq_some_iff.1 h
    obtain ⟨b, hb, hp⟩ := rvParts'_ok hr1 hy
    unfold sRElem at h
    revert h
    cases hk : Nat.beq (r.2.2.2 % 32) 22
    · intro h; cases h
    · intro h
      simp only [cond_true] at h
      have hk := beq22 hk
      cases hoe : pureRun E.P (Extern.Rtype.elem? r.1) with
      | none => rw [hoe] at h; cases h
      | some oe =>
      rw [hoe] at h
      cases oe with
      | none => cases h
      | some e =>
      simp only [Option.bind_some] at h
      obtain ⟨⟨p, s1⟩, hl, h⟩ := Option.bind_eq_some_iff.1 h
      obtain ⟨hsame, hob⟩ := sLoad_at hl hr hb
      dsimp only at h
      split at h
      · rename_i j o
        obtain ⟨x1, hx1, h⟩ := Option.map_eq_some_iff.1 h
        cases h
        obtain ⟨_, y1, hy1, hv1⟩ := hob ob
        obtain ⟨c, hc, rfl⟩ := VR.ptr_iff.1 hv1
        obtain ⟨y2, hy2, hmk⟩ := rvMake_ok hx1 hc
        refine ⟨ν, w, y2, Val.Le.refl _, ?_, hy2, hr.same hsame⟩
        rw [show ([y] : List Value).toArray = #[y] from rfl, method_eq]
        simp [hp w, Extern.ReflectliteValue.elem, hk, hy1, pureRun_ok hoe w, Extern.ReflectliteValue.flagAddr, hmk w]
      · cases h
  · -- Value.Set
    cases he
    obtain ⟨y, ys, rfl, hy, hys⟩ := ha.cons_inv
    obtain ⟨y2, ys, rfl, hy2, hys⟩ := hys.cons_inv
    obtain rfl := hys.nil_inv
    obtain ⟨r, hr1, h⟩ := Option.bind_eq_some_iff.1 h
    obtain ⟨q, hq1, h⟩ := Option.bind_eq_some_iff.1 h
    obtain ⟨b, hb, hp⟩ := rvParts'_ok hr1 hy
    obtain ⟨c, hc, hpq⟩ := rvParts'_ok hq1 hy2
    unfold sRSet at h
    revert h
    cases hk : Nat.beq (r.2.2.2 / 256 % 2) 0
    · intro h
      simp only [cond_false] at h
      have hk : r.2.2.2 / 256 % 2 ≠ 0 := fun e => by rw [e] at hk; cases hk
      obtain ⟨⟨p, s1⟩, hl, h⟩ := Option.bind_eq_some_iff.1 h
      obtain ⟨hsame, hob⟩ := sLoad_at hl hr hc
      obtain ⟨d, hd, h⟩ := Option.bind_eq_some_iff.1 h
      cases d
      · cases h
      · obtain ⟨s2, hst, h⟩ := Option.map_eq_some_iff.1 h
        cases h
        have ob1 : s1.ob := sStore_ob hst ob
        obtain ⟨_, y1, hy1, hv1⟩ := hob ob1
        obtain ⟨_, hgood⟩ := sStore_ok hst (hr.same hsame) (VR.ptr_iff.2 ⟨b, hb, rfl⟩ : VR ν (.ptr r.2.1 r.2.2.1) _) hv1 ob
        obtain ⟨ν', w', hle, hrun, hr'⟩ := hgood
        refine ⟨ν', w', .tuple #[], hle, ?_, VR.v_iff.2 rfl, hr'⟩
        have hrun : (storeVar r.1 ⟨b.1, r.2.2.1, none⟩ y1).run E.P w = .ok () w' := by
          simpa [Instr.storeAt, Instr.sureAddr] using hrun
        obtain ⟨g, hg1, hg2⟩ := set_eq y y2
        rw [show ([y, y2] : List Value).toArray = #[y, y2] from rfl, hg1]
        simp [hp w, hpq w, hg2, Extern.ReflectliteValue.flagAddr, hk, hy1, pureRun_ok hd w, hrun]
    · intro h; cases h
  · cases h

/-- The functions without a body, one by one. -/
def ExtRow (P : Program) (r : FuncId × ExtK) : Prop :=
  ∃ fn e, P.funcs[r.1]? = some fn ∧ (fn.name == "runtime.NumGoroutine") = false ∧ fn.body.isNone = true ∧ Extern.findNext fn = none ∧ extFn r.2 = some e ∧ Extern.find fn = some e

theorem ExtOK.of (l : List (FuncId × ExtK)) (hE : E.ext = fun f => l.lookup f) (h : ∀ r ∈ l, ExtRow E.P r) : ExtOK E := by
  intro f k hk args x s s' hx ν M w0 w a hr ha ob
  refine ⟨sExt_mono hx ob, ?_⟩
  rw [hE] at hk
  have hm : (f, k) ∈ l := by
    have : ∀ (l : List (FuncId × ExtK)), l.lookup f = some k → (f, k) ∈ l := by
      intro l
      induction l with
      | nil => intro h; cases h
      | cons r l ih =>
        intro h
        obtain ⟨g, k'⟩ := r
        rw [List.lookup_cons] at h
        split at h
        · rename_i e
          cases h
          have e : f = g := by simpa using e
          rw [e]; exact List.mem_cons_self
        · exact List.mem_cons_of_mem _ (ih h)
    exact this l hk
  obtain ⟨fn, e, h1, h2, h3, h4, h5, h6⟩ := h _ hm
  obtain ⟨ν', w', y, hle, hrun, hv, hr'⟩ := sExt_ok h5 hx hr ha ob
  exact ⟨ν', w', y, hle, by rw [run_callFunc_extern h1 h2 h3 h4 h6, hrun]; rfl, hv, hr'⟩

end
end Go.Rx
