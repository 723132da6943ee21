/- The symbolic executor 'Rx', part YS: calls that end with a slice in a new block; contracts of such calls. By an AI agent. -/
import Derived.Test.YtjhmpmhkppglnaaGreatRyR
set_option linter.unusedVariables false
set_option linter.unusedSimpArgs false
namespace Go.Rx
open Go.RowKit (Below)
section
variable {E : Env} {ν : Val} {M : Own} {w0 w : World} {s s' : SH} {cs0 : List Frame} {f : FuncId} {R : Ending → World → Prop}
/-- What is owed for a state to come to the call's end with this value, and with an object that is told. -/
def endsO (E : Env) (f : FuncId) (n : Nat) (S : SM) (o : List (Nat × Ans)) (x : SV) (i : Nat) (so : SO) : List Prop :=
  match goS E SM.over n (S.with o) with
  | some T => match endS E f T with
    | some (y, s') => match s'.look i with
      | some (so', true) => leV [(i, i)] x y ++ (leO [(i, i)] true so so' ++ s'.obl)
      | _ => [False]
    | none => [False]
  | none => [False]
theorem Goes.endsO (K : Facts E M w0) {n : Nat} {S : SM} {o : List (Nat × Ans)} {x : SV} {i : Nat} {so : SO} (h : Owed (Go.Rx.endsO E f n S o x i so))
    (hR : ∀ ν' w' y b ob, VR ν' x y → ν' i = some b → w'.heap[b.1]? = some ob → OR ν' i so ob → (w0.heap.size ≤ b.1 ∨ M b.1) → (∃ ν1 M1 w1 s', Base M w0 M1 w1 ∧ HR ν1 M1 w1 s' w') → R (.returned y) w') : Goes E M w0 cs0 f R ν S := by
  unfold Go.Rx.endsO at h
  split at h
  · rename_i T hT
    split at h
    · rename_i y s' hend
      split at h
      · rename_i so' hl
        obtain ⟨h1, h2⟩ := owed_app.1 h
        obtain ⟨h3, h4⟩ := owed_app.1 h2
        refine Goes.go K hT (resultsS_mono' hend h4) (Goes.done hend h4 fun ν' M1 w1 w' u hle hB hv hr hg => ?_)
        obtain ⟨_, _, b, ob, hb, ho, hor, hw⟩ := hr.look hl
        have hii : (([(i, i)] : List (Nat × Nat)).lookup i == some i) = true := by simp [List.lookup]
        exact hR (ν'.ren [(i, i)]) w' u b ob (leV_ok h1 hv) (ren_at hii hb) ho (leO_ok hii h3 hor) (hB.own _ (hw rfl)) ⟨ν', M1, w1, s', hB, hr⟩
      · exact owed_false h
    · exact owed_false h
  · exact owed_false h
end
/-- A call that begins with objects which it only reads, with whatever is told of its end. -/
theorem calls_readR {E : Env} {w : World} {f : FuncId} {R : Ending → World → Prop} {P : Program} (hP : E.P = P) {args : List SV} {a : List Value} {d : Nat} {l : List (Nat × Nat)} {os : List SO} {S0 : SM} (hlen : l.length = os.length) (hd : os.length ≤ 2 ^ d) (hn : (l.map (·.1)).Nodup)
    (ho : ∀ (i : Nat) (o : SO) (b c : Nat), os[i]? = some o → l[i]? = some (b, c) → ∃ r, w.heap[b]? = some r ∧ OR (layVal l) i o r) (hG : E.G = []) (hS0 : enterS E f args (memOf d os.length 0 (os.map fun o => some (o, false))) = some S0) (ha : VRL (layVal l) args a)
    (hs : ∀ cs0, Goes E (layOwn l (os.map fun o => (o, false))) w cs0 f R (layVal l) S0) : Calls P f a.toArray w R := by
  subst hP
  have ho' : ∀ (i : Nat) (o : SO) (m : Bool) (b c : Nat), (os.map fun o => (o, false))[i]? = some (o, m) → l[i]? = some (b, c) → ∃ r, w.heap[b]? = some r ∧ OR (layVal l) i o r := by
    intro i o m b c h1 h2
    rw [List.getElem?_map] at h1
    obtain ⟨o', h3, h4⟩ := Option.map_eq_some_iff.1 h1
    cases h4
    exact ho i o b c h3 h2
  have hr := lay_HR (d := d) (w := w) (by simpa using hlen) (by simpa using hd) hn ho'
  rw [List.map_map, List.length_map] at hr
  exact calls_of_safe hS0 hr (layOwn_r ho') (fun _ h => h) (fun g i h => by rw [hG] at h; cases h) ha hs
/-- .. with nothing told. -/
theorem calls_bareR {E : Env} {w : World} {f : FuncId} {R : Ending → World → Prop} {P : Program} (hP : E.P = P) (hG : E.G = []) {args : List SV} {a : List Value} {S0 : SM} (hS0 : enterS E f args (memOf 6 0 0 []) = some S0) (ha : VRL (layVal []) args a)
    (hs : ∀ cs0, Goes E (layOwn [] []) w cs0 f R (layVal []) S0) : Calls P f a.toArray w R :=
  calls_readR (E := E) hP (d := 6) (l := []) (os := []) rfl (by simp) (by simp) (fun i o b c h => by simp at h) hG hS0 ha hs
/-- A slice of so many elements of C cells, in a new block that begins with these cells. -/
def NewSl (W w' : World) (y : Value) (ys : List Value) (n C : Nat) (elem : TypeId) : Prop :=
  ∃ (b c : Nat) (rest : List Value), y = .slice (some ⟨b, 0, none⟩) n c ∧ W.heap.size ≤ b ∧ n ≤ c ∧ w'.heap[b]? = some (.cells (ys ++ rest).toArray elem) ∧ (ys ++ rest).length = c * C
theorem NewSl.of_row {ν : Val} {W w' : World} {i n C : Nat} {xs : List SV} {ys : List Value} {elem : TypeId} {y : Value} {b : Nat × Nat} {ob : Obj} (hv : VR ν (.sl i 0 n none) y) (hb : ν i = some b) (ho : w'.heap[b.1]? = some ob)
    (hor : OR ν i (.row xs elem (0, 0) (some C)) ob) (hn : W.heap.size ≤ b.1) (hu : ∀ zs, VRL ν xs zs → zs = ys) : NewSl W w' y ys n C elem := by
  obtain ⟨b', hb', hle, rfl⟩ := VR.sl_iff.1 hv
  rw [hb] at hb'; cases hb'
  obtain ⟨zs, rest, rfl, hz, _, b2, hb2, hsz⟩ := hor
  rw [hb] at hb2; cases hb2
  obtain rfl := hu zs hz
  have hle' : n ≤ b.2 := hle
  exact ⟨b.1, b.2, rest, rfl, hn, hle', by simpa using ho, hsz⟩
/-- .. where nothing was appended. -/
theorem NewSl.of_one {ν : Val} {W w' : World} {i n c C : Nat} {xs : List SV} {ys : List Value} {elem : TypeId} {y : Value} {b : Nat × Nat} {ob : Obj} (hv : VR ν (.sl i 0 n (some c)) y) (hb : ν i = some b) (ho : w'.heap[b.1]? = some ob)
    (hor : OR ν i (.row xs elem (0, 0) none) ob) (hn : W.heap.size ≤ b.1) (hu : ∀ zs, VRL ν xs zs → zs = ys) (hc : ys.length = c * C) : NewSl W w' y ys n C elem := by
  obtain ⟨b', hb', hle, rfl⟩ := VR.sl_iff.1 hv
  rw [hb] at hb'; cases hb'
  obtain ⟨zs, rest, rfl, hz, hsz⟩ := hor
  obtain rfl := hu zs hz
  have h0 : rest = [] := by
    have : (zs ++ rest).length = xs.length := hsz
    have h2 := hz.length
    rw [List.length_append] at this
    exact List.length_eq_zero_iff.1 (by omega)
  subst h0
  exact ⟨b.1, c, [], rfl, hn, hle, by simpa using ho, by simpa using hc⟩
/-- What such a call gives: its cells, how many elements, cells an element, their type, a second result, what is wanted. -/
abbrev SlS := List Value → Option (List Value × Nat × Nat × TypeId × Option Value × Prop)
def withEx (ex : Option Value) (x : SV) : SV := match ex with | none => x | some v => .tup [x, .v v]
def withExV (ex : Option Value) (y : Value) : Value := match ex with | none => y | some v => .tuple #[y, v]
def slSum (g : SlS) : Sum := fun args s => match plainVs args with
  | some vs => match g vs with
    | some (ys, n, C, elem, ex, p) => (sNew (.row (ys.map SV.v) elem (0, 0) (some C)) (s.owe p)).map fun r => (withEx ex (.sl r.1 0 n none), r.2)
    | none => none
  | none => none
theorem slSum_ok {P : Program} {X : World → Prop} {f : FuncId} {g : SlS} (hf : ∃ fn, P.funcs[f]? = some fn ∧ fn.body.isSome = true ∧ (fn.name == "runtime.NumGoroutine") = false)
    (h : ∀ vs ys n C elem ex p, g vs = some (ys, n, C, elem, ex, p) → p → ∀ w, X w → Calls P f vs.toArray w fun e w' => Below w.heap.size w w' ∧ ∃ y, e = .returned (withExV ex y) ∧ NewSl w w' y ys n C elem) : SumOK P X (f, slSum g) := by
  refine ⟨hf, fun args x s s' hx ob => ?_⟩
  dsimp only at hx
  unfold slSum at hx
  split at hx
  · rename_i vs hvs
    split at hx
    · rename_i ys n C elem ex p hp
      obtain ⟨⟨i, s1⟩, hn, hx⟩ := Option.map_eq_some_iff.1 hx
      cases hx
      unfold sNew at hn
      cases hroom : (s.owe p).room
      · rw [hroom] at hn; cases hn
      rw [hroom] at hn
      simp only [cond_true] at hn
      cases hn
      have ob2 : (s.owe p).ob := ob
      refine ⟨ob2.1, fun ν M w0 w a hr hXw ha => ?_⟩
      obtain rfl := plainVs_ok hvs ha
      refine (h a ys n C elem ex p hp ob2.2 w hXw).mono fun e w' ⟨hB, y, he, b, c, rest, hy, hb, hnc, ho, hsz⟩ => ?_
      have hv : VR (ν.put (s.owe p).nx (b, c)) (.sl (s.owe p).nx 0 n none) y := VR.sl_iff.2 ⟨(b, c), Val.put_self _ _ _, hnc, hy⟩
      refine ⟨hB, _, he, .made (s.owe p) _ b c _ (SH.owe_same _ _) hroom rfl hb ho ⟨ys, rest, by show _ = _; simp, VRL.lits _ _, ?_, (b, c), Val.put_self _ _ _, hsz⟩ ?_⟩
      · simp
      · cases ex with
        | none => exact hv
        | some v => exact VR.tup_iff.2 ⟨[y, v], rfl, VRL.cons hv (VRL.cons (VR.v_iff.2 rfl) VRL.nil)⟩
    · cases hx
  · cases hx
end Go.Rx
namespace Go.Rx
open Go.RowKit (Below)
/-- .. where the arguments stand for objects. -/
abbrev SlG := List SV → SH → Option (List Value × Nat × Nat × TypeId × Option Value × Prop)
def slSumG (g : SlG) : Sum := fun args s => match g args s with
  | some (ys, n, C, elem, ex, p) => (sNew (.row (ys.map SV.v) elem (0, 0) (some C)) (s.owe p)).map fun r => (withEx ex (.sl r.1 0 n none), r.2)
  | none => none
theorem slSumG_ok {P : Program} {X : World → Prop} {f : FuncId} {g : SlG} (hf : ∃ fn, P.funcs[f]? = some fn ∧ fn.body.isSome = true ∧ (fn.name == "runtime.NumGoroutine") = false)
    (h : ∀ args s ys n C elem ex p, g args s = some (ys, n, C, elem, ex, p) → p → ∀ ν M w0 w a, HR ν M w0 s w → X w → VRL ν args a → Calls P f a.toArray w fun e w' => Below w.heap.size w w' ∧ ∃ y, e = .returned (withExV ex y) ∧ NewSl w w' y ys n C elem) : SumOK P X (f, slSumG g) := by
  refine ⟨hf, fun args x s s' hx ob => ?_⟩
  dsimp only at hx
  unfold slSumG at hx
  split at hx
  · rename_i ys n C elem ex p hp
    obtain ⟨⟨i, s1⟩, hn, hx⟩ := Option.map_eq_some_iff.1 hx
    cases hx
    unfold sNew at hn
    cases hroom : (s.owe p).room
    · rw [hroom] at hn; cases hn
    rw [hroom] at hn
    simp only [cond_true] at hn
    cases hn
    have ob2 : (s.owe p).ob := ob
    refine ⟨ob2.1, fun ν M w0 w a hr hXw ha => ?_⟩
    refine (h args s ys n C elem ex p hp ob2.2 ν M w0 w a hr hXw ha).mono fun e w' ⟨hB, y, he, b, c, rest, hy, hb, hnc, ho, hsz⟩ => ?_
    have hv : VR (ν.put (s.owe p).nx (b, c)) (.sl (s.owe p).nx 0 n none) y := VR.sl_iff.2 ⟨(b, c), Val.put_self _ _ _, hnc, hy⟩
    refine ⟨hB, _, he, .made (s.owe p) _ b c _ (SH.owe_same _ _) hroom rfl hb ho ⟨ys, rest, by show _ = _; simp, VRL.lits _ _, ?_, (b, c), Val.put_self _ _ _, hsz⟩ ?_⟩
    · simp
    · cases ex with
      | none => exact hv
      | some v => exact VR.tup_iff.2 ⟨[y, v], rfl, VRL.cons hv (VRL.cons (VR.v_iff.2 rfl) VRL.nil)⟩
  · cases hx
/-- .. and a plain value comes back. -/
abbrev PlG := List SV → SH → Option (Value × Prop)
def plSumG (g : PlG) : Sum := fun args s => match g args s with
  | some (v, p) => some (.v v, s.owe p)
  | none => none
theorem plSumG_ok {P : Program} {X : World → Prop} {f : FuncId} {g : PlG} (hf : ∃ fn, P.funcs[f]? = some fn ∧ fn.body.isSome = true ∧ (fn.name == "runtime.NumGoroutine") = false)
    (h : ∀ args s v p, g args s = some (v, p) → p → ∀ ν M w0 w a, HR ν M w0 s w → X w → VRL ν args a → Calls P f a.toArray w fun e w' => Below w.heap.size w w' ∧ e = .returned v) : SumOK P X (f, plSumG g) := by
  refine ⟨hf, fun args x s s' hx ob => ?_⟩
  dsimp only at hx
  unfold plSumG at hx
  split at hx
  · rename_i v p hp
    cases hx
    exact ⟨ob.1, fun ν M w0 w a hr hXw ha => (h args s v p hp ob.2 ν M w0 w a hr hXw ha).mono fun e w' ⟨hB, he⟩ => ⟨hB, v, he, .same (SH.owe_same _ _) (VR.v_iff.2 rfl)⟩⟩
  · cases hx
end Go.Rx
