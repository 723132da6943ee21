/- The symbolic executor 'Rx', part YN: strings.Join as a contract over slices that are told. By an AI agent. -/
import Derived.Test.YtjhmpmhkppglnaaGreatRyM
import Derived.Lib.Join
set_option linter.unusedVariables false
set_option linter.unusedSimpArgs false
namespace Go.Rx
open Go.RowKit (Below)

/-- Cells that are texts. -/
def strsOf : List SV → Option (List ByteArray)
  | [] => some []
  | .v (.string b) :: r => (strsOf r).map (b :: ·)
  | _ => none
theorem strsOf_ok {ν : Val} : ∀ {l : List SV} {b : List ByteArray} {ys : List Value}, strsOf l = some b → VRL ν l ys → ys = b.map Value.string
  | [], _, _, h, hv => by cases h; exact hv.nil_inv
  | x :: r, _, _, h, hv => by
    obtain ⟨y, ys, rfl, hy, hys⟩ := hv.cons_inv
    unfold strsOf at h
    split at h
    · rename_i e; cases e
    · rename_i b r' e
      cases e
      obtain ⟨l, hl, rfl⟩ := Option.map_eq_some_iff.1 h
      rw [VR.v_iff.1 hy, strsOf_ok hl hys]; rfl
    · cases h
def joinB (l : List ByteArray) (sep : ByteArray) : ByteArray := ⟨(Lib.join (l.map (·.data.toList)) sep.data.toList).toArray⟩
def joinSum : List SV → SH → Option (SV × SH) := fun args s =>
  match args with
  | [.sl i off len (some cap), .v (.string sep)] =>
    match s.look i with
    | some (.row xs _ _ _, _) =>
      match strsOf ((xs.drop off).take len) with
      | some l => bif Nat.beq l.length len && Nat.ble len cap && Nat.ble len 1000000 then some (.v (.string (joinB l sep)), s.owe ((joinB l sep).size ≤ 140737488355328)) else none
      | none => none
    | _ => none
  | _ => none
/-- What strings.Join does. -/
def JoinOK (P : Program) (J : FuncId) : Prop :=
  (∃ fn, P.funcs[J]? = some fn ∧ fn.body.isSome = true ∧ (fn.name == "runtime.NumGoroutine") = false) ∧
  ∀ (bk o c : Nat) (xs : List ByteArray) (sep : ByteArray) (w : World), (∀ (j : Nat) x, xs[j]? = some x → w.cell? ⟨bk, o + j, none⟩ = some (.string x)) → bk < w.heap.size → xs.length ≤ 140737488355328 → xs.length ≤ c →
    (joinB xs sep).size ≤ 140737488355328 → Calls P J #[.slice (some ⟨bk, o, none⟩) xs.length c, .string sep] w fun e w' => e = .returned (.string (joinB xs sep)) ∧ Below w.heap.size w w'

section
variable {E : Env} {ν : Val} {M : Own} {w0 w : World} {s s' : SH}
theorem joinSum_mono {args : List SV} {x : SV} (h : joinSum args s = some (x, s')) : ∃ p, s' = s.owe p := by
  unfold joinSum at h
  split at h
  · split at h
    · split at h
      · rename_i l _
        generalize hc : (Nat.beq l.length _ && Nat.ble _ _ && Nat.ble _ 1000000) = c at h
        cases c
        · cases h
        · cases h; exact ⟨_, rfl⟩
      · cases h
    · cases h
  · cases h
theorem joinSum_ok {f : FuncId} (J : JoinOK E.P f) {args : List SV} {x : SV} (h : joinSum args s = some (x, s')) : s'.ob → s.ob ∧ ∀ ν w a, HR ν M w0 s w → GR ν E → VRL ν args a →
    (callFunc f a.toArray).run E.P w = .ok (.enter f a.toArray) w ∧ Calls E.P f a.toArray w fun e w' => Below w.heap.size w w' ∧ ∃ y, e = .returned y ∧ NewVal ν s w s' w' x y := by
  obtain ⟨p, hp⟩ := joinSum_mono h
  refine fun ob => ⟨by rw [hp] at ob; exact ob.1, fun ν w a hr hg ha => ?_⟩
  obtain ⟨⟨fn, hf, hb, hn⟩, hj⟩ := J
  unfold joinSum at h
  split at h
  · rename_i i off len cap sep
    split at h
    · rename_i xs el fz ext mk hl
      split at h
      · rename_i l hs
        cases hc : (Nat.beq l.length len && Nat.ble len cap && Nat.ble len 1000000)
        · rw [hc] at h; cases h
        rw [hc] at h
        simp only [cond_true] at h
        cases h
        rw [Bool.and_eq_true, Bool.and_eq_true] at hc
        obtain ⟨⟨c1, c2⟩, c3⟩ := hc
        have c1 := Nat.eq_of_beq_eq_true c1
        have c2 := Nat.le_of_ble_eq_true c2
        have c3 := Nat.le_of_ble_eq_true c3
        obtain ⟨y1, ys, rfl, h1, ha⟩ := ha.cons_inv
        obtain ⟨y2, ys, rfl, h2, ha⟩ := ha.cons_inv
        obtain rfl := ha.nil_inv
        obtain rfl := VR.v_iff.1 h2
        obtain ⟨b, hb1, _, rfl⟩ := VR.sl_iff.1 h1
        obtain ⟨_, _, b', o, hb2, ho, hor, _⟩ := hr.look hl
        rw [hb1] at hb2; cases hb2
        obtain ⟨zs, rest, rfl, hz, _⟩ := hor
        have hzs := strsOf_ok hs ((hz.drop off).take len)
        have hlt := (Array.getElem?_eq_some_iff.1 ho).1
        subst c1
        refine ⟨run_callFunc hf (by intro e; rw [e] at hb; cases hb) (by intro e; rw [e] at hn; simp at hn), ?_⟩
        refine (hj b.1 off cap l sep w (fun j x hx => ?_) hlt (by omega) c2 ob.2).mono fun e w' ⟨he, hB⟩ => ⟨hB, _, he, .same (SH.owe_same _ _) (VR.v_iff.2 rfl)⟩
        rw [cell_at ho]
        have hj1 := (List.getElem?_eq_some_iff.1 hx).1
        have : ((zs.drop off).take l.length)[j]? = some (.string x) := by rw [hzs, List.getElem?_map, hx]; rfl
        rw [List.getElem?_take, if_pos hj1, List.getElem?_drop] at this
        have hlen := (List.getElem?_eq_some_iff.1 this).1
        simp [List.getElem?_append_left hlen, this]
      · cases h
    · cases h
  · cases h
/-- Contracts of functions that only reckon, and strings.Join's. -/
theorem SumsOK.join {X : World → Prop} {l : List (FuncId × PS)} {J : FuncId} (hE : E.sums = fun f => bif Nat.beq f J then some joinSum else sumsOf l f) (hJ : JoinOK E.P J) (h : ∀ r ∈ l, PureOK E.P X r) (hX : ∀ ν s w, HR ν M w0 s w → GR ν E → X w) : SumsOK E M w0 := by
  intro f g hg args x s s' hx
  rw [hE] at hg
  cases hf : Nat.beq f J
  · rw [show ((fun f => bif Nat.beq f J then some joinSum else sumsOf l f) f) = sumsOf l f by show (bif Nat.beq f J then some joinSum else sumsOf l f) = _; rw [hf]; rfl] at hg
    have := SumsOK.of (E := { E with sums := sumsOf l }) (M := M) (w0 := w0) (X := X) rfl h (fun ν s w hr hgr => hX ν s w hr hgr) f g hg args x s s' hx
    exact this
  · have hfJ := Nat.eq_of_beq_eq_true hf
    subst hfJ
    rw [show ((fun f' => bif Nat.beq f' f then some joinSum else sumsOf l f') f) = some joinSum by show (bif Nat.beq f f then some joinSum else sumsOf l f) = _; rw [hf]; rfl] at hg
    cases hg
    exact joinSum_ok hJ hx
end
end Go.Rx
