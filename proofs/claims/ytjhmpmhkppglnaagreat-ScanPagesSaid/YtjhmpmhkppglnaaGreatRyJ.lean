/- The symbolic executor 'Rx', part YJ: one state instead of another; loops; contracts of functions that only reckon. By an AI agent. -/
import Derived.Test.YtjhmpmhkppglnaaGreatRyI
set_option linter.unusedVariables false
set_option linter.unusedSimpArgs false
namespace Go.Rx
open Go.RowKit (Below)

/-- Numbers of objects are told anew. -/
def Val.ren (ν : Val) (ren : List (Nat × Nat)) : Val := fun i => (ren.lookup i).bind ν

def aggOf : SV → Option (List SV)
  | .agg m => some m
  | .v (.agg cs) => some (cs.toList.map .v)
  | _ => none
def tupOf : SV → Option (List SV)
  | .tup m => some m
  | .v (.tuple cs) => some (cs.toList.map .v)
  | _ => none
def ifaceOf : SV → Option (TypeId × SV)
  | .iface u y => some (u, y)
  | .v (.iface u y) => some (u, .v y)
  | _ => none

theorem aggOf_ok {ν : Val} {b : SV} {m : List SV} {y : Value} (h : aggOf b = some m) (hv : VR ν b y) : ∃ a : List Value, y = .agg a.toArray ∧ VRL ν m a := by
  unfold aggOf at h
  split at h
  · cases h; exact VR.agg_iff.1 hv
  · rename_i cs
    cases h; rw [VR.v_iff.1 hv]; exact ⟨cs.toList, by simp, VRL.lits ν _⟩
  · cases h
theorem tupOf_ok {ν : Val} {b : SV} {m : List SV} {y : Value} (h : tupOf b = some m) (hv : VR ν b y) : ∃ a : List Value, y = .tuple a.toArray ∧ VRL ν m a := by
  unfold tupOf at h
  split at h
  · cases h; exact VR.tup_iff.1 hv
  · rename_i cs
    cases h; rw [VR.v_iff.1 hv]; exact ⟨cs.toList, by simp, VRL.lits ν _⟩
  · cases h
theorem ifaceOf_ok {ν : Val} {b : SV} {u : TypeId} {z : SV} {y : Value} (h : ifaceOf b = some (u, z)) (hv : VR ν b y) : ∃ v, y = .iface u v ∧ VR ν z v := by
  unfold ifaceOf at h
  split at h
  · cases h; exact VR.iface_iff.1 hv
  · cases h; exact ⟨_, VR.v_iff.1 hv, VR.v_iff.2 rfl⟩
  · cases h

mutual
/-- What is owed for the first to stand for whatever the second stands for. -/
def leV (ren : List (Nat × Nat)) : SV → SV → List Prop
  | .junk => fun _ => []
  | .v x => fun b => match plainV b with | some z => [z = x] | none => [False]
  | .ptr j o => fun b => match b with | .ptr i o' => bif ren.lookup j == some i then [o' = o] else [False] | _ => [False]
  | .sl j o l c => fun b => match b with | .sl i o' l' c' => bif ren.lookup j == some i then [o' = o ∧ l' = l ∧ c' = c] else [False] | _ => [False]
  | .map j => fun b => match b with | .map i => bif ren.lookup j == some i then [] else [False] | _ => [False]
  | .agg l => fun b => match aggOf b with | some m => leL ren l m | none => [False]
  | .tup l => fun b => match tupOf b with | some m => leL ren l m | none => [False]
  | .iface t x => fun b => match ifaceOf b with | some (u, y) => bif t == u then leV ren x y else [False] | none => [False]
  | .func fn p q => fun b => match b with | .func gn c d => (gn = fn) :: (leL ren p c ++ leL ren q d) | _ => [False]
  | .yield _ => fun _ => [False]
  | .fin j o l a => fun b => match b with | .fin i o' l' a' => bif ren.lookup j == some i then [o' = o ∧ l' = l ∧ a' = a] else [False] | _ => [False]
def leL (ren : List (Nat × Nat)) : List SV → List SV → List Prop
  | [] => fun m => match m with | [] => [] | _ => [False]
  | x :: xs => fun m => match m with | y :: ys => leV ren x y ++ leL ren xs ys | [] => [False]
end

theorem Owed.both : ∀ {l m : List Prop}, Owed l → Owed m → Owed (l ++ m)
  | [], _, _, k => k
  | _ :: _, _, h, k => ⟨Owed.both h.1 k, h.2⟩
theorem owed_app {l m : List Prop} : Owed (l ++ m) ↔ Owed l ∧ Owed m := ⟨Owed.append, fun ⟨h, k⟩ => h.both k⟩
theorem owed_one {p : Prop} : Owed [p] ↔ p := ⟨fun h => h.2, fun h => ⟨trivial, h⟩⟩
theorem owed_cons {p : Prop} {l : List Prop} : Owed (p :: l) ↔ Owed l ∧ p := Iff.rfl
theorem owed_false {q : Prop} (h : Owed [False]) : q := (owed_one.1 h).elim

theorem owed_bif {b : Bool} {l : List Prop} (h : Owed (bif b then l else [False])) : b = true ∧ Owed l := by
  cases b
  · exact owed_false h
  · exact ⟨rfl, h⟩

theorem ren_at {ν : Val} {ren : List (Nat × Nat)} {j i : Nat} (h : (ren.lookup j == some i) = true) {b : Nat × Nat} (hb : ν i = some b) : (ν.ren ren) j = some b := by
  unfold Val.ren
  rw [show ren.lookup j = some i by simpa using h]; exact hb

mutual
theorem leV_ok {ν : Val} {ren : List (Nat × Nat)} : ∀ {a b : SV} {y : Value}, Owed (leV ren a b) → VR ν b y → VR (ν.ren ren) a y
  | .junk, _, _, _, _ => by rw [VR]; trivial
  | .v x, b, y, h, hv => by
    rw [leV] at h
    dsimp only at h
    split at h
    · rename_i z hz
      rw [VR, plainV_ok hz hv]; exact owed_one.1 h
    · exact owed_false h
  | .ptr j o, b, y, h, hv => by
    rw [leV] at h
    dsimp only at h
    split at h
    · obtain ⟨h1, h2⟩ := owed_bif h
      obtain ⟨c, hc, rfl⟩ := VR.ptr_iff.1 hv
      obtain rfl := owed_one.1 h2
      exact VR.ptr_iff.2 ⟨c, ren_at h1 hc, rfl⟩
    · exact owed_false h
  | .sl j o l c, b, y, h, hv => by
    rw [leV] at h
    dsimp only at h
    split at h
    · obtain ⟨h1, h2⟩ := owed_bif h
      obtain ⟨d, hd, hl, rfl⟩ := VR.sl_iff.1 hv
      obtain ⟨rfl, rfl, rfl⟩ := owed_one.1 h2
      exact VR.sl_iff.2 ⟨d, ren_at h1 hd, hl, rfl⟩
    · exact owed_false h
  | .map j, b, y, h, hv => by
    rw [leV] at h
    dsimp only at h
    split at h
    · obtain ⟨h1, _⟩ := owed_bif h
      obtain ⟨d, hd, rfl⟩ := VR.map_iff.1 hv
      exact VR.map_iff.2 ⟨d, ren_at h1 hd, rfl⟩
    · exact owed_false h
  | .agg l, b, y, h, hv => by
    rw [leV] at h
    dsimp only at h
    split at h
    · rename_i m hm
      obtain ⟨a, rfl, ha⟩ := aggOf_ok hm hv
      exact VR.agg_iff.2 ⟨a, rfl, leL_ok h ha⟩
    · exact owed_false h
  | .tup l, b, y, h, hv => by
    rw [leV] at h
    dsimp only at h
    split at h
    · rename_i m hm
      obtain ⟨a, rfl, ha⟩ := tupOf_ok hm hv
      exact VR.tup_iff.2 ⟨a, rfl, leL_ok h ha⟩
    · exact owed_false h
  | .iface t x, b, y, h, hv => by
    rw [leV] at h
    dsimp only at h
    split at h
    · rename_i u z hz
      obtain ⟨h1, h2⟩ := owed_bif h
      obtain rfl : t = u := by simpa using h1
      obtain ⟨v, rfl, hv'⟩ := ifaceOf_ok hz hv
      exact VR.iface_iff.2 ⟨v, rfl, leV_ok h2 hv'⟩
    · exact owed_false h
  | .func fn p q, b, y, h, hv => by
    rw [leV] at h
    dsimp only at h
    split at h
    · obtain ⟨h1, h2⟩ := owed_cons.1 h
      obtain ⟨h3, h4⟩ := owed_app.1 h1
      obtain rfl := h2
      obtain ⟨a', b', rfl, ha, hb⟩ := VR.func_iff.1 hv
      exact VR.func_iff.2 ⟨a', b', rfl, leL_ok h3 ha, leL_ok h4 hb⟩
    · exact owed_false h
  | .yield _, b, y, h, hv => by rw [leV] at h; exact owed_false h
  | .fin j o l a, b, y, h, hv => by
    rw [leV] at h
    dsimp only at h
    split at h
    · obtain ⟨h1, h2⟩ := owed_bif h
      obtain ⟨d, hd, rfl⟩ := VR.fin_iff.1 hv
      obtain ⟨rfl, rfl, rfl⟩ := owed_one.1 h2
      exact VR.fin_iff.2 ⟨d, ren_at h1 hd, rfl⟩
    · exact owed_false h
theorem leL_ok {ν : Val} {ren : List (Nat × Nat)} : ∀ {l m : List SV} {ys : List Value}, Owed (leL ren l m) → VRL ν m ys → VRL (ν.ren ren) l ys
  | [], m, ys, h, hv => by
    rw [leL] at h
    dsimp only at h
    split at h
    · rw [hv.nil_inv]; exact VRL.nil
    · exact owed_false h
  | x :: xs, m, zs, h, hv => by
    rw [leL] at h
    dsimp only at h
    split at h
    · obtain ⟨h1, h2⟩ := owed_app.1 h
      obtain ⟨u, us, rfl, hu, hus⟩ := hv.cons_inv
      exact VRL.cons (leV_ok h1 hu) (leL_ok h2 hus)
    · exact owed_false h
end

/-! ### objects -/

/-- Values that name no object. -/
def closedSV : SV → Bool
  | .v _ | .junk => true
  | _ => false
theorem closed_VRL {ν ν' : Val} : ∀ {l : List SV} {ys : List Value}, l.all closedSV = true → VRL ν l ys → VRL ν' l ys
  | [], _, _, h => by rw [h.nil_inv]; exact VRL.nil
  | x :: xs, ys, hc, h => by
    obtain ⟨u, us, rfl, hu, hus⟩ := h.cons_inv
    simp only [List.all_cons, Bool.and_eq_true] at hc
    refine VRL.cons ?_ (closed_VRL hc.2 hus)
    cases x <;> first | (rw [VR]; trivial) | (rw [VR]; exact VR.v_iff.1 hu) | (cases hc.1)

def leRow (ren : List (Nat × Nat)) (eq : Bool) (xs ys : List SV) : List Prop := bif eq then [ys = xs, xs.all closedSV = true] else leL ren xs ys
theorem leRow_ok {ν : Val} {ren : List (Nat × Nat)} {eq : Bool} {xs ys : List SV} {zs : List Value} (h : Owed (leRow ren eq xs ys)) (hv : VRL ν ys zs) : VRL (ν.ren ren) xs zs := by
  unfold leRow at h
  cases eq
  · exact leL_ok h hv
  · obtain ⟨⟨_, h1⟩, h2⟩ := h
    subst h2
    exact closed_VRL h1 hv

def leEnts (ren : List (Nat × Nat)) : List (SV × SV × Nat) → List (SV × SV × Nat) → List Prop
  | [] => fun m => match m with | [] => [] | _ => [False]
  | x :: xs => fun m => match m with | y :: ys => (leV ren x.1 y.1 ++ leV ren x.2.1 y.2.1) ++ ((y.2.2 = x.2.2) :: leEnts ren xs ys) | [] => [False]
theorem leEnts_ok {ν : Val} {ren : List (Nat × Nat)} : ∀ {l m : List (SV × SV × Nat)} {ds : List MapEntry}, Owed (leEnts ren l m) → EntR ν m ds → EntR (ν.ren ren) l ds
  | [], m, ys, h, hv => by
    unfold leEnts at h
    cases m with
    | nil => exact hv
    | cons => exact owed_false h
  | x :: xs, m, zs, h, hv => by
    unfold leEnts at h
    cases m with
    | nil => exact owed_false h
    | cons y ys =>
      obtain ⟨h1, h2⟩ := owed_app.1 h
      obtain ⟨h3, h4⟩ := owed_app.1 h1
      obtain ⟨h5, h6⟩ := owed_cons.1 h2
      obtain ⟨u, us, rfl, hk, hu, hb, hus⟩ := hv
      exact ⟨u, us, rfl, leV_ok h3 hk, leV_ok h4 hu, h6 ▸ hb, leEnts_ok h5 hus⟩

def leO (ren : List (Nat × Nat)) (eq : Bool) : SO → SO → List Prop
  | .row xs e fz ext => fun o => match o with
    | .row ys e' fz' ext' => bif e == e' && fz == fz' && ext == ext' then leRow ren eq xs ys else [False]
    | _ => [False]
  | .look xs => fun o => match o with
    | .look ys => leRow ren eq xs ys
    | .row ys _ _ _ => leRow ren eq xs ys
    | _ => [False]
  | .map es c => fun o => match o with
    | .map es' c' => (c' = c) :: leEnts ren es es'
    | _ => [False]
  | .dfr none => fun o => match o with
    | .dfr none => []
    | _ => [False]
  | _ => fun _ => [False]

theorem ExtR.ren {ν : Val} {ren : List (Nat × Nat)} {j i n size : Nat} (h : (ren.lookup j == some i) = true) {e : Option Nat} (r : ExtR ν i n size e) : ExtR (ν.ren ren) j n size e := by
  cases e with
  | none => exact r
  | some e => obtain ⟨h1, b, hb, h2⟩ := r; exact ⟨h1, b, ren_at h hb, h2⟩

theorem leO_ok {ν : Val} {ren : List (Nat × Nat)} {eq : Bool} {j i : Nat} (hji : (ren.lookup j == some i) = true) {a b : SO} {o : Obj} (h : Owed (leO ren eq a b)) (hv : OR ν i b o) : OR (ν.ren ren) j a o := by
  unfold leO at h
  split at h
  · split at h
    · obtain ⟨h1, h2⟩ := owed_bif h
      rw [Bool.and_eq_true, Bool.and_eq_true] at h1
      obtain ⟨⟨h3, h4⟩, h5⟩ := h1
      have h3 := eq_of_beq h3
      have h4 := eq_of_beq h4
      have h5 := eq_of_beq h5
      subst h3 h4 h5
      obtain ⟨zs, rest, rfl, hz, hx⟩ := hv
      have hz' := leRow_ok h2 hz
      refine ⟨zs, rest, rfl, hz', ?_⟩
      rw [← hz'.length, hz.length]; exact hx.ren hji
    · exact owed_false h
  · split at h
    · obtain ⟨zs, c, e, fz, rfl, hz, hc⟩ := hv
      exact ⟨zs, c, e, fz, rfl, leRow_ok h hz, hc⟩
    · obtain ⟨zs, rest, rfl, hz, hx⟩ := hv
      exact ⟨zs, _, _, _, rfl, leRow_ok h hz, fun k y hy => by simpa using getElem?_append_left' hy⟩
    · exact owed_false h
  · split at h
    · obtain ⟨h1, h2⟩ := owed_cons.1 h
      obtain ⟨l, rfl, hl⟩ := hv
      subst h2
      exact ⟨l, rfl, leEnts_ok h1 hl⟩
    · exact owed_false h
  · split at h
    · exact hv
    · exact owed_false h
  · exact owed_false h

/-! ### states -/

/-- Nothing to be done names an object. -/
def plainTodo (l : List SI) : Bool := l.all fun x => match x with
  | .code _ | .inBlock _ | .inLoop _ | .inScope _ | .reg _ _ => true
  | _ => false

theorem plainTodo_ok {ν ν' : Val} {l : List SI} {ys : List Item} (hp : plainTodo l = true) (h : KsR ν l ys) : KsR ν' l ys := by
  induction h with
  | nil => exact .nil
  | cons hx hk ih =>
    simp only [plainTodo, List.all_cons, Bool.and_eq_true] at hp
    refine .cons ?_ (ih hp.2)
    cases hx <;> first | exact .code _ | exact .inBlock _ | exact .inLoop _ | exact .inScope _ | exact .reg _ _ | (cases hp.1)

def leTm (ren : List (Nat × Nat)) (a b : STm) : List Nat → List Prop
  | [] => []
  | t :: ts => leV ren (a.T.get t) (b.T.get t) ++ leTm ren a b ts

theorem leTm_ok {ν : Val} {ren : List (Nat × Nat)} {a b : STm} : ∀ {ts : List Nat}, Owed (leTm ren a b ts) → ∀ t ∈ ts, ∀ y, VR ν (b.T.get t) y → VR (ν.ren ren) (a.T.get t) y
  | [], _, _, ht => by cases ht
  | u :: ts, h, t, ht => by
    unfold leTm at h
    obtain ⟨h1, h2⟩ := owed_app.1 h
    rcases List.mem_cons.1 ht with rfl | ht
    · exact fun y hy => leV_ok h1 hy
    · exact leTm_ok h2 t ht

/-- Object by object. -/
def leMem (ren : List (Nat × Nat)) (eqs : List Nat) (T : SH) : Nat → List (Option (SO × Bool)) → List Prop
  | _, [] => []
  | j, none :: l => leMem ren eqs T (j + 1) l
  | j, some (o, m) :: l => (match ren.lookup j with
      | some i => match T.look i with
        | some (o', m') => bif m == m' then leO ren (eqs.contains j) o o' else [False]
        | none => [False]
      | none => [False]) ++ leMem ren eqs T (j + 1) l

theorem leMem_ok {ren : List (Nat × Nat)} {eqs : List Nat} {T : SH} : ∀ {l : List (Option (SO × Bool))} {j : Nat}, Owed (leMem ren eqs T j l) → ∀ k o m, l[k]? = some (some (o, m)) →
    ∃ i o', ren.lookup (j + k) = some i ∧ T.look i = some (o', m) ∧ Owed (leO ren (eqs.contains (j + k)) o o')
  | [], _, _, k, o, m, hk => by simp at hk
  | none :: l, j, h, k, o, m, hk => by
    unfold leMem at h
    cases k with
    | zero => simp at hk
    | succ k =>
      have := leMem_ok h k o m (by simpa using hk)
      rwa [show j + 1 + k = j + (k + 1) by omega] at this
  | some (o0, m0) :: l, j, h, k, o, m, hk => by
    unfold leMem at h
    obtain ⟨h1, h2⟩ := owed_app.1 h
    cases k with
    | zero =>
      simp only [List.getElem?_cons_zero, Option.some.injEq, Prod.mk.injEq] at hk
      obtain ⟨rfl, rfl⟩ := hk
      split at h1
      · rename_i i hi
        split at h1
        · rename_i o' m' hl
          obtain ⟨h3, h4⟩ := owed_bif h1
          obtain rfl : m0 = m' := by simpa using h3
          exact ⟨i, o', hi, hl, h4⟩
        · exact owed_false h1
      · exact owed_false h1
    | succ k =>
      have := leMem_ok h2 k o m (by simpa using hk)
      rwa [show j + 1 + k = j + (k + 1) by omega] at this

theorem fill_ok {α : Type} {d : Nat} : ∀ (l : List α) (i : Nat) (T : Tr α), Tr.Full d T → i + l.length ≤ 2 ^ d →
    Tr.Full d (Tr.fill T i l) ∧ ∀ t, t < 2 ^ d → (Tr.fill T i l).get t = if i ≤ t then (l[t - i]?).getD (T.get t) else T.get t
  | [], i, T, h, _ => ⟨h, fun t _ => by simp [Tr.fill]⟩
  | x :: xs, i, T, h, hl => by
    simp only [List.length_cons] at hl
    obtain ⟨h1, h2⟩ := fill_ok xs (i + 1) (T.set i x) (h.set _ _) (by omega)
    refine ⟨h1, fun t ht => ?_⟩
    rw [Tr.fill, h2 t ht, Tr.get_set h (by omega) ht]
    by_cases e1 : i + 1 ≤ t
    · rw [if_pos e1, if_neg (show ¬ t = i by omega), if_pos (show i ≤ t by omega)]
      have : t - i = (t - (i + 1)) + 1 := by omega
      rw [this, List.getElem?_cons_succ]
    · rw [if_neg e1]
      by_cases e2 : t = i
      · subst e2; simp
      · rw [if_neg e2, if_neg (show ¬ i ≤ t by omega)]

/-- A state of one frame, with these objects. -/
def SM.at (F : SF) (d : Nat) (l : List (Option (SO × Bool))) : SM := { top := F, callers := [], mem := memOf d l.length 0 l }

/-- What a frame is beside its temporaries and what is to be done. -/
def lone1 (F : SF) : Bool := !F.ret && F.ro.isNone && F.defers.isEmpty && (match F.kind with | .normal => true | _ => false)

/-- What is owed for a state to stand for whatever another one stands for. -/
def fits (E : Env) (ren : List (Nat × Nat)) (eqs : List Nat) (F : SF) (d : Nat) (l : List (Option (SO × Bool))) (T : SM) : List Prop :=
  bif Nat.beq F.fn T.top.fn && lone1 F && lone1 T.top && T.callers.isEmpty && plainTodo F.todo && Nat.beq F.tm.nt T.top.tm.nt && Tr.full F.tm.d F.tm.T && Nat.ble F.tm.nt (2 ^ F.tm.d) && Nat.ble l.length (2 ^ d)
      && ren.all (fun r => Nat.blt r.1 l.length) && decide ((ren.map (·.1)).Nodup ∧ (ren.map (·.2)).Nodup) && E.G.all (fun r => ren.lookup r.2 == some r.2) then
    leTm ren F.tm T.top.tm (List.range F.tm.nt) ++ leMem ren eqs T.mem 0 l
  else [False]

theorem lone1_ok {F : SF} (h : lone1 F = true) : F.ret = false ∧ F.ro = none ∧ F.defers = [] ∧ F.kind = .normal := by
  obtain ⟨fn, tm, todo, defers, ret, kind, ro⟩ := F
  unfold lone1 at h
  dsimp only at h
  rw [Bool.and_eq_true, Bool.and_eq_true, Bool.and_eq_true] at h
  obtain ⟨⟨⟨h1, h2⟩, h3⟩, h4⟩ := h
  refine ⟨by simpa using h1, by simpa using h2, by simpa using h3, ?_⟩
  cases kind <;> first | rfl | cases h4

theorem lookup_mem {ren : List (Nat × Nat)} {j i : Nat} (h : ren.lookup j = some i) : (j, i) ∈ ren := by
  induction ren with
  | nil => cases h
  | cons r l ih =>
    obtain ⟨g', k'⟩ := r
    rw [List.lookup_cons] at h
    split at h
    · rename_i e
      cases h
      have e : j = g' := by simpa using e
      rw [e]; exact List.mem_cons_self
    · exact List.mem_cons_of_mem _ (ih h)

theorem nodup_snd {ren : List (Nat × Nat)} (h : (ren.map (·.2)).Nodup) {a b i : Nat} (ha : (a, i) ∈ ren) (hb : (b, i) ∈ ren) : a = b := by
  obtain ⟨m, hm, e1⟩ := List.getElem_of_mem ha
  obtain ⟨n, hn, e2⟩ := List.getElem_of_mem hb
  have : m = n := (List.getElem_inj (h₀ := by simpa using hm) (h₁ := by simpa using hn) h).1 (by simp [e1, e2])
  subst this
  rw [e1] at e2; exact (Prod.mk.inj e2).1

section
variable {E : Env} {ν : Val} {M : Own} {w0 w : World} {s s' : SH} {cs0 : List Frame} {f : FuncId} {R : Ending → World → Prop}

theorem MR.fits {ren : List (Nat × Nat)} {eqs : List Nat} {F : SF} {d : Nat} {l : List (Option (SO × Bool))} {T : SM} {m : Machine} (hm : MR E M w0 cs0 ν T m) (h : Owed (Go.Rx.fits E ren eqs F d l T)) (htodo : T.top.todo = F.todo) :
    MR E M w0 cs0 (ν.ren ren) (SM.at F d l) m := by
  unfold Go.Rx.fits at h
  obtain ⟨hb, h⟩ := owed_bif h
  obtain ⟨h1, h2⟩ := owed_app.1 h
  simp only [Bool.and_eq_true] at hb
  obtain ⟨⟨⟨⟨⟨⟨⟨⟨⟨⟨⟨b1, b2⟩, b3⟩, b4⟩, b5⟩, b6⟩, b7⟩, b8⟩, b9⟩, b10⟩, b11⟩, b12⟩ := hb
  have b1 := Nat.eq_of_beq_eq_true b1
  have b6 := Nat.eq_of_beq_eq_true b6
  have b8 := Nat.le_of_ble_eq_true b8
  have b9 := Nat.le_of_ble_eq_true b9
  obtain ⟨hn1, hn2⟩ := of_decide_eq_true b11
  obtain ⟨r1, r2, r3, r4⟩ := lone1_ok b2
  obtain ⟨q1, q2, q3, q4⟩ := lone1_ok b3
  obtain ⟨fr, cs, w, hl, rfl, hr, hg, ⟨⟨g1, g2, g3, g4⟩, hrun, _⟩, hc⟩ := hm
  have hcal : T.callers = [] := List.isEmpty_iff.1 b4
  rw [hcal, q4] at hc
  obtain ⟨hmode, hR⟩ := hrun q1
  have hlk : ∀ j i, ren.lookup j = some i → j < l.length := fun j i h => blt_iff.1 (List.all_eq_true.1 b10 _ (lookup_mem h))
  rw [htodo] at hR
  have hpl : TmR ν T.top.tm fr.tmps ∧ KsR ν F.todo fr.todo := by
    revert hR b5
    generalize fr.todo = ys0
    generalize F.todo = xs
    intro b5 hR
    cases hR with
    | plain ht hk => exact ⟨ht, hk⟩
    | drw hok hn d st hk => simp [plainTodo] at b5
  obtain ⟨ht, hk⟩ := hpl
  have ht' : TmR (ν.ren ren) F.tm fr.tmps := by
    refine ⟨by rw [ht.size, b6], Tr.full_iff.1 b7, b8, fun t htt => ?_⟩
    exact leTm_ok h1 t (List.mem_range.2 htt) _ (ht.get t (by rw [← b6]; exact htt))
  have hgetl : ∀ i, i < 2 ^ d → (memOf d l.length 0 l).H.get i = (l[i]?).getD none := by
    intro i hi
    obtain ⟨_, hf⟩ := fill_ok l 0 (Tr.mk none d) (Tr.full_mk _ _) (by omega)
    have := hf i hi
    rw [if_pos (Nat.zero_le _), Tr.get_mk, Nat.sub_zero] at this
    exact this
  have hobj : ∀ i, i < 2 ^ d → ∀ x, (memOf d l.length 0 l).H.get i = some x → ∃ k o', ren.lookup i = some k ∧ T.mem.look k = some (o', x.2) ∧ Owed (leO ren (eqs.contains i) x.1 o') := by
    intro i hi x hx
    rw [hgetl i hi] at hx
    have hx' : l[i]? = some (some (x.1, x.2)) := by
      cases hli : l[i]? with
      | none => rw [hli] at hx; cases hx
      | some y => rw [hli] at hx; simp only [Option.getD_some] at hx; rw [hx]
    have := leMem_ok h2 i x.1 x.2 hx'
    simpa using this
  have hr' : HR (ν.ren ren) M w0 (memOf d l.length 0 l) w := by
    refine ⟨(fill_ok l 0 (Tr.mk none d) (Tr.full_mk _ _) (by omega)).1, fun i hi => ?_, fun i hi => ?_, fun i hi x hx => ?_, fun i j hi hj hgi hgj b c hb hc' e => ?_, hr.size, hr.frame, fun i hi x hx hf b hb => ?_, hr.os, hr.tape, hr.output⟩
    · have hi : 2 ^ d ≤ i := hi
      unfold Val.ren
      cases hlo : ren.lookup i with
      | none => rfl
      | some k => have := hlk _ _ hlo; omega
    · have hi : l.length ≤ i := hi
      unfold Val.ren
      cases hlo : ren.lookup i with
      | none => rfl
      | some k => have := hlk _ _ hlo; omega
    · obtain ⟨k, o', hlo, hl', ho⟩ := hobj i hi x hx
      obtain ⟨_, _, b, oo, hb, hoo, hor, hown⟩ := hr.look hl'
      have hji : (ren.lookup i == some k) = true := by rw [hlo]; simp
      exact ⟨b, oo, ren_at hji hb, hoo, leO_ok hji ho hor, hown⟩
    · have hx : ∀ u, u < 2 ^ d → (memOf d l.length 0 l).H.get u ≠ none → ∀ b, (ν.ren ren) u = some b → ∃ k, ren.lookup u = some k ∧ k < 2 ^ T.mem.d ∧ T.mem.H.get k ≠ none ∧ ν k = some b := by
        intro u hu hn b hb
        cases hxx : (memOf d l.length 0 l).H.get u with
        | none => exact absurd hxx hn
        | some x =>
          obtain ⟨k, o', hlo, hl', _⟩ := hobj u hu x hxx
          obtain ⟨k1, k2, _⟩ := hr.look hl'
          refine ⟨k, hlo, k1, by rw [k2]; simp, ?_⟩
          unfold Val.ren at hb
          rw [hlo] at hb; exact hb
      obtain ⟨k1, e1, l1, n1, v1⟩ := hx i hi hgi b hb
      obtain ⟨k2, e2, l2, n2, v2⟩ := hx j hj hgj c hc'
      have := hr.inj k1 k2 l1 l2 n1 n2 b c v1 v2 e
      subst this
      exact nodup_snd hn2 (lookup_mem e1) (lookup_mem e2)
    · obtain ⟨k, o', hlo, hl', _⟩ := hobj i hi x hx
      obtain ⟨k1, k2, _⟩ := hr.look hl'
      unfold Val.ren at hb
      rw [hlo] at hb
      rw [hf] at k2
      exact hr.ro k k1 _ k2 rfl b hb
  have hg' : GR (ν.ren ren) E := by
    intro g i h
    obtain ⟨c, hc'⟩ := hg g i h
    have := List.all_eq_true.1 b12 _ (lookup_mem h)
    exact ⟨c, ren_at this hc'⟩
  refine ⟨fr, cs, w, [], rfl, hr', hg', ⟨⟨by rw [g1, ← b1]; rfl, ?_, by rw [g3, q4]; exact r4.symm, ?_⟩, fun _ => ⟨hmode, .plain ht' (plainTodo_ok b5 hk)⟩, fun hcon => ?_⟩, ?_⟩
  · show DefsR _ F.defers _
    rw [r3]; rw [q3] at g2; exact g2
  · show RoR _ F.ro _
    rw [r2]; rw [q2] at g4; exact g4
  · have hcon : F.ret = true := hcon
    rw [r1] at hcon; cases hcon
  · show CallersR _ _ _ _ _ _ F.kind [] _
    rw [r4]
    cases hc with
    | nil _ => exact .nil List.nodup_nil

/-- One state instead of another. -/
theorem Goes.fits {ren : List (Nat × Nat)} {eqs : List Nat} {F : SF} {d : Nat} {l : List (Option (SO × Bool))} {T : SM} (h : Owed (Go.Rx.fits E ren eqs F d l T)) (htodo : T.top.todo = F.todo)
    (hν : ∀ i b, ν i = some b → ren.lookup i = some i) (hs : Goes E M w0 cs0 f R ν (SM.at F d l)) : Goes E M w0 cs0 f R ν T := by
  intro ν' m M1 w1 hle hB hm
  refine hs (ν'.ren ren) m M1 w1 (fun i b hb => ?_) hB (hm.fits h htodo)
  exact ren_at (by rw [hν i b hb]; simp) (hle i b hb)

/-! ### loops -/

/-- At a loop's head: so much is to be done behind it. -/
def atLoop (k : Nat) (S : SM) : Bool := S.callers.isEmpty && !S.top.ret && match S.top.todo with
  | .inLoop _ :: r => Nat.beq r.length k
  | .code (.loop _) :: r => Nat.beq r.length k
  | _ => false

/-- To a loop's head, and into it. -/
def goL (E : Env) (k n : Nat) (S : SM) : Option SM := match goS E (atLoop k) n S with
  | some T => match step1 E T with
    | some [U] => some U
    | _ => none
  | none => none

theorem Goes.goL (K : Facts E M w0) {k n : Nat} {S U : SM} {o : List (Nat × Ans)} (h : Go.Rx.goL E k n (S.with o) = some U) (ob : U.mem.ob) (hs : Goes E M w0 cs0 f R ν U) : Goes E M w0 cs0 f R ν S := by
  unfold Go.Rx.goL at h
  split at h
  · rename_i T hT
    split at h
    · rename_i V hV
      cases h
      have obT : T.mem.ob := (step1_mono hV).2 U List.mem_cons_self ob
      refine Goes.go K hT obT fun ν' m M1 w1 hle hB hm => ?_
      obtain ⟨S', hS', hS⟩ := step1_ok K hB hm hV
      obtain rfl := List.mem_singleton.1 hS'
      obtain ⟨_, ν2, m', M2, w2, hle2, hst, hB2, hMR⟩ := hS ob
      exact (hs ν2 m' M2 w2 (hle.trans hle2) hB2 hMR).steps hst
    · cases h
  · cases h
end
end Go.Rx
