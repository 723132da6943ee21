/- The symbolic executor 'Rx', part YG: a law's frame: its arguments opened, and read again behind the call. By an AI agent. -/
import Derived.Test.YtjhmpmhkppglnaaGreatRyF
import Derived.ProofKit
import Derived.OpenShut
import Derived.LaidMore
import Derived.LaidHandle
import Derived.Carry
set_option linter.unusedVariables false
set_option linter.unusedSimpArgs false
namespace Go.Rx
open Go.ChangeShapes Go.WideShapes Go.ChangeAt Go.RowKit

theorem and_intro {a b : Bool} (ha : a = true) (hb : b = true) : (a && b) = true := by rw [ha, hb]; rfl

section
variable {P : Program} {w : World} {r : Reach} {base : Nat} {u : TypeId} {v : Value}

theorem cell_int {k : IntKind} (hu : P.underlying u = some (.int k)) (h : Cell.okWide P w r base u v) : ∃ n, v = .int k n ∧ k.has n := by
  simp only [Cell.okWide, hu] at h
  cases v <;> simp_all [Cell.ok]
theorem cell_string (hu : P.underlying u = some .string) (h : Cell.okWide P w r base u v) : ∃ s, v = .string s := by
  simp only [Cell.okWide, hu] at h
  cases v <;> simp_all [Cell.ok]
theorem cell_bool (hu : P.underlying u = some .bool) (h : Cell.okWide P w r base u v) : ∃ b, v = .bool b := by
  simp only [Cell.okWide, hu] at h
  cases v <;> simp_all [Cell.ok]
theorem cell_slice {e : TypeId} (hu : P.underlying u = some (.slice e)) (h : Cell.okWide P w r base u v) : ∃ a l c, v = .slice a l c ∧ l ≤ c ∧ (c : Int) ≤ IntKind.i64.max := by
  simp only [Cell.okWide, hu] at h
  cases v with
  | slice a l c =>
    cases a with
    | none =>
      rcases l with _ | l <;> rcases c with _ | c <;> first | (exact ⟨none, 0, 0, rfl, Nat.le_refl _, by decide⟩) | (simp [Cell.ok, hu] at h)
    | some a => exact ⟨some a, l, c, rfl, by simp_all [Cell.ok], by simp_all [Cell.ok]⟩
  | _ => simp_all [Cell.ok]

def CellsOK (P : Program) (w : World) (r : Reach) (base : Nat) : List TypeId → List Value → Prop
  | [], vs => vs = []
  | u :: us, vs => ∃ v rest, vs = v :: rest ∧ Cell.okWide P w r base u v ∧ CellsOK P w r base us rest

theorem cellsOK_of : ∀ (ts : List TypeId) (cs : List Value), cs.length = ts.length → (∀ (i : Nat) u v, ts[i]? = some u → cs[i]? = some v → Cell.okWide P w r base u v) → CellsOK P w r base ts cs
  | [], cs, hl, _ => List.length_eq_zero_iff.1 hl
  | u :: us, cs, hl, h => by
    match cs, hl with
    | c :: cs, hl => exact ⟨c, cs, rfl, h 0 u c rfl rfl, cellsOK_of us cs (by simpa using hl) fun i u v hu hv => h (i + 1) u v (by simpa using hu) (by simpa using hv)⟩

theorem okWide_cells {t : TypeId} {fs : Array Field} {ts : List TypeId} (ht : P.underlying t = some (.struct fs)) (hts : P.cellTypes P.depth t = some ts) (hn : P.cellsOf t = ts.length) (h : Value.okWide P w r base t v) :
    ∃ cs : List Value, v = .agg cs.toArray ∧ CellsOK P w r base ts cs := by
  simp only [Value.okWide, ht] at h
  obtain ⟨cs, rfl, hsz, ts', hts', _, hc⟩ := h
  rw [hts] at hts'; cases hts'
  refine ⟨cs.toList, by simp, cellsOK_of ts cs.toList (by simpa using hsz.trans hn) fun i u v hu hv => ?_⟩
  have hlt : i < ts.length := (List.getElem?_eq_some_iff.1 hu).1
  obtain ⟨u', hu', hok⟩ := hc i v (by simpa using hv)
  rw [Nat.mod_eq_of_lt hlt, hu] at hu'; cases hu'
  exact hok
end

section
variable {H : Type} {enc : TypeId × Value → H} {P : Program} {W W' : World}

/-- All arguments read behind the call as they did before. -/
theorem trodAll_below (hl : laidOutB P = true) (hb : Below W.heap.size W W') : ∀ {ts : List TypeId} {vs : List Value} {ds : List (DataW H)} {ps : List MemPlace}, DataW.TrodAll enc P W 0 (fun _ => true) true ts vs ds ps →
    (ts.all fun t => P.readableRec t && decide (t < P.types.size)) = true → (∀ x ∈ ps, x.block < W.heap.size) → DataW.TrodAll enc P W' 0 (fun b => decide (b < W.heap.size)) true ts vs ds ps
  | [], vs, ds, ps, h, _, _ => by
    obtain ⟨rfl, rfl, rfl⟩ := trodAll_nil h
    exact trodAll_mk0
  | t :: ts, vs, ds, ps, h, hk, hlt => by
    obtain ⟨v, vs', d, ds', p, p', rfl, rfl, rfl, h0, r0⟩ := trodAll_cons h
    rw [List.all_cons, Bool.and_eq_true, Bool.and_eq_true] at hk
    exact trodAll_cons_mk (Below.trod hl hk.1.1 (of_decide_eq_true hk.1.2) h0 hb fun x hx => hlt x (List.mem_append_left _ hx)) (trodAll_below hl hb r0 hk.2 fun x hx => hlt x (List.mem_append_right _ hx))
end

/-- What the condition on a type's handle gives: the variable's one cell. -/
theorem told_handle {P : Program} {W : World} {l : List (String × DataW Unit)} (h : handlesMet P l W) {v : String} {d : DataW Unit} {name : List UInt8} (hm : (v, d) ∈ l) (hf : d.funcsIn?.isNone = true) (hn : d.handleName? = some name)
    {g : Nat} (hg : P.globalNamed v = some g) {u ty : TypeId} {hd : Value} (hu : (P.cutTypes.find? (·.1 == "internal/reflectlite.rtype")).map (·.2) = some u)
    (hrow : ((List.range P.types.size).filter fun t => P.rowNamed t name) = [ty]) (hh : typeHandle P ty = hd) : Told W (g, [.iface u (.v (.agg #[hd]))]) := by
  have h1 := h _ hm
  dsimp only at h1
  split at h1
  · rename_i f e; rw [e] at hf; cases hf
  · obtain ⟨name', u', ty', e1, e2, e3, e4, e5⟩ := h1
    rw [hn] at e1; cases e1
    rw [hu] at e2; cases e2
    have hm2 : ty' ∈ (List.range P.types.size).filter fun t => P.rowNamed t name := List.mem_filter.2 ⟨List.mem_range.2 e3, e4⟩
    rw [hrow] at hm2
    obtain rfl := List.mem_singleton.1 hm2
    simp only [World.var?, hg, Option.bind_some] at e5
    split at e5
    · rename_i cs e fz hheap
      cases e5
      refine ⟨[.iface u (.agg #[hd])], _, e, fz, hheap, fun ν => VRL.cons (VR.iface_iff.2 ⟨_, rfl, VR.v_iff.2 rfl⟩) VRL.nil, fun k y hk => ?_⟩
      rw [hh]
      match k, hk with
      | 0, hk => simpa using hk
    · cases e5

/-- The handles' part of the condition. -/
theorem laidMetH_handles {P : Program} {l : List (String × DataW Unit)} {w : World} (h : laidMetH P l w) : handlesMet P (l.filter fun x => x.2.handleName?.isSome) w := by
  unfold laidMetH at h
  split at h
  · rename_i e; rw [e]; intro x hx; cases hx
  · rename_i h0 hs e; rw [e]; exact h.2

theorem laidVars_mem {P : Program} {w : World} {n : String} {d : DataW Unit} : ∀ {l : List (String × DataW Unit)} {ps : List MemPlace}, DataW.LaidVars P w l ps → (n, d) ∈ l →
    ∃ g t cs fuel p, P.globalNamed n = some g ∧ (P.globals[g]?).map (·.type) = some t ∧ w.var? P n = some cs ∧ DataW.trod (fun _ => ()) P w 0 (fun _ => true) false fuel t cs.toList = some (d, p)
  | [], _, _, h => by cases h
  | (n', d') :: l, ps, hl, h => by
    obtain ⟨g, t, cs, fuel, p, q, h1, h2, h3, h4, h5, _⟩ := hl
    rcases List.mem_cons.1 h with e | h
    · cases e; exact ⟨g, t, cs, fuel, p, h1, h2, h3, h4⟩
    · exact laidVars_mem h5 h

theorem laidMetH_plain' {P : Program} {l : List (String × DataW Unit)} {w : World} (h : laidMetH P l w) : laidMet P (l.filter fun x => x.2.handleName?.isNone) w := by
  unfold laidMetH at h
  split at h
  · rename_i e
    have : (l.filter fun x => x.2.handleName?.isNone) = l := by
      refine List.filter_eq_self.2 fun x hx => ?_
      cases hn : x.2.handleName? with
      | none => rfl
      | some s =>
        have hm : x ∈ l.filter fun x => x.2.handleName?.isSome := List.mem_filter.2 ⟨hx, by rw [hn]; rfl⟩
        rw [e] at hm; cases hm
    rw [this]; exact h
  · exact h.1

/-- What the condition gives of a table of integers. -/
theorem told_ints {P : Program} {W : World} {l : List (String × DataW Unit)} (h : laidMetH P l W) {v : String} {k : IntKind} {zs : List Int} (hm : (v, (DataW.agg (zs.map fun n => .lit (.int k n)) : DataW Unit)) ∈ l.filter fun x => x.2.handleName?.isNone)
    {g : Nat} (hg : P.globalNamed v = some g) {t e : TypeId} (ht : (P.globals[g]?).map (·.type) = some t) {len : Nat} (hu : P.underlying t = some (.array len e)) (he : P.underlying e = some (.int k)) (hc : P.cellsOf e = 1) (hlen : zs.length = len) :
    Told W (g, zs.map fun n => .v (.int k n)) := by
  obtain ⟨ps, hl, _, _⟩ := laidMetH_plain' h
  obtain ⟨g', t', cs, fuel, p, h1, h2, h3, hd⟩ := laidVars_mem hl hm
  rw [hg] at h1; cases h1
  rw [ht] at h2; cases h2
  obtain ⟨xs, m, _, ex, _, hl2, hel⟩ := DataW.trod_array hu hd
  have hvar := h3
  simp only [World.var?, hg, Option.bind_some] at h3
  split at h3
  · rename_i cs' ty fz hheap
    cases h3
    refine ⟨zs.map fun n => .int k n, cs, ty, fz, hheap, fun ν => ?_, fun r y hy => ?_⟩
    · have := VRL.lits ν (zs.map fun n => Value.int k n)
      rw [List.map_map] at this; exact this
    · obtain ⟨hr, rfl⟩ := List.getElem?_eq_some_iff.1 hy
      have hr' : r < zs.length := by simpa using hr
      have hE := hel r (by omega)
      rw [hc, Nat.mul_one, List.getElem?_eq_getElem (by omega)] at hE
      obtain ⟨z, e1, e2, _⟩ := DataW.trod_int he hE
      have e3 : (xs.map (·.1)) = zs.map fun n => .lit (.int k n) := (DataW.agg.inj (Prod.mk.inj ex).1).symm
      have e4 : (xs.map (·.1))[r]? = (zs.map fun n => (DataW.lit (.int k n) : DataW Unit))[r]? := by rw [e3]
      rw [List.getElem?_map, List.getElem?_map, List.getElem?_eq_getElem (by omega : r < xs.length), List.getElem?_eq_getElem hr', e2] at e4
      have hz : z = zs[r] := by simpa using e4
      have h0 : ((cs.toList.drop r).take 1)[0]? = some (.int k z) := by rw [e1]; rfl
      rw [hz] at h0
      simpa using h0
  · cases h3

end Go.Rx
