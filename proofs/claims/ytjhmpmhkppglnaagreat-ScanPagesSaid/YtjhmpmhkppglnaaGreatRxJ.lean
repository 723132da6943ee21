/- The symbolic executor 'Rx', part J: slice literals, append, copy. By an AI agent. -/
import Derived.Test.YtjhmpmhkppglnaaGreatRxI
import Derived.IntWalk
set_option linter.unusedVariables false
set_option linter.unusedSimpArgs false
namespace Go.Rx
section
variable {ν : Val} {M : Own} {w0 w : World} {s s' : SH} {E : Env}

theorem array_range_map (n : Nat) (f : Nat → Value) : (Array.range n).map f = ((List.range n).map f).toArray := by
  rw [← List.toArray_range, List.map_toArray]

theorem sBuildSlice_ok {t : TypeId} {len : Nat} {ps : List (Nat × SV)} {pv : List (Nat × Value)} {y : SV} (h : sBuildSlice E t len ps s = some (y, s')) (hr : HR ν M w0 s w) (hp : PartsR ν ps pv) :
    (s'.ob = s.ob) ∧ GoodV E.P (Instr.buildSlice t len pv.toArray) ν M w0 w y s' := by
  unfold sBuildSlice at h
  split at h
  · rename_i elem hd
    cases hi : tinfo E elem with
    | none => rw [hi] at h; cases h
    | some info =>
    rw [hi] at h
    simp only [Option.bind_eq_bind, Option.bind_some] at h
    cases hg : guard' (Nat.ble (len * info.size) 16777216) with
    | none => rw [hg] at h; cases h
    | some u =>
    rw [hg] at h
    simp only [Option.bind_some] at h
    have hg := Nat.le_of_ble_eq_true (guard_ok hg)
    cases hz : zeros info len with
    | none => rw [hz] at h; cases h
    | some zs =>
    rw [hz] at h
    simp only [Option.bind_some] at h
    obtain ⟨z, hz0, hzs, hvr⟩ := zeros_ok (ν := ν) hz
    cases hf : fillS (fun i => some (i * info.size, info.size)) zs ps with
    | none => rw [hf] at h; cases h
    | some l =>
    rw [hf] at h
    simp only [Option.bind_some] at h
    obtain ⟨ys, hfill, hlv⟩ := fillS_ok hp hf hvr
    cases hn : sNew (.row l elem (0, 0) none) s with
    | none => rw [hn] at h; cases h
    | some p =>
    obtain ⟨i, s1⟩ := p
    rw [hn] at h; cases h
    obtain ⟨hob, ν', hle, hi', hr'⟩ := sNew_ok hn hr 0 (r := .cells ys.toArray elem)
      (fun ν' hle _ => ⟨ys, [], by rw [fzReal_zero, List.append_nil], hlv.mono hle, by simp only [ExtR, List.append_nil]; exact hlv.length⟩)
    refine ⟨hob, ν', _, _, hle, ?_, VR.sl_iff.2 ⟨_, hi', by simp, rfl⟩, hr'⟩
    simp only [Instr.buildSlice, Sem.run_bind, run_underlying hd, Result.andThen_ok, run_sizeOf hi]
    rw [if_neg (by omega)]
    by_cases hn0 : len * info.size = 0
    · simp only [hn0, if_true, Sem.run_bind, Sem.run_pure, Result.andThen_ok, array_range_map, List.range_zero, List.map_nil] at hfill ⊢
      rw [hfill]
      simp [newRow]
    · simp only [if_neg hn0, Sem.run_bind, run_zeroValue hi hz0, Result.andThen_ok, Sem.run_pure, array_range_map]
      rw [hfill]
      simp [newRow]
  · cases h

theorem sLen_ok {x : SV} {n : Nat} {y : Value} (h : sLen x = some n) (hv : VR ν x y) : (Builtin.lenOf y).run E.P w = .ok n w := by
  unfold sLen at h
  split at h
  · cases h; obtain rfl := VR.v_iff.1 hv; rfl
  · cases h; obtain rfl := VR.v_iff.1 hv; rfl
  · cases h; obtain ⟨b, _, _, rfl⟩ := VR.sl_iff.1 hv; rfl
  · cases h; obtain ⟨b, _, rfl⟩ := VR.fin_iff.1 hv; rfl
  · cases h

theorem sFirst_ok {size n : Nat} {x : SV} {l : List SV} {y : Value} (h : sFirst size n x s = some l) (hr : HR ν M w0 s w) (hv : VR ν x y) :
    ∃ ys : List Value, (Builtin.firstCells size n y).run E.P w = .ok ys.toArray w ∧ VRL ν l ys := by
  unfold sFirst at h
  split at h
  · cases h; obtain rfl := VR.v_iff.1 hv; exact ⟨[], rfl, VRL.nil⟩
  · rename_i b
    cases h; obtain rfl := VR.v_iff.1 hv
    refine ⟨(b.extract 0 n).data.toList.map fun c => .int .u8 c.toNat, ?_, ?_⟩
    · simp only [Builtin.firstCells, Sem.run_pure]
      congr 1
      apply Array.ext'
      simp
    · have := VRL.lits ν ((b.extract 0 n).data.toList.map fun c => Value.int .u8 c.toNat)
      rwa [List.map_map] at this
  · obtain ⟨b, _, rfl⟩ := VR.fin_iff.1 hv
    cases hn : (n == 0)
    · rw [hn] at h; cases h
    · rw [hn] at h; cases h
      obtain rfl : n = 0 := by simpa using hn
      refine ⟨[], ?_, VRL.nil⟩
      simp [Builtin.firstCells, loadCells, loadCellsFrom]
  · rename_i i off len cap
    obtain ⟨b, hb, _, rfl⟩ := VR.sl_iff.1 hv
    split at h
    · rename_i xs e fz ext own hl
      cases hle : Nat.ble (off + n * size) xs.length
      · rw [hle] at h; cases h
      · rw [hle] at h; cases h
        have hle := Nat.le_of_ble_eq_true hle
        obtain ⟨_, _, b', o, hb', ho, hor, _⟩ := hr.look hl
        rw [hb] at hb'; cases hb'
        obtain ⟨ys, rest, rfl, hvl, _⟩ := hor
        have hlen := hvl.length
        refine ⟨(ys.drop off).take (n * size), ?_, (hvl.drop off).take _⟩
        refine run_loadCells ?_ (by simp; omega)
        intro k hk
        rw [cell_at ho, List.getElem?_take, if_pos hk, List.getElem?_drop]
        have : off + k < ys.length := by omega
        simp [List.getElem?_append_left this]
    · cases h
  · cases h

theorem growBy_le (newLen : Nat) : ∀ (r c : Nat), c ≤ newLen + (newLen + 768) / 4 → Builtin.growBy newLen r c ≤ newLen + (newLen + 768) / 4
  | 0, c, h => h
  | r + 1, c, h => by
    unfold Builtin.growBy
    split
    · exact h
    · exact growBy_le newLen r _ (by omega)

theorem nextslicecap_le {need cap : Nat} (h : cap < need) : Builtin.nextslicecap need cap ≤ 2 * need + 1024 := by
  unfold Builtin.nextslicecap
  split
  · omega
  · split
    · omega
    · exact Nat.le_trans (growBy_le _ _ _ (by omega)) (by omega)

theorem zeroCells_length (z : Array Value) (n : Nat) : (Builtin.zeroCells z n).size = n * z.size := by simp [Builtin.zeroCells]

/-- The model's append: there is room. -/
theorem run_append_room {st xt elem : TypeId} {d : TypeDesc} {info : TypeInfo} {base : Option Addr} {len cap n : Nat} {yv : Value} {new : List Value} {w' : World} {ty : TypeId}
    (hst : tdesc E st = some (.slice elem)) (hxt : tdesc E xt = some d) (hd : ∀ k, d ≠ .int k) (hi : tinfo E elem = some info)
    (hn : (Builtin.lenOf yv).run E.P w = .ok n w) (hnew : (Builtin.firstCells info.size n yv).run E.P w = .ok new.toArray w)
    (hroom : len + n ≤ cap) (hs : match base with | some a => (storeCells (a.add (len * info.size)) new).run E.P w = .ok () w' | none => w' = w) :
    (Builtin.append_ #[st, xt] ty #[.slice base len cap, yv]).run E.P w = .ok (.slice base (len + n) cap) w' := by
  have a0 : (#[st, xt] : Array TypeId)[0]? = some st := rfl
  have a1 : (#[st, xt] : Array TypeId)[1]? = some xt := rfl
  have b0 : (#[.slice base len cap, yv] : Array Value)[0]? = some (.slice base len cap) := rfl
  have b1 : (#[.slice base len cap, yv] : Array Value)[1]? = some yv := rfl
  have hz : (match d with | .int _ => true | _ => false) = false := by cases d <;> first | rfl | exact absurd rfl (hd _)
  simp only [Builtin.append_, a0, a1, b0, b1, Sem.run_bind, run_underlying hst, run_underlying hxt, Result.andThen_ok, run_sizeOf hi, Sem.run_pure]
  simp only [Bool.false_eq_true, if_false, Sem.run_bind, hn, Result.andThen_ok, Bool.not_false, if_true, if_pos hroom, hnew]
  cases base with
  | none => simp only at hs; rw [hs]; rfl
  | some a => simp only at hs; simp only [Sem.run_bind, List.toList_toArray, hs, Result.andThen_ok, Sem.run_pure]

/-- The model's append: there is none: a new row. -/
theorem run_append_grow {st xt elem : TypeId} {d : TypeDesc} {info : TypeInfo} {base : Option Addr} {len cap n : Nat} {yv z : Value} {old new : List Value} {ty : TypeId}
    (hst : tdesc E st = some (.slice elem)) (hxt : tdesc E xt = some d) (hd : ∀ k, d ≠ .int k) (hi : tinfo E elem = some info) (hz : info.zero = some z) (hzs : z.cells.size = info.size) (hb0 : info.bytes ≠ 0)
    (hn : (Builtin.lenOf yv).run E.P w = .ok n w) (hnew : ∀ k, (Builtin.firstCells info.size n yv).run E.P { w with drawn := k } = .ok new.toArray { w with drawn := k })
    (hold : ∀ k, (Builtin.firstCells info.size len (.slice base len cap)).run E.P { w with drawn := k } = .ok old.toArray { w with drawn := k })
    (hroom : cap < len + n) (hlim : (2 * (len + n) + 1024) * info.bytes ≤ 2 ^ 47) :
    ∃ newCap k, len + n ≤ newCap ∧ ∃ rest : List Value, rest.length = (newCap - (len + n)) * info.size ∧
      (Builtin.append_ #[st, xt] ty #[.slice base len cap, yv]).run E.P w = .ok (.slice (some ⟨w.heap.size, 0, none⟩) (len + n) newCap) { w with drawn := k, heap := w.heap.push (.cells (old ++ new ++ rest).toArray elem) } := by
  have a0 : (#[st, xt] : Array TypeId)[0]? = some st := rfl
  have a1 : (#[st, xt] : Array TypeId)[1]? = some xt := rfl
  have b0 : (#[.slice base len cap, yv] : Array Value)[0]? = some (.slice base len cap) := rfl
  have b1 : (#[.slice base len cap, yv] : Array Value)[1]? = some yv := rfl
  have hzd : (match d with | .int _ => true | _ => false) = false := by cases d <;> first | rfl | exact absurd rfl (hd _)
  have hnr : ¬ (len + n ≤ cap) := by omega
  have hnc : ¬ (Builtin.nextslicecap (len + n) cap * info.bytes > 2 ^ 48) := by
    have h1 := nextslicecap_le hroom
    have h2 := Nat.mul_le_mul_right info.bytes h1
    omega
  have hq : (Question.appendCap (len + n) cap elem).forced = false := rfl
  refine ⟨(Question.appendCap (len + n) cap elem).cut (w.tape w.drawn (.appendCap (len + n) cap elem)), w.drawn + 1, by simp [Question.cut], ?_⟩
  generalize hc : (Question.appendCap (len + n) cap elem).cut (w.tape w.drawn (.appendCap (len + n) cap elem)) = newCap
  refine ⟨(Builtin.zeroCells z.cells (newCap - (len + n))).toList, by simp [zeroCells_length, hzs], ?_⟩
  simp only [Builtin.append_, a0, a1, b0, b1, Sem.run_bind, run_underlying hst, run_underlying hxt, Result.andThen_ok, run_sizeOf hi, Sem.run_pure]
  simp only [Bool.false_eq_true, if_false, Sem.run_bind, hn, Result.andThen_ok, Bool.not_false, if_true, if_neg hnr, run_typeInfo hi, hb0, false_or, and_false, if_neg hnc, run_choose, hq, hc, run_askRoom, hold, hnew,
    run_zeroValue hi hz, newRow, run_newObj, Sem.run_pure]
  have e : old.toArray ++ new.toArray ++ Builtin.zeroCells z.cells (newCap - (len + n)) = (old ++ new ++ (Builtin.zeroCells z.cells (newCap - (len + n))).toList).toArray := by
    apply Array.ext'; simp
  rw [e]

/-- What is known of the appending of n elements whose cells are 'new'. -/
structure AppTo (E : Env) (st xt elem : TypeId) (info : TypeInfo) (n : Nat) (yv : Value) (new : List Value) (w : World) : Prop where
  room : ∀ {base : Option Addr} {len cap : Nat} {w' : World} {ty : TypeId}, len + n ≤ cap → (match base with | some a => (storeCells (a.add (len * info.size)) new).run E.P w = .ok () w' | none => w' = w) →
    (Builtin.append_ #[st, xt] ty #[.slice base len cap, yv]).run E.P w = .ok (.slice base (len + n) cap) w'
  grow : ∀ {base : Option Addr} {len cap : Nat} {z : Value} {old : List Value} {ty : TypeId}, info.zero = some z → z.cells.size = info.size → info.bytes ≠ 0 →
    (∀ k, (Builtin.firstCells info.size len (.slice base len cap)).run E.P { w with drawn := k } = .ok old.toArray { w with drawn := k }) → cap < len + n → (2 * (len + n) + 1024) * info.bytes ≤ 2 ^ 47 →
    ∃ newCap k, len + n ≤ newCap ∧ ∃ rest : List Value, rest.length = (newCap - (len + n)) * info.size ∧
      (Builtin.append_ #[st, xt] ty #[.slice base len cap, yv]).run E.P w = .ok (.slice (some ⟨w.heap.size, 0, none⟩) (len + n) newCap) { w with drawn := k, heap := w.heap.push (.cells (old ++ new ++ rest).toArray elem) }

theorem AppTo.of {st xt elem : TypeId} {d : TypeDesc} {info : TypeInfo} {n : Nat} {yv : Value} {new : List Value} (hst : tdesc E st = some (.slice elem)) (hxt : tdesc E xt = some d) (hd : ∀ k, d ≠ .int k) (hi : tinfo E elem = some info)
    (hn : (Builtin.lenOf yv).run E.P w = .ok n w) (hnew : ∀ k, (Builtin.firstCells info.size n yv).run E.P { w with drawn := k } = .ok new.toArray { w with drawn := k }) : AppTo E st xt elem info n yv new w :=
  ⟨fun h1 h2 => run_append_room hst hxt hd hi hn (hnew w.drawn) h1 h2, fun h1 h2 h3 h4 h5 h6 => run_append_grow hst hxt hd hi h1 h2 h3 hn hnew h4 h5 h6⟩

theorem AppTo.zeros {st xt elem : TypeId} {ik k : IntKind} {info : TypeInfo} {z : Value} {m : Int} (hst : tdesc E st = some (.slice elem)) (hxt : tdesc E xt = some (.int ik)) (hi : tinfo E elem = some info)
    (hz : info.zero = some z) (hzs : z.cells.size = info.size) (hm : 0 ≤ m ∧ m ≤ 2 ^ 40) (hb : m.toNat * info.bytes ≤ 2 ^ 47) : AppTo E st xt elem info m.toNat (.int k m) ((List.range (m.toNat * z.cells.size)).map fun i => z.cells[i % z.cells.size]!) w := by
  have hm2 : m ≤ 1099511627776 := hm.2
  have hw : IntKind.i64.wrap m = m := by rw [IntKind.wrap_i64]; omega
  have hneg : ¬ m < 0 := by omega
  have hbig : ¬ (m * (info.bytes : Int) > 2 ^ 48) := by
    have hb' : m.toNat * info.bytes ≤ 140737488355328 := hb
    have e : m * (info.bytes : Int) = ((m.toNat * info.bytes : Nat) : Int) := by rw [Int.natCast_mul, Int.toNat_of_nonneg hm.1]
    rw [e]
    show ¬ (281474976710656 : Int) < _
    omega
  have hzc : Builtin.zeroCells z.cells m.toNat = ((List.range (m.toNat * z.cells.size)).map fun i => z.cells[i % z.cells.size]!).toArray := array_range_map _ _
  have a0 : (#[st, xt] : Array TypeId)[0]? = some st := rfl
  have a1 : (#[st, xt] : Array TypeId)[1]? = some xt := rfl
  have happ : ∀ w : World, (if m.toNat * info.size = 0 then (pure #[] : Sem (Array Value)) else do pure (Builtin.zeroCells (← zeroValue elem).cells m.toNat)).run E.P w = .ok ((List.range (m.toNat * z.cells.size)).map fun i => z.cells[i % z.cells.size]!).toArray w := by
    intro w
    by_cases h0 : m.toNat * info.size = 0
    · rw [if_pos h0, hzs, h0]; rfl
    · rw [if_neg h0]
      simp only [Sem.run_bind, run_zeroValue hi hz, Result.andThen_ok, Sem.run_pure, hzc]
  constructor
  · intro base len cap w' ty hroom hs
    have b0 : (#[.slice base len cap, .int k m] : Array Value)[0]? = some (.slice base len cap) := rfl
    have b1 : (#[.slice base len cap, .int k m] : Array Value)[1]? = some (.int k m) := rfl
    simp only [Builtin.append_, a0, a1, b0, b1, Sem.run_bind, run_underlying hst, run_underlying hxt, Result.andThen_ok, run_sizeOf hi, Sem.run_pure]
    simp only [if_true, asInt, asIntOf, Sem.run_bind, Sem.run_pure, Result.andThen_ok, hw, if_neg hneg, run_typeInfo hi, if_neg hbig, Bool.not_true, Bool.false_eq_true, if_false, if_pos hroom, happ]
    cases base with
    | none => simp only at hs; rw [hs]; rfl
    | some a => simp only at hs; simp only [Sem.run_bind, List.toList_toArray, hs, Result.andThen_ok, Sem.run_pure]
  · intro base len cap z' old ty hz' _ hb0 hold hroom hlim
    rw [hz] at hz'; cases hz'
    have b0 : (#[.slice base len cap, .int k m] : Array Value)[0]? = some (.slice base len cap) := rfl
    have b1 : (#[.slice base len cap, .int k m] : Array Value)[1]? = some (.int k m) := rfl
    have hnr : ¬ (len + m.toNat ≤ cap) := by omega
    have hnc : ¬ (Builtin.nextslicecap (len + m.toNat) cap * info.bytes > 2 ^ 48) := by
      have h1 := nextslicecap_le hroom
      have h2 := Nat.mul_le_mul_right info.bytes h1
      omega
    have hmax : ¬ (((len + m.toNat : Nat) : Int) > IntKind.i64.max ∧ (True ∨ info.bytes = 0)) := by
      have h1 : (2 * (len + m.toNat) + 1024) * 1 ≤ (2 * (len + m.toNat) + 1024) * info.bytes := Nat.mul_le_mul_left _ (Nat.pos_of_ne_zero hb0)
      have h2 : (2 * (len + m.toNat) + 1024) * info.bytes ≤ 140737488355328 := hlim
      have h3 : IntKind.i64.max = 9223372036854775807 := rfl
      rw [h3]
      omega
    have hq : (Question.appendCap (len + m.toNat) cap elem).forced = false := rfl
    refine ⟨(Question.appendCap (len + m.toNat) cap elem).cut (w.tape w.drawn (.appendCap (len + m.toNat) cap elem)), w.drawn + 1, by simp [Question.cut], ?_⟩
    generalize hc : (Question.appendCap (len + m.toNat) cap elem).cut (w.tape w.drawn (.appendCap (len + m.toNat) cap elem)) = newCap
    refine ⟨(Builtin.zeroCells z.cells (newCap - (len + m.toNat))).toList, by simp [zeroCells_length, hzs], ?_⟩
    simp only [Builtin.append_, a0, a1, b0, b1, Sem.run_bind, run_underlying hst, run_underlying hxt, Result.andThen_ok, run_sizeOf hi, Sem.run_pure]
    simp only [if_true, asInt, asIntOf, Sem.run_bind, Sem.run_pure, Result.andThen_ok, hw, if_neg hneg, run_typeInfo hi, if_neg hbig, Bool.not_true, Bool.false_eq_true, if_false, if_neg hnr, if_neg hmax, if_neg hnc, run_choose, hq, hc, run_askRoom, hold, happ,
      run_zeroValue hi hz, newRow, run_newObj]
    have e : old.toArray ++ ((List.range (m.toNat * z.cells.size)).map fun i => z.cells[i % z.cells.size]!).toArray ++ Builtin.zeroCells z.cells (newCap - (len + m.toNat)) =
        (old ++ ((List.range (m.toNat * z.cells.size)).map fun i => z.cells[i % z.cells.size]!) ++ (Builtin.zeroCells z.cells (newCap - (len + m.toNat))).toList).toArray := by
      apply Array.ext'; simp
    rw [e]

end
end Go.Rx
