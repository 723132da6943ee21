/- The symbolic executor 'Rx', part I: make, append, copy. By an AI agent. -/
import Derived.Test.YtjhmpmhkppglnaaGreatRxH
import Derived.IntWalk
set_option linter.unusedVariables false
set_option linter.unusedSimpArgs false
namespace Go.Rx
section
variable {ν : Val} {M : Own} {w0 w : World} {s s' : SH} {E : Env}

theorem range_map_mod (z : List Value) (n : Nat) : (List.range (n * z.length)).map (fun k => z.toArray[k % z.length]!) = (List.replicate n z).flatten := by
  induction n with
  | zero => simp
  | succ n ih =>
    have e : (n + 1) * z.length = z.length + n * z.length := by rw [Nat.succ_mul, Nat.add_comm]
    rw [e, List.range_add, List.map_append, List.replicate_succ, List.flatten_cons, ← ih]
    congr 1
    · apply List.ext_getElem
      · simp
      · intro k h1 h2
        simp at h1
        simp [Nat.mod_eq_of_lt h1, h1]
    · simp [List.map_map, Function.comp_def, Nat.add_mod_left]

theorem zeros_ok {info : TypeInfo} {n : Nat} {l : List SV} (h : zeros info n = some l) : ∃ z, info.zero = some z ∧ z.cells.size = info.size ∧
    VRL ν l ((List.range (n * info.size)).map (fun k => z.cells[k % z.cells.size]!)) := by
  unfold zeros at h
  cases hz : info.zero with
  | none => rw [hz] at h; cases h
  | some z =>
    rw [hz] at h
    cases hs : (z.cells.size == info.size)
    · simp only [hs] at h; cases h
    · simp only [hs] at h; cases h
      have hs : z.cells.size = info.size := by simpa using hs
      refine ⟨z, rfl, hs, ?_⟩
      have := range_map_mod z.cells.toList n
      simp only [Array.length_toList, Array.toArray_toList] at this
      rw [← hs, this]
      induction n with
      | zero => simpa using VRL.nil
      | succ n ih =>
        simp only [List.replicate_succ, List.flatten_cons]
        exact (VRL.lits ν _).append (ih (range_map_mod z.cells.toList n |>.symm ▸ by simp))

theorem sMakeSlice_ok {t : TypeId} {len cap y : SV} {lv cv : Value} (h : sMakeSlice E t len cap s = some (y, s')) (hr : HR ν M w0 s w) (hl : VR ν len lv) (hc : VR ν cap cv) :
    (s'.ob = s.ob) ∧ GoodV E.P (Instr.makeSlice t lv cv) ν M w0 w y s' := by
  unfold sMakeSlice at h
  cases hli : len.int with
  | none => rw [hli] at h; cases h
  | some kl =>
  obtain ⟨kl, l⟩ := kl
  cases hci : cap.int with
  | none => rw [hli, hci] at h; cases h
  | some kc =>
  obtain ⟨kc, c⟩ := kc
  rw [hli, hci] at h
  simp only [Option.bind_eq_bind, Option.bind_some] at h
  obtain rfl := SV.int_ok hli hl
  obtain rfl := SV.int_ok hci hc
  split at h
  · rename_i elem hd
    cases hi : tinfo E elem with
    | none => rw [hi] at h; cases h
    | some info =>
    rw [hi] at h
    simp only [Option.bind_some] at h
    cases hg : guard' (decide (0 ≤ l ∧ l ≤ c ∧ info.bytes * c ≤ 2 ^ 40 ∧ c ≤ 2 ^ 40)) with
    | none => rw [hg] at h; cases h
    | some u =>
    rw [hg] at h
    simp only [Option.bind_some] at h
    obtain ⟨g1, g2, g3, g4⟩ := of_decide_eq_true (guard_ok hg)
    cases hz : zeros info c.toNat with
    | none => rw [hz] at h; cases h
    | some zs =>
    rw [hz] at h
    simp only [Option.bind_some] at h
    obtain ⟨z, hz0, hzs, hvr⟩ := zeros_ok (ν := ν) hz
    cases hn : sNew (.row zs elem (0, 0) none) s with
    | none => rw [hn] at h; cases h
    | some p =>
    obtain ⟨i, s1⟩ := p
    rw [hn] at h; cases h
    have hlen := hvr.length
    have hwl : IntKind.i64.wrap l = l := IntWalk.i64_in l (by omega)
    have hwc : IntKind.i64.wrap c = c := IntWalk.i64_in c (by omega)
    have hbytes : ¬ ((info.bytes : Int) * c > 2 ^ 48) := by omega
    obtain ⟨hob, ν', hle, hi', hr'⟩ := sNew_ok hn hr c.toNat (r := .cells ((Array.range (c.toNat * info.size)).map (fun k => z.cells[k % z.cells.size]!)) elem)
      (fun ν' hle _ => ⟨_, [], by rw [fzReal_zero, List.append_nil, ← List.toArray_range, List.map_toArray], hvr.mono hle, by
        simp only [ExtR, List.append_nil]; exact hlen⟩)
    refine ⟨hob, ν', _, _, hle, ?_, VR.sl_iff.2 ⟨_, hi', ?_, rfl⟩, hr'⟩
    · simp only [Instr.makeSlice, Sem.run_bind, run_underlying hd, Result.andThen_ok, asInt, asIntOf, Sem.run_pure, run_typeInfo hi, hwl, hwc]
      rw [if_neg (by simp; omega)]
      simp only [Sem.run_bind, run_askRoom, Result.andThen_ok, run_sizeOf hi]
      by_cases hn0 : c.toNat * info.size = 0
      · have r0 : Array.range 0 = #[] := rfl
        simp [hn0, r0, newRow]
      · simp [hn0, newRow, run_zeroValue hi hz0]
    · simp only [Option.getD_some]; omega
  · cases h

end
end Go.Rx
