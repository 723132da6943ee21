/- The symbolic executor 'Rx', part F: addresses, parts, indexes, slices. By an AI agent. -/
import Derived.Test.YtjhmpmhkppglnaaGreatRxE
set_option linter.unusedVariables false
set_option linter.unusedSimpArgs false
namespace Go.Rx
section
variable {ν : Val} {M : Own} {w0 w : World} {s s' : SH} {E : Env}

theorem sFieldAddr_ok {t : TypeId} {x y : SV} {f : Nat} {xv : Value} (h : sFieldAddr E t x f = some y) (hx : VR ν x xv) :
    ∃ yv, (Instr.fieldAt t xv f).run E.P w = .ok yv w ∧ VR ν y yv := by
  unfold sFieldAddr at h
  split at h
  · rename_i i off fields hd
    obtain ⟨b, hb, rfl⟩ := VR.ptr_iff.1 hx
    split at h
    · rename_i fd hf
      split at h
      · rename_i info hinfo
        cases hz : (info.size == 0)
        · rw [hz] at h; cases h
          have hz : info.size ≠ 0 := by simpa using hz
          refine ⟨_, ?_, VR.ptr_iff.2 ⟨b, hb, rfl⟩⟩
          simp [Instr.fieldAt, run_underlying hd, hf, Instr.sureAddr, fieldPlace, run_sizeOf hinfo, hz, addr_add]
        · rw [hz] at h; cases h
      · cases h
    · cases h
  · cases h

theorem part_one {t : TypeId} {P : Program} {cs : List Value} {off : Nat} {v : Value} (hag : (isAgg t).run P w = .ok false w) (h : cs[off]? = some v) : (part t cs.toArray off).run P w = .ok v w := by
  simp [part, hag, h]

theorem part_many {t : TypeId} {P : Program} {cs : List Value} {off n : Nat} (hag : (isAgg t).run P w = .ok true w) (hs : (sizeOf t).run P w = .ok n w) :
    (part t cs.toArray off).run P w = .ok (.agg ((cs.drop off).take n).toArray) w := by
  simp [part, hag, hs, List.take_drop]

theorem sField_ok {t : TypeId} {x y : SV} {f : Nat} {xv : Value} (h : sField E t x f = some y) (hx : VR ν x xv) :
    ∃ yv, (Instr.field t xv f).run E.P w = .ok yv w ∧ VR ν y yv := by
  unfold sField at h
  split at h
  · rename_i l fields hd
    obtain ⟨a, rfl, ha⟩ := VR.agg_iff.1 hx
    split at h
    · rename_i fd hf
      split at h
      · rename_i hag
        obtain ⟨v, hv, hvr⟩ := ha.get h
        refine ⟨v, ?_, hvr⟩
        simp only [Instr.field, Sem.run_bind, run_underlying hd, Result.andThen_ok, hf, asAgg, Sem.run_pure]
        exact part_one (run_isAgg hag) hv
      · rename_i info hag hinfo
        cases hle : Nat.ble (fd.offset + info.size) l.length
        · rw [hle] at h; cases h
        · rw [hle] at h; cases h
          refine ⟨_, ?_, VR.agg_iff.2 ⟨_, rfl, (ha.drop fd.offset).take info.size⟩⟩
          simp only [Instr.field, Sem.run_bind, run_underlying hd, Result.andThen_ok, hf, asAgg, Sem.run_pure]
          exact part_many (run_isAgg hag) (run_sizeOf hinfo)
      · cases h
    · cases h
  · cases h

theorem SV.int_ok {x : SV} {k : IntKind} {n : Int} {y : Value} (h : x.int = some (k, n)) (hv : VR ν x y) : y = .int k n := by
  unfold SV.int at h
  split at h
  · cases h; exact VR.v_iff.1 hv
  · cases h

theorem inRange_ok {i : Int} {n : Nat} (h : inRange i n = true) : 0 ≤ i ∧ i < n := of_decide_eq_true h

theorem sIndexAddr_ok {t : TypeId} {x i y : SV} {xv iv : Value} (h : sIndexAddr E t x i s = some (y, s')) (hx : VR ν x xv) (hi : VR ν i iv) :
    s.Same s' ∧ (s'.ob → s.ob ∧ ∃ yv, (Instr.indexAt t xv iv).run E.P w = .ok yv w ∧ VR ν y yv) := by
  unfold sIndexAddr at h
  split at h
  · rename_i k n len elem b off hint hd
    cases ha : s.ask E (inRange n len) with
    | none => rw [ha] at h; cases h
    | some s1 =>
      rw [ha] at h
      cases hinfo : tinfo E elem with
      | none => rw [hinfo] at h; cases h
      | some info =>
        rw [hinfo] at h; cases h
        obtain ⟨hsame, hob⟩ := SH.ask_ok ha
        refine ⟨hsame, fun ob => ⟨(hob ob).1, ?_⟩⟩
        obtain ⟨c, hc, rfl⟩ := VR.ptr_iff.1 hx
        obtain rfl := SV.int_ok hint hi
        have hin := inRange_ok (hob ob).2
        refine ⟨_, ?_, VR.ptr_iff.2 ⟨c, hc, rfl⟩⟩
        simp [Instr.indexAt, asIntOf, run_underlying hd, Instr.sureAddr, run_sizeOf hinfo, hin, addr_add]
  · rename_i k n elem b off len cap hint hd
    cases ha : s.ask E (inRange n len) with
    | none => rw [ha] at h; cases h
    | some s1 =>
      rw [ha] at h
      cases hinfo : tinfo E elem with
      | none => rw [hinfo] at h; cases h
      | some info =>
        rw [hinfo] at h; cases h
        obtain ⟨hsame, hob⟩ := SH.ask_ok ha
        refine ⟨hsame, fun ob => ⟨(hob ob).1, ?_⟩⟩
        obtain ⟨c, hc, _, rfl⟩ := VR.sl_iff.1 hx
        obtain rfl := SV.int_ok hint hi
        have hin := inRange_ok (hob ob).2
        refine ⟨_, ?_, VR.ptr_iff.2 ⟨c, hc, rfl⟩⟩
        simp [Instr.indexAt, asIntOf, run_underlying hd, run_sizeOf hinfo, hin, addr_add]
  · cases h

theorem VRL.toList (ν : Val) (a : Array Value) : VRL ν (a.toList.map SV.v) a.toList := VRL.lits ν _

theorem sIndex_ok {t : TypeId} {x i y : SV} {xv iv : Value} (h : sIndex E t x i s = some (y, s')) (hx : VR ν x xv) (hi : VR ν i iv) :
    s.Same s' ∧ (s'.ob → s.ob ∧ ∃ yv, (Instr.index t xv iv).run E.P w = .ok yv w ∧ VR ν y yv) := by
  unfold sIndex at h
  split at h
  · rename_i k n len elem l hint hd
    cases ha : s.ask E (inRange n len) with
    | none => rw [ha] at h; cases h
    | some s1 =>
      rw [ha] at h
      cases hinfo : tinfo E elem with
      | none => rw [hinfo] at h; cases h
      | some info =>
        rw [hinfo] at h
        simp only [Option.bind_eq_bind, Option.bind_some] at h
        obtain ⟨hsame, hob⟩ := SH.ask_ok ha
        obtain ⟨a, rfl, hal⟩ := VR.agg_iff.1 hx
        obtain rfl := SV.int_ok hint hi
        have key : ∀ v, (part elem a.toArray (n.toNat * info.size)).run E.P w = .ok v w → s1.ob → (Instr.index t (.agg a.toArray) (.int k n)).run E.P w = .ok v w := by
          intro v hv ob
          have hin := inRange_ok (hob ob).2
          simp [Instr.index, asIntOf, run_underlying hd, hin, run_sizeOf hinfo, hv]
        split at h
        · rename_i hag
          cases hx : l[n.toNat * info.size]? with
          | none => rw [hx] at h; cases h
          | some z =>
            rw [hx] at h; cases h
            obtain ⟨v, hv, hvr⟩ := hal.get hx
            exact ⟨hsame, fun ob => ⟨(hob ob).1, v, key v (part_one (run_isAgg hag) hv) ob, hvr⟩⟩
        · rename_i hag
          cases hle : Nat.ble (n.toNat * info.size + info.size) l.length
          · rw [hle] at h; cases h
          · rw [hle] at h; cases h
            exact ⟨hsame, fun ob => ⟨(hob ob).1, _, key _ (part_many (run_isAgg hag) (run_sizeOf hinfo)) ob, VR.agg_iff.2 ⟨_, rfl, (hal.drop _).take _⟩⟩⟩
        · cases h
  · rename_i k n len elem cs hint hd
    cases ha : s.ask E (inRange n len) with
    | none => rw [ha] at h; cases h
    | some s1 =>
      rw [ha] at h
      cases hinfo : tinfo E elem with
      | none => rw [hinfo] at h; cases h
      | some info =>
        rw [hinfo] at h
        simp only [Option.bind_eq_bind, Option.bind_some] at h
        obtain ⟨hsame, hob⟩ := SH.ask_ok ha
        obtain rfl := VR.v_iff.1 hx
        obtain rfl := SV.int_ok hint hi
        split at h
        · rename_i hag
          cases hx : cs[n.toNat * info.size]? with
          | none => rw [hx] at h; cases h
          | some z =>
            rw [hx] at h; cases h
            refine ⟨hsame, fun ob => ⟨(hob ob).1, z, ?_, VR.v_iff.2 rfl⟩⟩
            have hin := inRange_ok (hob ob).2
            simp [Instr.index, asIntOf, run_underlying hd, hin, run_sizeOf hinfo, part, run_isAgg hag, hx]
        · cases h
  · rename_i k n b hint hd
    cases ha : s.ask E (inRange n b.size) with
    | none => rw [ha] at h; cases h
    | some s1 =>
      rw [ha] at h; cases h
      obtain ⟨hsame, hob⟩ := SH.ask_ok ha
      obtain rfl := VR.v_iff.1 hx
      obtain rfl := SV.int_ok hint hi
      refine ⟨hsame, fun ob => ⟨(hob ob).1, _, ?_, VR.v_iff.2 rfl⟩⟩
      have hin := inRange_ok (hob ob).2
      have hlt : n.toNat < b.size := by omega
      have hg : b[n.toNat]? = some (b.data.getD n.toNat 0) := by
        have h1 : b[n.toNat]? = some b[n.toNat] := getElem?_pos b n.toNat hlt
        rw [h1]
        have hlt' : n.toNat < b.data.size := hlt
        simp only [Array.getD, hlt', dif_pos]
        rfl
      simp only [Instr.index, asIntOf, Sem.run_bind, Sem.run_pure, Result.andThen_ok, run_underlying hd, if_pos hin.1, hg]
  · cases h

end
end Go.Rx
