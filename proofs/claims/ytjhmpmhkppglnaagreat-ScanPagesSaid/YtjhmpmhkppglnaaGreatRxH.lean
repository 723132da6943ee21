/- The symbolic executor 'Rx', part H: make, literals, append, copy. By an AI agent. -/
import Derived.Test.YtjhmpmhkppglnaaGreatRxG
set_option linter.unusedVariables false
set_option linter.unusedSimpArgs false
namespace Go.Rx
section
variable {ν : Val} {M : Own} {w0 w : World} {s s' : SH} {E : Env}

theorem foldl_zipIdx_splice (zs : List Value) : ∀ (ys : List Value) (off k : Nat),
    (zs.zipIdx k).foldl (fun (cs : Array Value) p => cs.setIfInBounds (off + p.2) p.1) ys.toArray = (spliceV ys (off + k) zs).toArray := by
  induction zs with
  | nil => intros; rfl
  | cons z zs ih =>
    intro ys off k
    simp only [List.zipIdx_cons, List.foldl_cons, List.setIfInBounds_toArray, spliceV]
    rw [ih]; rfl

theorem fill_step (v : Value) (off : Nat) (ys : List Value) :
    v.cells.zipIdx.foldl (fun (cs : Array Value) (p : Value × Nat) => cs.setIfInBounds (off + p.2) p.1) ys.toArray = (spliceV ys off v.cells.toList).toArray := by
  rw [← Array.foldl_toList, Array.toList_zipIdx]
  exact foldl_zipIdx_splice _ ys off 0

/-- The parts of a literal. -/
inductive PartsR (ν : Val) : List (Nat × SV) → List (Nat × Value) → Prop
  | nil : PartsR ν [] []
  | cons {i : Nat} {x : SV} {v : Value} {l : List (Nat × SV)} {m : List (Nat × Value)} (h : VR ν x v) (t : PartsR ν l m) : PartsR ν ((i, x) :: l) ((i, v) :: m)

theorem fillS_ok {place : Nat → Option (Nat × Nat)} {parts : List (Nat × SV)} {pv : List (Nat × Value)} (hp : PartsR ν parts pv) :
    ∀ {cells out : List SV} {ys : List Value}, fillS place cells parts = some out → VRL ν cells ys → ∃ zs : List Value, Instr.fill place ys.toArray pv = some zs.toArray ∧ VRL ν out zs := by
  induction hp with
  | nil => intro cells out ys h hv; cases h; exact ⟨ys, rfl, hv⟩
  | @cons i x v l m hx _ ih =>
    intro cells out ys h hv
    unfold fillS at h
    split at h
    · rename_i off size lc hpl hc
      cases hb : (lc.length == size && Nat.ble (off + lc.length) cells.length)
      · rw [hb] at h; cases h
      · rw [hb] at h
        rw [Bool.and_eq_true] at hb
        have h1 : lc.length = size := by simpa using hb.1
        have h2 := Nat.le_of_ble_eq_true hb.2
        have hcl := SV.cells_ok hc hx
        have hlen := hcl.length
        have hyl := hv.length
        have hsz : v.cells.size = size := by rw [← h1, ← hlen]; simp
        obtain ⟨zs, hz, hzv⟩ := ih h (hv.splice hcl off)
        refine ⟨zs, ?_, hzv⟩
        simp only [Instr.fill, hpl]
        have hle : ¬ (off + v.cells.size > ys.toArray.size) := by simp; omega
        rw [if_neg (by simp [hsz] at hle ⊢; omega)]
        have := fill_step v off ys
        rw [this]; exact hz
    · cases h

theorem placesOf_ok {fields : List Field} : ∀ {l : List (Nat × Nat)}, placesOf E fields = some l →
    (fields.mapM fun f => do pure (f.offset, ← sizeOf f.type) : Sem (List (Nat × Nat))).run E.P w = .ok l w := by
  induction fields with
  | nil => intro l h; cases h; rfl
  | cons f fs ih =>
    intro l h
    unfold placesOf at h
    split at h
    · rename_i info l' hi hl
      cases h
      simp only [List.mapM_cons, Sem.run_bind, run_sizeOf hi, Result.andThen_ok, Sem.run_pure, ih hl]
    · cases h

theorem sBuild_ok {t : TypeId} {ps : List (Nat × SV)} {pv : List (Nat × Value)} {y : SV} (h : sBuild E t ps = some y) (hp : PartsR ν ps pv) :
    ∃ yv, (Instr.build t pv.toArray).run E.P w = .ok yv w ∧ VR ν y yv := by
  unfold sBuild at h
  cases hi : tinfo E t with
  | none => rw [hi] at h; cases h
  | some info =>
  rw [hi] at h
  simp only [Option.bind_eq_bind, Option.bind_some] at h
  cases hz : info.zero with
  | none => rw [hz] at h; cases h
  | some z =>
  rw [hz] at h
  simp only [Option.bind_some] at h
  split at h
  · rename_i fields hd
    cases hpl : placesOf E fields.toList with
    | none => rw [hpl] at h; cases h
    | some pl =>
    rw [hpl] at h
    simp only [Option.bind_some] at h
    cases hf : fillS (pl[·]?) (z.cells.toList.map .v) ps with
    | none => rw [hf] at h; cases h
    | some out =>
    rw [hf] at h; cases h
    obtain ⟨zs, hfill, hv⟩ := fillS_ok hp hf (VRL.lits ν z.cells.toList)
    refine ⟨_, ?_, VR.agg_iff.2 ⟨zs, rfl, hv⟩⟩
    have hm : (fields.mapM fun f => do pure (f.offset, ← sizeOf f.type) : Sem (Array (Nat × Nat))).run E.P w = .ok pl.toArray w := by
      rw [Array.mapM_eq_mapM_toList]
      simp only [Sem.run_map, placesOf_ok hpl, Result.andThen_ok]
    simp only [Instr.build, Sem.run_bind, run_zeroValue hi hz, Result.andThen_ok, run_underlying hd, hm]
    have : (fun x : Nat => pl.toArray[x]?) = (fun x : Nat => pl[x]?) := by funext x; simp
    simp only [this, Array.toArray_toList] at hfill ⊢
    rw [hfill]; rfl
  · rename_i n elem hd
    cases hei : tinfo E elem with
    | none => rw [hei] at h; cases h
    | some ei =>
    rw [hei] at h
    simp only [Option.bind_some] at h
    cases hf : fillS (fun i => some (i * ei.size, ei.size)) (z.cells.toList.map .v) ps with
    | none => rw [hf] at h; cases h
    | some out =>
    rw [hf] at h; cases h
    obtain ⟨zs, hfill, hv⟩ := fillS_ok hp hf (VRL.lits ν z.cells.toList)
    refine ⟨_, ?_, VR.agg_iff.2 ⟨zs, rfl, hv⟩⟩
    simp only [Instr.build, Sem.run_bind, run_zeroValue hi hz, Result.andThen_ok, run_underlying hd, run_sizeOf hei]
    simp only [Array.toArray_toList] at hfill ⊢
    rw [hfill]; rfl
  · cases h

end
end Go.Rx
