/- The symbolic executor 'Rx', part G: slice expressions, make, literals. By an AI agent. -/
import Derived.Test.YtjhmpmhkppglnaaGreatRxF
set_option linter.unusedVariables false
set_option linter.unusedSimpArgs false
namespace Go.Rx
section
variable {ν : Val} {M : Own} {w0 w : World} {s s' : SH} {E : Env}

/-- An operand that may be wanting. -/
inductive OptR (ν : Val) : Option SV → Option Value → Prop
  | none : OptR ν none none
  | some {x : SV} {v : Value} (h : VR ν x v) : OptR ν (some x) (some v)

theorem optInt_ok {x : Option SV} {v : Option Value} {o : Option Int} (h : optInt x = some o) (hv : OptR ν x v) :
    (o = none ∧ v = none) ∨ ∃ k n, o = some n ∧ v = some (.int k n) := by
  cases hv with
  | none => cases h; exact .inl ⟨rfl, rfl⟩
  | @some x v hv =>
    unfold optInt at h
    simp only at h
    split at h
    · rename_i k n hint
      cases h
      exact .inr ⟨k, n, rfl, by rw [SV.int_ok hint hv]⟩
    · cases h

theorem run_sliceBound {P : Program} {k : IntKind} {i : Int} {y : Nat} {c : BoundsCode} (h : 0 ≤ i ∧ i ≤ y) : (Instr.sliceBound (.int k i) y c).run P w = .ok i.toNat w := by
  simp [Instr.sliceBound, asIntOf, h]

theorem sBounds_ok {len cap cap' : Nat} {lo hi : Option Int} {lv hv : Option Value} {l h : Nat} (hh : sBounds E len cap lo hi s = some (l, h, s'))
    (hlo : (lo = none ∧ lv = none) ∨ ∃ k n, lo = some n ∧ lv = some (.int k n)) (hhi : (hi = none ∧ hv = none) ∨ ∃ k n, hi = some n ∧ hv = some (.int k n)) (hcap : cap ≤ cap') (isS : Bool) (hlen : len ≤ cap) :
    s.Same s' ∧ (s'.ob → s.ob ∧ (Instr.sliceBounds isS len cap' lv hv none).run E.P w = .ok (l, h, cap') w ∧ l ≤ h ∧ h ≤ cap) := by
  unfold sBounds at hh
  rcases hhi with ⟨rfl, rfl⟩ | ⟨kh, nh, rfl, rfl⟩
  · rcases hlo with ⟨rfl, rfl⟩ | ⟨kl, nl, rfl, rfl⟩
    · simp only [Option.bind_eq_bind, Option.bind_some] at hh
      cases hh
      exact ⟨.refl _, fun ob => ⟨ob, by simp [Instr.sliceBounds], Nat.zero_le _, hlen⟩⟩
    · simp only [Option.bind_eq_bind, Option.bind_some] at hh
      cases ha : s.ask E (decide (0 ≤ nl ∧ nl ≤ len)) with
      | none => rw [ha] at hh; cases hh
      | some s1 =>
        rw [ha] at hh; cases hh
        obtain ⟨hsame, hob⟩ := SH.ask_ok ha
        refine ⟨hsame, fun ob => ⟨(hob ob).1, ?_, ?_, hlen⟩⟩
        · have hb := of_decide_eq_true (hob ob).2
          simp [Instr.sliceBounds, run_sliceBound hb]
        · have hb := of_decide_eq_true (hob ob).2; dsimp only; omega
  · simp only [Option.bind_eq_bind] at hh
    cases ha : s.ask E (decide (0 ≤ nh ∧ nh ≤ cap)) with
    | none => rw [ha] at hh; cases hh
    | some s1 =>
      rw [ha] at hh
      simp only [Option.map_some, Option.bind_some] at hh
      obtain ⟨hsame, hob⟩ := SH.ask_ok ha
      rcases hlo with ⟨rfl, rfl⟩ | ⟨kl, nl, rfl, rfl⟩
      · cases hh
        refine ⟨hsame, fun ob => ⟨(hob ob).1, ?_, Nat.zero_le _, ?_⟩⟩
        · have hb := of_decide_eq_true (hob ob).2
          have hb' : 0 ≤ nh ∧ nh ≤ (cap' : Int) := ⟨hb.1, by omega⟩
          simp [Instr.sliceBounds, run_sliceBound hb']
        · have hb := of_decide_eq_true (hob ob).2; omega
      · dsimp only at hh
        cases ha2 : s1.ask E (decide (0 ≤ nl ∧ nl ≤ nh.toNat)) with
        | none => rw [ha2] at hh; cases hh
        | some s2 =>
          rw [ha2] at hh; cases hh
          obtain ⟨hsame2, hob2⟩ := SH.ask_ok ha2
          refine ⟨hsame.trans hsame2, fun ob => ⟨(hob (hob2 ob).1).1, ?_, ?_, ?_⟩⟩
          · have hb := of_decide_eq_true (hob (hob2 ob).1).2
            have hb' : 0 ≤ nh ∧ nh ≤ (cap' : Int) := ⟨hb.1, by omega⟩
            have hc := of_decide_eq_true (hob2 ob).2
            simp [Instr.sliceBounds, run_sliceBound hb', run_sliceBound hc]
          · have hc := of_decide_eq_true (hob2 ob).2; dsimp only; omega
          · have hb := of_decide_eq_true (hob (hob2 ob).1).2; omega

theorem sSlice_ok {t : TypeId} {x y : SV} {lo hi mx : Option SV} {xv : Value} {lv hv mv : Option Value} (h : sSlice E t x lo hi mx s = some (y, s')) (hx : VR ν x xv)
    (hlo : OptR ν lo lv) (hhi : OptR ν hi hv) (hmx : OptR ν mx mv) :
    s.Same s' ∧ (s'.ob → s.ob ∧ ∃ yv, (Instr.sliceAt t xv lv hv mv).run E.P w = .ok yv w ∧ VR ν y yv) := by
  unfold sSlice at h
  cases hol : optInt lo with
  | none => rw [hol] at h; cases h
  | some ol =>
  cases hoh : optInt hi with
  | none => rw [hol, hoh] at h; cases h
  | some oh =>
  rw [hol, hoh] at h
  simp only [Option.bind_eq_bind, Option.bind_some] at h
  have rl := optInt_ok hol hlo
  have rh := optInt_ok hoh hhi
  split at h
  · -- strings
    rename_i b hd
    cases hmx
    obtain rfl := VR.v_iff.1 hx
    cases hb : sBounds E b.size b.size ol oh s with
    | none => rw [hb] at h; cases h
    | some p =>
      obtain ⟨l, hh, s1⟩ := p
      rw [hb] at h; cases h
      obtain ⟨hsame, hob⟩ := sBounds_ok (w := w) hb rl rh (Nat.le_refl _) false (Nat.le_refl _)
      refine ⟨hsame, fun ob => ⟨(hob ob).1, _, ?_, VR.v_iff.2 rfl⟩⟩
      simp only [Instr.sliceAt, Instr.slice, Sem.run_bind, run_underlying hd, Result.andThen_ok, Option.isSome_none, Bool.false_eq_true, if_false, (hob ob).2.1, Sem.run_pure]
  · -- an array behind a pointer
    rename_i n elem i off hd
    cases hmx
    obtain ⟨c, hc, rfl⟩ := VR.ptr_iff.1 hx
    cases hb : sBounds E n n ol oh s with
    | none => rw [hb] at h; cases h
    | some p =>
      obtain ⟨l, hh, s1⟩ := p
      rw [hb] at h
      simp only [Option.bind_some] at h
      cases hinfo : tinfo E elem with
      | none => rw [hinfo] at h; cases h
      | some info =>
        rw [hinfo] at h
        simp only [Option.bind_some] at h
        cases hnl : (n == l)
        · rw [hnl] at h; cases h
          have hnl : n ≠ l := by simpa using hnl
          obtain ⟨hsame, hob⟩ := sBounds_ok (w := w) hb rl rh (Nat.le_refl _) false (Nat.le_refl _)
          refine ⟨hsame, fun ob => ⟨(hob ob).1, _, ?_, VR.sl_iff.2 ⟨c, hc, ?_, rfl⟩⟩⟩
          · simp only [Instr.sliceAt, Sem.run_bind, run_underlying hd, Result.andThen_ok, Instr.sureAddr, Sem.run_pure, (hob ob).2.1, run_sizeOf hinfo, if_neg hnl, addr_add, Option.getD_some]
          · obtain ⟨_, _, h1, h2⟩ := hob ob
            simp only [Option.getD_some]; omega
        · rw [hnl] at h; cases h
  · -- a slice whose room is told
    rename_i elem i off len cap hd
    cases hmx
    obtain ⟨c, hc, hlen, rfl⟩ := VR.sl_iff.1 hx
    simp only [Option.getD_some] at hlen
    cases hb : sBounds E len cap ol oh s with
    | none => rw [hb] at h; cases h
    | some p =>
      obtain ⟨l, hh, s1⟩ := p
      rw [hb] at h
      simp only [Option.bind_some] at h
      cases hinfo : tinfo E elem with
      | none => rw [hinfo] at h; cases h
      | some info =>
        rw [hinfo] at h
        simp only [Option.bind_some] at h
        obtain ⟨hsame, hob⟩ := sBounds_ok (w := w) hb rl rh (Nat.le_refl _) true hlen
        cases hdec : s1.dec E (decide (cap = l)) with
        | mk e s2 =>
          obtain ⟨hsame2, hob2⟩ := SH.dec_ok hdec
          rw [hdec] at h
          cases e
          · cases h
            refine ⟨hsame.trans hsame2, fun ob => ?_⟩
            obtain ⟨ob1, he⟩ := hob2 ob
            obtain ⟨ob0, hrun, h1, h2⟩ := hob ob1
            have he := of_decide_eq_false he
            refine ⟨ob0, _, ?_, VR.sl_iff.2 ⟨c, hc, ?_, rfl⟩⟩
            · simp only [Instr.sliceAt, Instr.slice, Sem.run_bind, run_underlying hd, Result.andThen_ok, Option.getD_some, hrun, run_sizeOf hinfo, Sem.run_pure, if_neg he, Option.map_some, addr_add]
            · simp only [Option.getD_some]; omega
          · cases h
            refine ⟨hsame.trans hsame2, fun ob => ?_⟩
            obtain ⟨ob1, he⟩ := hob2 ob
            obtain ⟨ob0, hrun, h1, h2⟩ := hob ob1
            have he := of_decide_eq_true he
            refine ⟨ob0, _, ?_, VR.sl_iff.2 ⟨c, hc, ?_, rfl⟩⟩
            · simp only [Instr.sliceAt, Instr.slice, Sem.run_bind, run_underlying hd, Result.andThen_ok, Option.getD_some, hrun, run_sizeOf hinfo, Sem.run_pure, if_pos he]
            · simp only [Option.getD_some]; omega
  · -- a slice whose room is not told
    rename_i elem i off len hd
    cases hmx
    obtain ⟨c, hc, hlen, rfl⟩ := VR.sl_iff.1 hx
    simp only [Option.getD_none] at hlen
    cases hb : sBounds E len len ol oh s with
    | none => rw [hb] at h; cases h
    | some p =>
      obtain ⟨l, hh, s1⟩ := p
      rw [hb] at h
      simp only [Option.bind_some] at h
      cases hinfo : tinfo E elem with
      | none => rw [hinfo] at h; cases h
      | some info =>
      rw [hinfo] at h
      simp only [Option.bind_some] at h
      cases hdec : s1.dec E (l == 0) with
      | mk e0 s2 =>
      obtain ⟨hsame2, hob2⟩ := SH.dec_ok hdec
      rw [hdec] at h
      obtain ⟨hsame, hob⟩ := sBounds_ok (w := w) hb rl rh hlen true (Nat.le_refl _)
      cases e0
      · simp only [cond_false] at h
        cases hask : s2.ask E (info.size == 1 && Nat.blt l len) with
        | none => rw [hask] at h; cases h
        | some s3 =>
        rw [hask] at h; cases h
        obtain ⟨hsame3, hob3⟩ := SH.ask_ok hask
        refine ⟨(hsame.trans hsame2).trans hsame3, fun ob => ?_⟩
        obtain ⟨ob2, hz⟩ := hob3 ob
        obtain ⟨ob1, hl0⟩ := hob2 ob2
        have hl0 : l ≠ 0 := by simpa using hl0
        rw [Bool.and_eq_true] at hz
        obtain ⟨hz1, hz2⟩ := hz
        have hz1 : info.size = 1 := by simpa using hz1
        have hz2 := blt_iff.1 hz2
        obtain ⟨ob0, hrun, h1, h2⟩ := hob ob1
        refine ⟨ob0, _, ?_, VR.sl_iff.2 ⟨c, hc, ?_, rfl⟩⟩
        · simp only [Instr.sliceAt, Instr.slice, Sem.run_bind, run_underlying hd, Result.andThen_ok, Option.getD_none, hrun, run_sizeOf hinfo, Sem.run_pure]
          rw [if_neg (by omega)]
          simp only [hz1, Nat.mul_one, Option.map_some, addr_add, show c.2 - (off + l) = c.2 - off - l from by omega]
        · simp only [Option.getD_none]; omega
      · simp only [cond_true] at h
        cases h
        refine ⟨hsame.trans hsame2, fun ob => ?_⟩
        obtain ⟨ob1, hl0⟩ := hob2 ob
        obtain rfl : l = 0 := by simpa using hl0
        obtain ⟨ob0, hrun, h1, h2⟩ := hob ob1
        refine ⟨ob0, _, ?_, VR.sl_iff.2 ⟨c, hc, ?_, rfl⟩⟩
        · simp only [Instr.sliceAt, Instr.slice, Sem.run_bind, run_underlying hd, Result.andThen_ok, Option.getD_none, hrun, run_sizeOf hinfo, Sem.run_pure]
          split
          · rename_i e; rw [e]; rfl
          · simp [Addr.add]
        · simp only [Option.getD_none]; omega
  · -- the end of a slice
    rename_i elem i off len adv hd
    cases hmx
    obtain ⟨c, hc, rfl⟩ := VR.fin_iff.1 hx
    cases hb : sBounds E 0 0 ol oh s with
    | none => rw [hb] at h; cases h
    | some p =>
      obtain ⟨l, hh, s1⟩ := p
      rw [hb] at h
      simp only [Option.bind_some] at h
      cases hinfo : tinfo E elem with
      | none => rw [hinfo] at h; cases h
      | some info =>
      rw [hinfo] at h; cases h
      obtain ⟨hsame, hob⟩ := sBounds_ok (w := w) hb rl rh (Nat.zero_le (c.2 - off - len)) true (Nat.zero_le _)
      refine ⟨hsame, fun ob => ?_⟩
      obtain ⟨ob0, hrun, h1, h2⟩ := hob ob
      obtain rfl : hh = 0 := by omega
      obtain rfl : l = 0 := by omega
      refine ⟨ob0, _, ?_, VR.fin_iff.2 ⟨c, hc, rfl⟩⟩
      simp only [Instr.sliceAt, Instr.slice, Sem.run_bind, run_underlying hd, Result.andThen_ok, hrun, run_sizeOf hinfo, Sem.run_pure]
      split
      · rename_i e; rw [e]
      · simp [Addr.add]
  · -- three indexes
    rename_i elem i off len cap mx hd
    cases hmx with
    | some hm =>
    rename_i mv
    obtain ⟨c, hc, hlen, rfl⟩ := VR.sl_iff.1 hx
    have hcap : cap.getD len ≤ cap.getD (c.2 - off) := by cases cap <;> simp_all
    generalize hC : cap.getD (c.2 - off) = C at hlen hcap
    cases hmi : mx.int with
    | none => rw [hmi] at h; cases h
    | some km =>
    obtain ⟨km, m⟩ := km
    rw [hmi] at h
    simp only [Option.bind_some] at h
    obtain rfl := SV.int_ok hmi hm
    rcases rh with ⟨rfl, _⟩ | ⟨kh, nh, rfl, rfl⟩
    · cases h
    simp only [Option.isSome_some, guard', cond_true, Option.bind_some] at h
    cases ha : s.ask E (decide (0 ≤ m ∧ m ≤ cap.getD len)) with
    | none => rw [ha] at h; cases h
    | some s1 =>
    rw [ha] at h
    simp only [Option.bind_some, sBounds3, Option.bind_eq_bind] at h
    obtain ⟨hsame1, hob1⟩ := SH.ask_ok ha
    cases ha2 : s1.ask E (decide (0 ≤ nh ∧ nh ≤ m.toNat)) with
    | none => rw [ha2] at h; cases h
    | some s2 =>
    rw [ha2] at h
    simp only [Option.bind_some] at h
    obtain ⟨hsame2, hob2⟩ := SH.ask_ok ha2
    have key : ∀ (l : Nat) (s3 : SH), s2.Same s3 → (s3.ob → s2.ob ∧ l ≤ nh.toNat ∧ ∀ w, (Instr.sliceBounds true len C lv (some (.int kh nh)) (some (.int km m))).run E.P w = .ok (l, nh.toNat, m.toNat) w) →
        ((tinfo E elem).bind fun info => match s3.dec E (decide (m.toNat = l)) with
          | (e, s) => bif e then some (SV.sl i off (nh.toNat - l) (some (m.toNat - l)), s) else some (SV.sl i (off + l * info.size) (nh.toNat - l) (some (m.toNat - l)), s)) = some (y, s') →
        s.Same s' ∧ (s'.ob → s.ob ∧ ∃ yv, (Instr.sliceAt t (.slice (some ⟨c.1, off, none⟩) len C) lv (some (.int kh nh)) (some (.int km m))).run E.P w = .ok yv w ∧ VR ν y yv) := by
      intro l s3 hsame3 hob3 h
      cases hinfo : tinfo E elem with
      | none => rw [hinfo] at h; cases h
      | some info =>
      rw [hinfo] at h
      simp only [Option.bind_some] at h
      cases hdec : s3.dec E (decide (m.toNat = l)) with
      | mk e s4 =>
      obtain ⟨hsame4, hob4⟩ := SH.dec_ok hdec
      rw [hdec] at h
      have hs : s.Same s4 := ((hsame1.trans hsame2).trans hsame3).trans hsame4
      cases e
      · cases h
        refine ⟨hs, fun ob => ?_⟩
        obtain ⟨ob3, he⟩ := hob4 ob
        obtain ⟨ob2, h1, hrun⟩ := hob3 ob3
        have he := of_decide_eq_false he
        have hm' := of_decide_eq_true (hob1 (hob2 ob2).1).2
        have hh' := of_decide_eq_true (hob2 ob2).2
        refine ⟨(hob1 (hob2 ob2).1).1, _, ?_, VR.sl_iff.2 ⟨c, hc, ?_, rfl⟩⟩
        · simp only [Instr.sliceAt, Instr.slice, Sem.run_bind, run_underlying hd, Result.andThen_ok, Option.getD_some, hrun, run_sizeOf hinfo, Sem.run_pure, if_neg he, Option.map_some, addr_add]
        · simp only [Option.getD_some]; omega
      · cases h
        refine ⟨hs, fun ob => ?_⟩
        obtain ⟨ob3, he⟩ := hob4 ob
        obtain ⟨ob2, h1, hrun⟩ := hob3 ob3
        have he := of_decide_eq_true he
        have hm' := of_decide_eq_true (hob1 (hob2 ob2).1).2
        have hh' := of_decide_eq_true (hob2 ob2).2
        refine ⟨(hob1 (hob2 ob2).1).1, _, ?_, VR.sl_iff.2 ⟨c, hc, ?_, rfl⟩⟩
        · simp only [Instr.sliceAt, Instr.slice, Sem.run_bind, run_underlying hd, Result.andThen_ok, Option.getD_some, hrun, run_sizeOf hinfo, Sem.run_pure, if_pos he]
        · simp only [Option.getD_some]; omega
    rcases rl with ⟨rfl, rfl⟩ | ⟨kl, nl, rfl, rfl⟩
    · refine key 0 s2 (.refl _) (fun ob => ⟨ob, Nat.zero_le _, fun w => ?_⟩) h
      have hm' : 0 ≤ m ∧ m ≤ (C : Int) := by have := of_decide_eq_true (hob1 (hob2 ob).1).2; omega
      have hh' := of_decide_eq_true (hob2 ob).2
      simp [Instr.sliceBounds, run_sliceBound hm', run_sliceBound hh']
    · dsimp only at h
      cases ha3 : s2.ask E (decide (0 ≤ nl ∧ nl ≤ nh.toNat)) with
      | none => rw [ha3] at h; cases h
      | some s3 =>
      rw [ha3] at h
      obtain ⟨hsame3, hob3⟩ := SH.ask_ok ha3
      refine key nl.toNat s3 hsame3 (fun ob => ?_) h
      have hl' := of_decide_eq_true (hob3 ob).2
      refine ⟨(hob3 ob).1, by omega, fun w => ?_⟩
      have hm' : 0 ≤ m ∧ m ≤ (C : Int) := by have := of_decide_eq_true (hob1 (hob2 (hob3 ob).1).1).2; omega
      have hh' := of_decide_eq_true (hob2 (hob3 ob).1).2
      simp [Instr.sliceBounds, run_sliceBound hm', run_sliceBound hh', run_sliceBound hl']
  · cases h

theorem sSliceB_ok {t : TypeId} {x : SV} {L : List (SV × SH)} {lo hi mx : Option SV} {xv : Value} {lv hv mv : Option Value} (h : sSliceB E t x lo hi mx s = some L) (hx : VR ν x xv)
    (hlo : OptR ν lo lv) (hhi : OptR ν hi hv) (hmx : OptR ν mx mv) :
    ∃ p ∈ L, s.Same p.2 ∧ (p.2.ob → s.ob ∧ ∃ yv, (Instr.sliceAt t xv lv hv mv).run E.P w = .ok yv w ∧ VR ν p.1 yv) := by
  unfold sSliceB at h
  cases hol : optInt lo with
  | none => rw [hol] at h; cases h
  | some ol =>
  cases hoh : optInt hi with
  | none => rw [hol, hoh] at h; cases h
  | some oh =>
  rw [hol, hoh] at h
  simp only [Option.bind_eq_bind, Option.bind_some] at h
  have rl := optInt_ok hol hlo
  have rh := optInt_ok hoh hhi
  split at h
  · rename_i elem i off len hd
    cases hmx
    obtain ⟨c, hc, hlen, rfl⟩ := VR.sl_iff.1 hx
    simp only [Option.getD_none] at hlen
    cases hb : sBounds E len len ol oh s with
    | none => rw [hb] at h; cases h
    | some p =>
      obtain ⟨l, hh, s1⟩ := p
      rw [hb] at h
      simp only [Option.bind_some] at h
      cases hinfo : tinfo E elem with
      | none => rw [hinfo] at h; cases h
      | some info =>
      rw [hinfo] at h
      simp only [Option.bind_some] at h
      cases hz : ((info.size == 1 || off == 0) && Nat.beq l len && Nat.beq hh len)
      · rw [hz] at h; cases h
      rw [hz] at h; cases h
      rw [Bool.and_eq_true, Bool.and_eq_true] at hz
      obtain rfl := Nat.eq_of_beq_eq_true hz.1.2
      obtain rfl := Nat.eq_of_beq_eq_true hz.2
      obtain ⟨hsame, hob⟩ := sBounds_ok (w := w) hb rl rh hlen true (Nat.le_refl _)
      refine ⟨_, List.mem_singleton.2 rfl, hsame, fun ob => ?_⟩
      obtain ⟨ob0, hrun, h1, h2⟩ := hob ob
      refine ⟨ob0, _, ?_, VR.fin_iff.2 ⟨c, hc, rfl⟩⟩
      simp only [Instr.sliceAt, Instr.slice, Sem.run_bind, run_underlying hd, Result.andThen_ok, Option.getD_none, hrun, run_sizeOf hinfo, Sem.run_pure]
      by_cases hcap : c.2 - off = hh
      · rw [if_pos hcap, if_pos hcap]
        simp
      · rw [if_neg (by omega), if_neg hcap]
        simp only [Option.map_some, addr_add, Nat.sub_self]
  · cases h

theorem sSliceB_len {t : TypeId} {x : SV} {L : List (SV × SH)} {lo hi mx : Option SV} (h : sSliceB E t x lo hi mx s = some L) : ∃ p i o l a, L = [p] ∧ p.1 = .fin i o l a := by
  unfold sSliceB at h
  obtain ⟨ol, _, h⟩ := Option.bind_eq_some_iff.1 h
  obtain ⟨oh, _, h⟩ := Option.bind_eq_some_iff.1 h
  split at h
  · obtain ⟨p, _, h⟩ := Option.bind_eq_some_iff.1 h
    obtain ⟨l, hh, s1⟩ := p
    obtain ⟨info, _, h⟩ := Option.bind_eq_some_iff.1 h
    revert h
    generalize (_ && _ : Bool) = b
    cases b
    · intro h; cases h
    · intro h; cases h; exact ⟨_, _, _, _, _, rfl, rfl⟩
  · cases h

end
end Go.Rx
