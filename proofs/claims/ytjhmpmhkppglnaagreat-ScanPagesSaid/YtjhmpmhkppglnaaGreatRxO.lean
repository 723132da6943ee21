/- The symbolic executor 'Rx', part O: interfaces, '==' at addresses, conversions, calls. By an AI agent. -/
import Derived.Test.YtjhmpmhkppglnaaGreatRxN
import Derived.Laws.BytesString
import Derived.Lib.UnsafeStr
import Derived.LaidEql
import Derived.Laws.StructEq
set_option linter.unusedVariables false
set_option linter.unusedSimpArgs false
namespace Go.Rx
section
variable {ν : Val} {M : Own} {w0 w : World} {s s' : SH} {E : Env}

theorem least_isSome (l : List String) : (Instr.least l).isSome = !l.isEmpty := by
  cases l <;> rfl

theorem least_some (L : List String) (p : String → Bool) (f : String → String) : (Instr.least (L.filter (not ∘ p)) <|> Instr.least ((L.filter p).map f)).isSome = true ↔ L ≠ [] := by
  have e2 : ∀ (a b : Option String), (a <|> b).isSome = (a.isSome || b.isSome) := by
    intro a b; cases a <;> cases b <;> rfl
  rw [e2, least_isSome, least_isSome, Bool.or_eq_true]
  constructor
  · rintro (h | h) e
    · rw [e] at h; cases h
    · rw [e] at h; cases h
  · intro h
    obtain ⟨y, hy⟩ := List.exists_mem_of_ne_nil _ h
    cases hc : p y
    · left
      have : y ∈ L.filter (not ∘ p) := List.mem_filter.2 ⟨hy, by simp [hc]⟩
      cases hf : L.filter (not ∘ p) with
      | nil => rw [hf] at this; cases this
      | cons a l => rfl
    · right
      have : y ∈ L.filter p := List.mem_filter.2 ⟨hy, hc⟩
      cases hf : L.filter p with
      | nil => rw [hf] at this; cases this
      | cons a l => rfl

theorem methodsMiss_eq (want : Array (String × TypeId)) (got : Array Method) : methodsMiss want got = (Instr.missingMethod want got).isSome := by
  unfold Instr.missingMethod methodsMiss
  rw [Bool.eq_iff_iff, List.any_eq_true]
  simp only [List.partition_eq_filter_filter]
  generalize hL : ((want.toList.filter fun x => !got.any fun m => m.name == x.1 && m.sig == x.2).map (·.1)) = L
  have e1 : (∃ x, x ∈ want.toList ∧ (!got.any fun m => m.name == x.1 && m.sig == x.2) = true) ↔ L ≠ [] := by
    rw [← hL]
    constructor
    · rintro ⟨x, hx, h⟩ e
      have hm : x.1 ∈ (want.toList.filter fun x => !got.any fun m => m.name == x.1 && m.sig == x.2).map (·.1) := List.mem_map.2 ⟨x, List.mem_filter.2 ⟨hx, h⟩, rfl⟩
      rw [e] at hm; cases hm
    · intro h
      obtain ⟨y, hy⟩ := List.exists_mem_of_ne_nil _ h
      obtain ⟨x, hx, _⟩ := List.mem_map.1 hy
      exact ⟨x, (List.mem_filter.1 hx).1, (List.mem_filter.1 hx).2⟩
  rw [e1]
  exact (least_some L _ _).symm

theorem sTypeAssert_ok {x y : SV} {xt at_ : TypeId} {ok : Bool} {xv : Value} (h : sTypeAssert E x at_ ok = some y) (hx : VR ν x xv) :
    ∃ yv, (Instr.typeAssert xv xt at_ ok).run E.P w = .ok yv w ∧ VR ν y yv := by
  unfold sTypeAssert at h
  split at h
  · rename_i want ai hd hi
    split at h
    · rename_i t x0
      obtain ⟨v, rfl, hv⟩ := VR.iface_iff.1 hx
      split at h
      · rename_i ti hti
        cases hm : methodsMiss want ti.methods
        · rw [hm] at h
          have hm' : Instr.missingMethod want ti.methods = none := by
            rw [methodsMiss_eq] at hm
            cases hmm : Instr.missingMethod want ti.methods with
            | none => rfl
            | some m => rw [hmm] at hm; cases hm
          cases ok
          · cases h
            exact ⟨_, by simp [Instr.typeAssert, run_underlying hd, run_typeInfo hti, hm'], hx⟩
          · cases h
            exact ⟨_, by simp [Instr.typeAssert, run_underlying hd, run_typeInfo hti, hm'], VR.tup_iff.2 ⟨[_, _], rfl, VRL.cons hx (VRL.cons (VR.v_iff.2 rfl) VRL.nil)⟩⟩
        · rw [hm] at h
          obtain ⟨m, hm'⟩ : ∃ m, Instr.missingMethod want ti.methods = some m := by
            rw [methodsMiss_eq] at hm
            exact Option.isSome_iff_exists.1 hm
          cases ok
          · cases h
          · cases hz : ai.zero with
            | none => rw [hz] at h; cases h
            | some z =>
              rw [hz] at h; cases h
              exact ⟨_, by simp [Instr.typeAssert, run_underlying hd, run_typeInfo hti, hm', run_zeroValue hi hz], VR.tup_iff.2 ⟨[_, _], rfl, VRL.cons (VR.v_iff.2 rfl) (VRL.cons (VR.v_iff.2 rfl) VRL.nil)⟩⟩
      · cases h
    · cases h
  · rename_i d ai hnd hd hi
    split at h
    · rename_i t x0
      obtain ⟨v, rfl, hv⟩ := VR.iface_iff.1 hx
      have hdd : ∀ ms, d ≠ .interface ms := fun ms e => hnd ms e
      cases ht : (t == at_)
      · rw [ht] at h
        have ht : ¬ t = at_ := by simpa using ht
        cases ok
        · cases h
        · cases hz : ai.zero with
          | none => rw [hz] at h; cases h
          | some z =>
            rw [hz] at h; cases h
            refine ⟨_, ?_, VR.tup_iff.2 ⟨[z, .bool false], rfl, VRL.cons (VR.v_iff.2 rfl) (VRL.cons (VR.v_iff.2 rfl) VRL.nil)⟩⟩
            simp only [Instr.typeAssert, Sem.run_bind, run_underlying hd, Result.andThen_ok]
            cases d <;> first | (exact absurd rfl (hdd _)) | (simp [ht, run_zeroValue hi hz])
      · rw [ht] at h
        obtain rfl : t = at_ := by simpa using ht
        cases ok
        · cases h
          refine ⟨v, ?_, hv⟩
          simp only [Instr.typeAssert, Sem.run_bind, run_underlying hd, Result.andThen_ok]
          cases d <;> first | (exact absurd rfl (hdd _)) | simp
        · cases h
          refine ⟨_, ?_, VR.tup_iff.2 ⟨[v, .bool true], rfl, VRL.cons hv (VRL.cons (VR.v_iff.2 rfl) VRL.nil)⟩⟩
          simp only [Instr.typeAssert, Sem.run_bind, run_underlying hd, Result.andThen_ok]
          cases d <;> first | (exact absurd rfl (hdd _)) | simp
    · cases h
  · cases h

theorem sEqI_ok {t : TypeId} {x y : SV} {xv yv : Value} {r : Bool} (h : sEqI E t x y s = some (r, s')) (hx : VR ν x xv) (hy : VR ν y yv) :
    s' = s ∧ ∃ info, tinfo E t = some info ∧ info.comparable = true ∧ (Op.equalIn 9999 t xv yv).run E.P w = .ok r w := by
  unfold sEqI at h
  split at h
  · rename_i info e i o j p hi hd
    cases hc : (info.comparable && i == j)
    · rw [hc] at h; cases h
    rw [hc] at h
    rw [Bool.and_eq_true] at hc
    obtain ⟨hc, hij⟩ := hc
    obtain rfl : i = j := by simpa using hij
    simp only [cond_true] at h
    obtain ⟨b, hb, rfl⟩ := VR.ptr_iff.1 hx
    obtain ⟨b', hb', rfl⟩ := VR.ptr_iff.1 hy
    rw [hb] at hb'; cases hb'
    split at h
    · rename_i ei hei
      cases hz : (ei.size == 0)
      · rw [hz] at h; cases h
        have hz : ei.size ≠ 0 := by simpa using hz
        refine ⟨rfl, info, hi, hc, ?_⟩
        rw [show (9999 : Nat) = 9998 + 1 from rfl, Op.equalIn]
        simp only [Sem.run_bind, run_underlying hd, Result.andThen_ok, run_sizeOf hei, if_pos hz, sameAddr, beq_self_eq_true, if_true, Sem.run_pure]
        congr 1
        rw [Bool.eq_iff_iff]; simp
      · rw [hz] at h; cases h
    · cases h
  · rename_i info _ x y hi hd
    obtain rfl := VR.v_iff.1 hx
    obtain rfl := VR.v_iff.1 hy
    cases hc : info.comparable
    · rw [hc] at h; cases h
    rw [hc] at h
    simp only [cond_true] at h
    cases hp : pureRun E.P (Op.equalIn 9999 t xv yv) with
    | none => rw [hp] at h; cases h
    | some r' => rw [hp] at h; cases h; exact ⟨rfl, info, hi, hc, pureRun_ok hp w⟩
  · cases h

/-- '==' at addresses and nil: the model's word. -/
theorem sEql_ok {t : TypeId} {x y : SV} {xv yv : Value} {r : Bool} (h : sEql E t x y s = some (r, s')) (hx : VR ν x xv) (hy : VR ν y yv) :
    s' = s ∧ (Op.equal t xv yv).run E.P w = .ok r w ∧ (∀ op a b, (eqGuard op t a b xv yv).run E.P w = .ok () w) ∧ binOp .eql t xv yv = (do pure (.bool (← Op.equal t xv yv))) ∧
      binOp .neq t xv yv = (do pure (.bool (!(← Op.equal t xv yv)))) := by
  have eg : ∀ {xv yv : Value} (op : BinOp) (a b : Operand), (∀ c, xv ≠ .agg c) → ¬ (xv = .nilIface ∧ yv = .nilIface) → (eqGuard op t a b xv yv).run E.P w = .ok () w := by
    intro xv yv op a b h1 h2
    unfold eqGuard
    cases op <;> simp <;> (cases xv <;> first | rfl | (exact absurd rfl (h1 _)) | (cases yv <;> first | rfl | (exact absurd ⟨rfl, rfl⟩ h2)))
  unfold sEql at h
  split at h
  · rename_i e i o j p hd
    cases hij : (i == j)
    · rw [hij] at h; cases h
    rw [hij] at h
    obtain rfl : i = j := by simpa using hij
    simp only [cond_true] at h
    obtain ⟨b, hb, rfl⟩ := VR.ptr_iff.1 hx
    obtain ⟨b', hb', rfl⟩ := VR.ptr_iff.1 hy
    rw [hb] at hb'; cases hb'
    split at h
    · rename_i info hinfo
      cases hz : (info.size == 0)
      · rw [hz] at h; cases h
        have hz : info.size ≠ 0 := by simpa using hz
        refine ⟨rfl, ?_, fun op a b => eg op a b (by intro c e; cases e) (by intro e; cases e.1), rfl, rfl⟩
        rw [Op.equal, show Op.maxDepth = 9999 + 1 from rfl, Op.equalIn]
        simp only [Sem.run_bind, run_underlying hd, Result.andThen_ok, run_sizeOf hinfo, if_pos hz, sameAddr, beq_self_eq_true, if_true, Sem.run_pure]
        congr 1
        rw [Bool.eq_iff_iff]; simp
      · rw [hz] at h; cases h
    · cases h
  all_goals first
    | (rename_i ms t1 x1 t2 y1 hd
       obtain ⟨v1, rfl, hv1⟩ := VR.iface_iff.1 hx
       obtain ⟨v2, rfl, hv2⟩ := VR.iface_iff.1 hy
       cases ht : (t1 == t2)
       · rw [ht] at h; cases h
         refine ⟨rfl, ?_, fun op a b => eg op a b (by intro c e; cases e) (by intro e; cases e.1), rfl, rfl⟩
         rw [Op.equal, show Op.maxDepth = 9999 + 1 from rfl, Op.equalIn]
         have ht : t1 ≠ t2 := by simpa using ht
         simp only [Sem.run_bind, run_underlying hd, Result.andThen_ok, if_pos ht, Sem.run_pure]
       · rw [ht] at h
         obtain rfl : t1 = t2 := by simpa using ht
         obtain ⟨rfl, info, hi, hc, hrun⟩ := sEqI_ok (w := w) h hv1 hv2
         refine ⟨rfl, ?_, fun op a b => eg op a b (by intro c e; cases e) (by intro e; cases e.1), rfl, rfl⟩
         rw [Op.equal, show Op.maxDepth = 9999 + 1 from rfl, Op.equalIn]
         simp [run_underlying hd, run_typeInfo hi, hc, hrun])
    | (rename_i hd
       cases h
       first | (obtain ⟨b, _, rfl⟩ := VR.ptr_iff.1 hx) | (obtain ⟨b, _, _, rfl⟩ := VR.sl_iff.1 hx) | (obtain ⟨b, _, rfl⟩ := VR.fin_iff.1 hx) | (obtain ⟨b, _, rfl⟩ := VR.map_iff.1 hx) | (obtain ⟨b, rfl, _⟩ := VR.iface_iff.1 hx) | (obtain ⟨b, c, rfl, _⟩ := VR.func_iff.1 hx) | (obtain rfl := VR.v_iff.1 hx)
       first | (obtain ⟨b, _, rfl⟩ := VR.ptr_iff.1 hy) | (obtain ⟨b, _, _, rfl⟩ := VR.sl_iff.1 hy) | (obtain ⟨b, _, rfl⟩ := VR.fin_iff.1 hy) | (obtain ⟨b, _, rfl⟩ := VR.map_iff.1 hy) | (obtain ⟨b, rfl, _⟩ := VR.iface_iff.1 hy) | (obtain ⟨b, c, rfl, _⟩ := VR.func_iff.1 hy) | (obtain rfl := VR.v_iff.1 hy)
       refine ⟨rfl, ?_, fun op a b => eg op a b (by intro c e; cases e) (by intro e; obtain ⟨e1, e2⟩ := e; first | (cases e2; done) | (cases e1; done)), rfl, rfl⟩
       rw [Op.equal, show Op.maxDepth = 9999 + 1 from rfl, Op.equalIn]
       simp only [Sem.run_bind, run_underlying hd, Result.andThen_ok]
       rfl)
    | cases h

theorem sEqlFar_ok {t : TypeId} {x y : SV} {xv yv : Value} (h : sEqlFar E t x y s = true) (hr : HR ν M w0 s w) (hx : VR ν x xv) (hy : VR ν y yv) :
    (Op.equal t xv yv).run E.P w = .ok false w ∧ (∀ op a b, (eqGuard op t a b xv yv).run E.P w = .ok () w) ∧ binOp .eql t xv yv = (do pure (.bool (← Op.equal t xv yv))) ∧
      binOp .neq t xv yv = (do pure (.bool (!(← Op.equal t xv yv)))) := by
  unfold sEqlFar at h
  split at h
  · rename_i e i o j p hd
    split at h
    · rename_i info xs el ext m ys el' ext' m' hinfo hi hj
      rw [Bool.and_eq_true] at h
      obtain ⟨hz, hij⟩ := h
      have hz : info.size ≠ 0 := by simpa using hz
      have hij : i ≠ j := by simpa using hij
      obtain ⟨b, hb, rfl⟩ := VR.ptr_iff.1 hx
      obtain ⟨c, hc, rfl⟩ := VR.ptr_iff.1 hy
      obtain ⟨hi1, hi2, b', ob, hb', hob, hor, _⟩ := hr.look hi
      rw [hb] at hb'; cases hb'
      obtain ⟨hj1, hj2, c', oc, hc', hoc, hoc', _⟩ := hr.look hj
      rw [hc] at hc'; cases hc'
      obtain ⟨l1, r1, rfl, _⟩ := hor
      obtain ⟨l2, r2, rfl, _⟩ := hoc'
      have hne : b.1 ≠ c.1 := fun e => hij (hr.inj i j hi1 hj1 (by rw [hi2]; simp) (by rw [hj2]; simp) b c hb hc e)
      have hna : (⟨b.1, o, none⟩ : Addr) ≠ ⟨c.1, p, none⟩ := fun e => hne (congrArg Addr.block e)
      have hrun := run_sameAddr_other (P := E.P) (w := w) hna hob hoc
      refine ⟨?_, fun op a b => by cases op <;> rfl, rfl, rfl⟩
      rw [Op.equal, show Op.maxDepth = 9999 + 1 from rfl, Op.equalIn]
      simp only [Sem.run_bind, run_underlying hd, Result.andThen_ok, run_sizeOf hinfo, if_pos hz, hrun, Sem.run_pure]
    · cases h
  · cases h

theorem cellSame_ok {t : TypeId} {x y : Value} {p : Prop} (h : cellSame E t x y = some p) (d : Nat) : ∃ b, (Op.equalIn (d + 1) t x y).run E.P w = .ok b w ∧ (b = true ↔ p) := by
  unfold cellSame at h
  split at h
  · rename_i k k1 a k2 b hd
    cases hk : (k1 == k2)
    · rw [hk] at h; cases h
    · rw [hk] at h; cases h
      obtain rfl : k1 = k2 := by simpa using hk
      exact ⟨_, run_equalIn_int w d t _ _ a b hd, by simp⟩
  · rename_i a b hd
    cases h
    refine ⟨_, run_equalIn_string w d t a b hd, ?_⟩
    rw [beq_iff_eq, ByteArray.toList_eq, ByteArray.toList_eq]
    obtain ⟨⟨x⟩⟩ := a
    obtain ⟨⟨y⟩⟩ := b
    simp
  · rename_i a b hd
    cases h
    exact ⟨_, run_equalIn_bool' w d t a b hd, by simp⟩
  · cases h

theorem cellSame_part {t : TypeId} {x y z : Value} {p : Prop} {xs : Array Value} {n : Nat} (h : cellSame E t x y = some p) (hx : xs[n]? = some z) : (part t xs n).run E.P w = .ok z w := by
  unfold cellSame at h
  have : ∀ {d : TypeDesc}, E.P.underlying t = some d → (∀ n e, d ≠ .array n e) → (∀ f, d ≠ .struct f) → (part t xs n).run E.P w = .ok z w := by
    intro d hd h1 h2
    cases d <;> first | exact (h1 _ _ rfl).elim | exact (h2 _ rfl).elim | simp [part, isAgg, run_underlying hd, hx]
  split at h
  · rename_i hd; exact this hd (by intro _ _ e; cases e) (by intro _ e; cases e)
  · rename_i hd; exact this hd (by intro _ _ e; cases e) (by intro _ e; cases e)
  · rename_i hd; exact this hd (by intro _ _ e; cases e) (by intro _ e; cases e)
  · cases h

theorem cellsSame_ok {xs ys : Array Value} (d : Nat) : ∀ {fs : List Field} {p : Prop}, cellsSame E xs.toList ys.toList fs = some p → ∃ b, (Op.eqFields (d + 1) xs ys fs).run E.P w = .ok b w ∧ (b = true ↔ p)
  | [], p, h => by
    cases h
    exact ⟨true, rfl, by simp⟩
  | f :: fs, p, h => by
    unfold cellsSame at h
    cases hn : (f.name == "_")
    · rw [hn] at h
      simp only [cond_false] at h
      have hn : f.name ≠ "_" := by simpa using hn
      split at h
      · rename_i x y hx hy
        split at h
        · rename_i p1 p2 h1 h2
          cases h
          rw [Array.getElem?_toList] at hx hy
          obtain ⟨b1, hb1, hp1⟩ := cellSame_ok (w := w) h1 d
          obtain ⟨b2, hb2, hp2⟩ := cellsSame_ok d h2
          have e1 := cellSame_part (w := w) h1 hx
          have e2 := cellSame_part (w := w) h1 hy
          refine ⟨b1 && b2, ?_, ?_⟩
          · unfold Op.eqFields
            simp only [ne_eq, hn, not_false_eq_true, if_true, Sem.run_bind, e1, e2, hb1, Result.andThen_ok]
            cases b1
            · simp
            · simp [hb2]
          · rw [Bool.and_eq_true, hp1, hp2]
        · cases h
      · cases h
    · rw [hn] at h; cases h

theorem sEqS_ok {op : BinOp} {t : TypeId} {x y : SV} {xv yv : Value} {r : Bool} (h : sEqS E op t x y s = some (r, s')) (hx : VR ν x xv) (hy : VR ν y yv) :
    ∃ p, s' = s.owe p ∧ ∀ (a b : Operand) (w : World), p → (do eqGuard op t a b xv yv; binOp op t xv yv).run E.P w = .ok (.bool r) w := by
  have key : ∀ {b r : Bool}, sEqS.go E t s x y b r = some (r, s') → ∃ p xs ys, xv = .agg xs ∧ yv = .agg ys ∧ s' = s.owe p ∧ E.P.eqGuardType E.P.depth t = false ∧ ∀ w, p → (Op.equalIn 10000 t xv yv).run E.P w = .ok b w := by
    intro b r h
    unfold sEqS.go at h
    split at h
    · rename_i xs ys fs hpx hpy hd
      cases hg : (E.P.stoodInHeld t || E.P.eqGuardType E.P.depth t)
      · rw [hg] at h
        simp only [cond_false] at h
        rw [Bool.or_eq_false_iff] at hg
        obtain ⟨g1, g2⟩ := hg
        cases hc : cellsSame E xs.toList ys.toList fs.toList with
        | none => rw [hc] at h; cases h
        | some p =>
          rw [hc] at h; cases h
          obtain rfl := plainV_ok hpx hx
          obtain rfl := plainV_ok hpy hy
          have hf : E.P.fieldsOf t = fs := by
            have hd' : E.P.underlying t = some (.struct fs) := hd
            unfold Program.fieldsOf; rw [hd']
          refine ⟨_, xs, ys, rfl, rfl, rfl, g2, fun w hp => ?_⟩
          have ht : E.P.underlying t = some (.struct (E.P.fieldsOf t)) := by rw [hf]; exact hd
          obtain ⟨b', hb', hpp⟩ := cellsSame_ok (w := w) 9998 hc
          rw [run_equalIn_struct w 9999 t xs ys ht g1, hf, hb']
          congr 1
          cases b
          · simp only [cond_false] at hp
            cases b'
            · rfl
            · exact (hp (hpp.1 rfl)).elim
          · simp only [cond_true] at hp
            exact hpp.2 hp
      · rw [hg] at h; cases h
    · cases h
  unfold sEqS at h
  split at h
  · rename_i b _
    have hr : r = b := by
      unfold sEqS.go at h
      split at h
      · cases hg : (E.P.stoodInHeld t || E.P.eqGuardType E.P.depth t)
        · rw [hg] at h
          simp only [cond_false] at h
          cases hc : cellsSame E _ _ _ with
          | none => rw [hc] at h; cases h
          | some p => rw [hc] at h; cases h; rfl
        · rw [hg] at h; cases h
      · cases h
    subst hr
    obtain ⟨p, xs, ys, rfl, rfl, rfl, hg, hp⟩ := key h
    refine ⟨p, rfl, fun a b w ob => ?_⟩
    simp only [Sem.run_bind, run_eqGuard_agg w _ _ _ _ _ _ hg, Result.andThen_ok, run_eql_struct, hp w ob]
  · rename_i b _
    have hr : r = !b := by
      unfold sEqS.go at h
      split at h
      · cases hg : (E.P.stoodInHeld t || E.P.eqGuardType E.P.depth t)
        · rw [hg] at h
          simp only [cond_false] at h
          cases hc : cellsSame E _ _ _ with
          | none => rw [hc] at h; cases h
          | some p => rw [hc] at h; cases h; rfl
        · rw [hg] at h; cases h
      · cases h
    subst hr
    obtain ⟨p, xs, ys, rfl, rfl, rfl, hg, hp⟩ := key h
    refine ⟨p, rfl, fun a b w ob => ?_⟩
    simp only [Sem.run_bind, run_eqGuard_agg w _ _ _ _ _ _ hg, Result.andThen_ok, run_neq_struct, hp w ob]
  · cases h

end
end Go.Rx
