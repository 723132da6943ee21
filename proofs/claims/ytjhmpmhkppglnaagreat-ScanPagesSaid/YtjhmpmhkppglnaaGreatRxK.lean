/- The symbolic executor 'Rx', part K: append and copy. By an AI agent. -/
import Derived.Test.YtjhmpmhkppglnaaGreatRxJ
set_option linter.unusedVariables false
set_option linter.unusedSimpArgs false
namespace Go.Rx
section
variable {ν : Val} {M : Own} {w0 w : World} {s s' : SH} {E : Env}

/-- A new number for a block that no object stands for. -/
theorem HR.adopt {w' : World} (h : HR ν M w0 s w) (hr : s.room = true) {o : SO} {r : Obj} {B : Nat} (c : Nat)
    (hB : w0.heap.size ≤ B ∨ M B) (hun : ∀ j, j < 2 ^ s.d → s.H.get j ≠ none → ∀ b, ν j = some b → b.1 ≠ B)
    (ho : OR (ν.put s.nx (B, c)) s.nx o r) (hw : w'.heap[B]? = some r) (hk : ∀ k, k ≠ B → w'.heap[k]? = w.heap[k]?) (hsz : w0.heap.size ≤ w'.heap.size)
    (hos : w'.os = w.os) (ht : w'.tape = w.tape) (hout : w'.output = w.output) :
    ν.Le (ν.put s.nx (B, c)) ∧ HR (ν.put s.nx (B, c)) M w0 (s.new o) w' := by
  have hnx : ν s.nx = none := h.fresh _ (Nat.le_refl _)
  have hlt : s.nx < 2 ^ s.d := blt_iff.1 hr
  have hle := Val.put_le hnx (B, c)
  have hput : ∀ j, j ≠ s.nx → (ν.put s.nx (B, c)) j = ν j := fun j e => by simp [Val.put, e]
  refine ⟨hle, h.full.set _ _, ?_, ?_, ?_, ?_, hsz, ?_, ?_, hos.trans h.os, ht.trans h.tape, hout.trans h.output⟩
  · intro i hi
    have hi : 2 ^ s.d ≤ i := hi
    rw [hput i (by omega)]; exact h.dom i hi
  · intro i hi
    have hi : s.nx + 1 ≤ i := hi
    rw [hput i (by omega)]; exact h.fresh i (by omega)
  · intro j hj y hy
    have hj : j < 2 ^ s.d := hj
    have hy : (s.H.set s.nx (some (o, true))).get j = some y := hy
    rw [Tr.get_set h.full hlt hj] at hy
    by_cases e : j = s.nx
    · subst e
      rw [if_pos rfl] at hy
      cases hy
      exact ⟨(B, c), r, Val.put_self _ _ _, hw, ho, fun _ => hB⟩
    · rw [if_neg e] at hy
      obtain ⟨b, o', hb, ho', hr', hown⟩ := h.obj j hj y hy
      have hne := hun j hj (by rw [hy]; simp) b hb
      exact ⟨b, o', by rw [hput j e]; exact hb, by rw [hk _ hne]; exact ho', hr'.mono hle, hown⟩
  · intro i j hi hj hgi hgj b b' hb hb' e
    have hi : i < 2 ^ s.d := hi
    have hj : j < 2 ^ s.d := hj
    have g : ∀ u, u < 2 ^ s.d → u ≠ s.nx → (s.new o).H.get u ≠ none → s.H.get u ≠ none := by
      intro u hu ne hn
      have hn : (s.H.set s.nx (some (o, true))).get u ≠ none := hn
      rwa [Tr.get_set h.full hlt hu, if_neg ne] at hn
    by_cases ei : i = s.nx <;> by_cases ej : j = s.nx
    · rw [ei, ej]
    · subst ei
      rw [Val.put_self] at hb; cases hb
      rw [hput j ej] at hb'
      exact absurd e.symm (hun j hj (g j hj ej hgj) b' hb')
    · subst ej
      rw [Val.put_self] at hb'; cases hb'
      rw [hput i ei] at hb
      exact absurd e (hun i hi (g i hi ei hgi) b hb)
    · rw [hput i ei] at hb
      rw [hput j ej] at hb'
      exact h.inj i j hi hj (g i hi ei hgi) (g j hj ej hgj) b b' hb hb' e
  · intro b hb hM
    by_cases e : b = B
    · subst e
      rcases hB with h1 | h1
      · omega
      · exact absurd h1 hM
    · rw [hk b e]; exact h.frame b hb hM
  · intro j hj y hy hf b hb
    have hj : j < 2 ^ s.d := hj
    have hy : (s.H.set s.nx (some (o, true))).get j = some y := hy
    rw [Tr.get_set h.full hlt hj] at hy
    by_cases e : j = s.nx
    · rw [if_pos e] at hy; cases hy; cases hf
    · rw [if_neg e] at hy
      rw [hput j e] at hb
      exact h.ro j hj y hy hf b hb

/-- The new number of a row that is appended to in place. -/
theorem HR.move {w' : World} (h : HR ν M w0 s w) {i : Nat} {x : SO} (e : s.look i = some (x, true)) {b : Nat × Nat} (hb : ν i = some b) (hroom : (s.drop i).room = true) {o : SO} {r : Obj}
    (ho : OR (ν.put s.nx b) s.nx o r) (hw : w'.heap = w.heap.setIfInBounds b.1 r) (hos : w'.os = w.os) (ht : w'.tape = w.tape) (hout : w'.output = w.output) :
    ν.Le (ν.put s.nx b) ∧ HR (ν.put s.nx b) M w0 ((s.drop i).new o) w' := by
  obtain ⟨hi, hg, b', o', hb', ho', _, hown⟩ := h.look e
  obtain rfl : b = b' := by rw [hb] at hb'; exact Option.some.inj hb'
  have hlt : b.1 < w.heap.size := (Array.getElem?_eq_some_iff.1 ho').1
  refine (h.drop hi).adopt (w' := w') (B := b.1) (r := r) hroom b.2 (hown rfl) ?_ ho (by rw [hw]; simp [hlt]) ?_ (by rw [hw]; simpa using h.size) hos ht hout
  · intro j hj hn c hc ec
    have hn : (s.H.set i none).get j ≠ none := hn
    have hj : j < 2 ^ s.d := hj
    rw [Tr.get_set h.full hi hj] at hn
    by_cases eji : j = i
    · rw [if_pos eji] at hn; exact hn rfl
    · rw [if_neg eji] at hn
      exact eji (h.inj j i hj hi hn (by rw [hg]; simp) c b hc hb ec)
  · intro k hk
    rw [hw, Array.getElem?_setIfInBounds, if_neg (fun e => hk e.symm)]

theorem sGrow_ok {st xt elem : TypeId} {info : TypeInfo} {base : Option Addr} {len cap n need : Nat} {yv : Value} {old new : List Value} {oldS newS : List SV} {y : SV} {ty : TypeId}
    (h : sGrow info elem oldS newS need s = some (y, s')) (hneed : need = len + n) (hr : HR ν M w0 s w)
    (A : AppTo E st xt elem info n yv new w)
    (hold : ∀ k, (Builtin.firstCells info.size len (.slice base len cap)).run E.P { w with drawn := k } = .ok old.toArray { w with drawn := k })
    (ho : VRL ν oldS old) (hnw : VRL ν newS new) (hol : old.length = len * info.size) (hnl : new.length = n * info.size) (hroom : cap < len + n) :
    (s'.ob = s.ob) ∧ GoodV E.P (Builtin.append_ #[st, xt] ty #[.slice base len cap, yv]) ν M w0 w y s' := by
  unfold sGrow at h
  cases hz : info.zero with
  | none => rw [hz] at h; cases h
  | some z =>
  rw [hz] at h
  simp only [Option.bind_eq_bind, Option.bind_some] at h
  cases hg : guard' (z.cells.size == info.size && Nat.ble ((2 * need + 1024) * info.bytes) (2 ^ 47) && !(info.bytes == 0)) with
  | none => rw [hg] at h; cases h
  | some u =>
  rw [hg] at h
  simp only [Option.bind_some] at h
  have hg := guard_ok hg
  rw [Bool.and_eq_true, Bool.and_eq_true] at hg
  obtain ⟨⟨g1, g2⟩, g3⟩ := hg
  have g1 : z.cells.size = info.size := by simpa using g1
  have g2 := Nat.le_of_ble_eq_true g2
  have g3 : info.bytes ≠ 0 := by simpa using g3
  subst hneed
  obtain ⟨newCap, k, hcap, rest, hrest, hrun⟩ := A.grow (ty := ty) hz g1 g3 hold hroom g2
  cases hnw' : sNew (.row (oldS ++ newS) elem (0, 0) (some info.size)) s with
  | none => rw [hnw'] at h; cases h
  | some p =>
  obtain ⟨i, s1⟩ := p
  rw [hnw'] at h; cases h
  have hl : VRL ν (oldS ++ newS) (old ++ new) := ho.append hnw
  obtain ⟨hob, ν', hle, hi', hr'⟩ := sNew_ok hnw' (hr.drawn k) newCap (r := .cells (old ++ new ++ rest).toArray elem)
    (fun ν' hle hi' => ⟨old ++ new, rest, rfl, hl.mono hle, by
      refine ⟨by rw [← hl.length]; simp, _, hi', ?_⟩
      simp only [List.length_append, hol, hnl, hrest]
      rw [← Nat.add_mul, ← Nat.add_mul]
      congr 1; omega⟩)
  refine ⟨hob, ν', _, _, hle, hrun, VR.sl_iff.2 ⟨_, hi', by simpa using hcap, by simp⟩, hr'⟩

theorem sFirst_ok' {size n : Nat} {x : SV} {l : List SV} {y : Value} (h : sFirst size n x s = some l) (hr : HR ν M w0 s w) (hv : VR ν x y) :
    ∃ ys : List Value, (∀ k, (Builtin.firstCells size n y).run E.P { w with drawn := k } = .ok ys.toArray { w with drawn := k }) ∧ VRL ν l ys := by
  -- the same list whatever the count of draws: by the text of sFirst_ok
  unfold sFirst at h
  split at h
  · cases h; obtain rfl := VR.v_iff.1 hv; exact ⟨[], fun _ => rfl, VRL.nil⟩
  · rename_i b
    cases h; obtain rfl := VR.v_iff.1 hv
    refine ⟨(b.extract 0 n).data.toList.map fun c => .int .u8 c.toNat, fun k => ?_, ?_⟩
    · simp only [Builtin.firstCells, Sem.run_pure]
      congr 1
      apply Array.ext'
      simp
    · have := VRL.lits ν ((b.extract 0 n).data.toList.map fun c => Value.int .u8 c.toNat)
      rwa [List.map_map] at this
  · obtain ⟨b, _, rfl⟩ := VR.fin_iff.1 hv
    cases hn : (n == 0)
    · rw [hn] at h; cases h
    · rw [hn] at h; cases h
      obtain rfl : n = 0 := by simpa using hn
      refine ⟨[], fun k => ?_, VRL.nil⟩
      simp [Builtin.firstCells, loadCells, loadCellsFrom]
  · rename_i i off len cap
    obtain ⟨b, hb, _, rfl⟩ := VR.sl_iff.1 hv
    split at h
    · rename_i xs e fz ext own hl
      cases hle : Nat.ble (off + n * size) xs.length
      · rw [hle] at h; cases h
      · rw [hle] at h; cases h
        have hle := Nat.le_of_ble_eq_true hle
        obtain ⟨_, _, b', o, hb', ho, hor, _⟩ := hr.look hl
        rw [hb] at hb'; cases hb'
        obtain ⟨ys, rest, rfl, hvl, _⟩ := hor
        have hlen := hvl.length
        refine ⟨(ys.drop off).take (n * size), fun k => ?_, (hvl.drop off).take _⟩
        refine run_loadCells ?_ (by simp; omega)
        intro k' hk
        rw [cell_at (w := { w with drawn := k }) ho, List.getElem?_take, if_pos hk, List.getElem?_drop]
        have : off + k' < ys.length := by omega
        simp [List.getElem?_append_left this]
    · cases h
  · cases h

theorem sFirst_length {size n : Nat} {x : SV} {l : List SV} {m : Nat} (h : sFirst size n x s = some l) (hx : ∃ i off len cap, x = .sl i off len cap) (hm : m = n * size) : l.length = m := by
  obtain ⟨i, off, len, cap, rfl⟩ := hx
  unfold sFirst at h
  simp only at h
  split at h
  · rename_i xs e fz ext own hl
    cases hle : Nat.ble (off + n * size) xs.length
    · rw [hle] at h; cases h
    · rw [hle] at h; cases h
      have hle := Nat.le_of_ble_eq_true hle
      simp; omega
  · cases h

theorem spliceV_eq (ys : List Value) (off : Nat) (zs : List Value) (h : off + zs.length ≤ ys.length) : spliceV ys off zs = ys.take off ++ zs ++ ys.drop (off + zs.length) := by
  induction zs generalizing ys off with
  | nil => simp [spliceV]
  | cons z zs ih =>
    simp only [List.length_cons] at h
    rw [spliceV, ih _ _ (by simp; omega)]
    have h1 : (ys.set off z).take (off + 1) = ys.take off ++ [z] := by
      rw [List.take_add_one, List.take_set_of_le (Nat.le_refl _)]
      have : off < ys.length := by omega
      simp [this]
    have h2 : (ys.set off z).drop (off + 1 + zs.length) = ys.drop (off + (zs.length + 1)) := by
      rw [List.drop_set_of_lt (by omega)]
      congr 1; omega
    rw [h1, h2]; simp

theorem sGrow_ob {info : TypeInfo} {elem : TypeId} {old new : List SV} {need : Nat} {z : SV} (h : sGrow info elem old new need s = some (z, s')) : s'.ob = s.ob := by
  unfold sGrow at h
  cases hz : info.zero with
  | none => rw [hz] at h; cases h
  | some zz =>
    rw [hz] at h
    simp only [Option.bind_eq_bind, Option.bind_some] at h
    cases hg : guard' (zz.cells.size == info.size && Nat.ble ((2 * need + 1024) * info.bytes) (2 ^ 47) && !(info.bytes == 0)) with
    | none => rw [hg] at h; cases h
    | some u =>
      rw [hg] at h
      simp only [Option.bind_some] at h
      unfold sNew at h
      cases hroom : s.room
      · rw [hroom] at h; cases h
      · rw [hroom] at h; cases h; rfl

theorem sAppended_ok {st xt elem : TypeId} {info : TypeInfo} {y : SV} {yv : Value} {n : Nat} {new : List SV} (h : sAppended E xt info y s = some (n, new)) (hst : tdesc E st = some (.slice elem)) (hi : tinfo E elem = some info)
    (hr : HR ν M w0 s w) (hy : VR ν y yv) : ∃ nv, AppTo E st xt elem info n yv nv w ∧ VRL ν new nv ∧ nv.length = n * info.size := by
  unfold sAppended at h
  split at h
  · rename_i ik hxt
    split at h
    · rename_i k m
      obtain rfl := VR.v_iff.1 hy
      cases hb : (decide (0 ≤ m ∧ m ≤ 2 ^ 40) && Nat.ble (m.toNat * info.bytes) (2 ^ 47))
      · rw [hb] at h; cases h
      · rw [hb] at h
        simp only [cond_true] at h
        rw [Bool.and_eq_true] at hb
        cases hz : zeros info m.toNat with
        | none => rw [hz] at h; cases h
        | some l =>
        rw [hz] at h; cases h
        obtain ⟨z, hz1, hz2, hv⟩ := zeros_ok (ν := ν) hz
        rw [← hz2] at hv
        exact ⟨_, AppTo.zeros hst hxt hi hz1 hz2 (of_decide_eq_true hb.1) (Nat.le_of_ble_eq_true hb.2), hv, by simp [hz2]⟩
    · cases h
  · rename_i d hdd hxt
    have hd : ∀ k, d ≠ .int k := fun k e => hdd k e
    obtain ⟨n', hn, h⟩ := Option.bind_eq_some_iff.1 h
    obtain ⟨new', hnew, h⟩ := Option.bind_eq_some_iff.1 h
    cases hg : (new'.length == n' * info.size)
    · rw [hg] at h; cases h
    · rw [hg] at h; cases h
      obtain ⟨nv, hnv, hnr⟩ := sFirst_ok' (E := E) hnew hr hy
      exact ⟨nv, AppTo.of hst hxt hd hi (sLen_ok (w := w) (E := E) hn hy) hnv, hnr, by rw [hnr.length]; simpa using hg⟩
  · cases h

theorem sAppend0_ok {st xt : TypeId} {x y z : SV} {xv yv : Value} {ty : TypeId} (h : sAppend0 E st xt x y s = some (z, s')) (hr : HR ν M w0 s w) (hx : VR ν x xv) (hy : VR ν y yv) :
    s'.ob → s.ob ∧ GoodV E.P (Builtin.append_ #[st, xt] ty #[xv, yv]) ν M w0 w z s' := by
  unfold sAppend0 at h
  split at h
  · rename_i elem hst
    cases hi : tinfo E elem with
    | none => rw [hi] at h; cases h
    | some info =>
    rw [hi] at h
    simp only [Option.bind_eq_bind, Option.bind_some] at h
    cases hap : sAppended E xt info y s with
    | none => rw [hap] at h; cases h
    | some q =>
    obtain ⟨n, new⟩ := q
    rw [hap] at h
    simp only [Option.bind_some] at h
    obtain ⟨nv, A, hnr, hnvl⟩ := sAppended_ok (st := st) (elem := elem) hap hst hi hr hy
    have hnl : new.length = n * info.size := by rw [← hnr.length, hnvl]
    split at h
    · -- nil
      obtain rfl := VR.v_iff.1 hx
      cases hdec : s.dec E (decide (n = 0)) with
      | mk e s1 =>
      rw [hdec] at h
      obtain ⟨hsame, hob⟩ := SH.dec_ok hdec
      cases e
      · simp only [cond_false] at h
        intro ob
        rw [sGrow_ob h] at ob
        have h0 : n ≠ 0 := of_decide_eq_false (hob ob).2
        exact ⟨(hob ob).1, (sGrow_ok (ty := ty) (len := 0) (old := []) h (by omega) (hr.same hsame) A (fun k => rfl) VRL.nil hnr (by simp) hnvl (by omega)).2⟩
      · simp only [cond_true] at h
        cases h
        refine fun ob => ⟨(hob ob).1, ?_⟩
        have h0 := of_decide_eq_true (hob ob).2
        subst h0
        refine GoodV.now (hr.same hsame) ?_ (VR.v_iff.2 rfl)
        exact A.room (w' := w) (base := none) (len := 0) (cap := 0) (by omega) rfl
    · -- a slice whose room is told
      rename_i i off len cap
      obtain ⟨c, hc, hlen, rfl⟩ := VR.sl_iff.1 hx
      simp only [Option.getD_some] at hlen
      cases hdec : s.dec E (decide (len + n ≤ cap)) with
      | mk e s1 =>
      rw [hdec] at h
      obtain ⟨hsame, hob⟩ := SH.dec_ok hdec
      cases e
      · simp only [cond_false] at h
        cases hold : sFirst info.size len (.sl i off len (some cap)) s1 with
        | none => rw [hold] at h; cases h
        | some old =>
        rw [hold] at h
        simp only [Option.bind_some] at h
        intro ob
        rw [sGrow_ob h] at ob
        have h0 : ¬ len + n ≤ cap := of_decide_eq_false (hob ob).2
        obtain ⟨ov, hov, hor⟩ := sFirst_ok' (E := E) hold (hr.same hsame) hx
        have hol := sFirst_length hold ⟨_, _, _, _, rfl⟩ rfl
        exact ⟨(hob ob).1, (sGrow_ok (ty := ty) h rfl (hr.same hsame) A hov hor hnr (by rw [hor.length, hol]) hnvl (by simp only [Option.getD_some]; omega)).2⟩
      · simp only [cond_true] at h
        split at h
        · rename_i xs el fz ext hl
          cases hb2 : (Nat.ble (off + len * info.size + new.length) xs.length && fzOk fz (off + len * info.size) new.length && new.all SV.flat)
          · rw [hb2] at h; cases h
          · rw [hb2] at h; cases h
            rw [Bool.and_eq_true, Bool.and_eq_true] at hb2
            intro ob
            have ob : s1.ob := ob
            have h0 := of_decide_eq_true (hob ob).2
            obtain ⟨w', hrun, hr'⟩ := (hr.same hsame).spliced (E := E) hl hc hnr (Nat.le_of_ble_eq_true hb2.1.1) hb2.1.2 hb2.2
            refine ⟨(hob ob).1, ν, w', _, Val.Le.refl _, A.room (w' := w') (by simp only [Option.getD_some]; exact h0) ?_, VR.sl_iff.2 ⟨c, hc, ?_, rfl⟩, hr'⟩
            · simp only [addr_add]; exact hrun
            · simp only [Option.getD_some]; exact h0
        · cases h
    · -- a slice whose room is not told
      rename_i i len
      obtain ⟨c, hc, hlen, rfl⟩ := VR.sl_iff.1 hx
      simp only [Option.getD_none] at hlen
      cases hdec : s.dec E (decide (n = 0)) with
      | mk e s1 =>
      rw [hdec] at h
      obtain ⟨hsame, hob⟩ := SH.dec_ok hdec
      cases e
      · simp only [cond_false] at h
        split at h
        · rename_i xs el es hl
          cases hb2 : ((es == info.size && !(info.size == 0)) && Nat.ble (len * info.size) xs.length && new.all SV.flat && el == elem)
          · rw [hb2] at h; cases h
          rw [hb2] at h
          rw [Bool.and_eq_true, Bool.and_eq_true, Bool.and_eq_true, Bool.and_eq_true] at hb2
          obtain ⟨⟨⟨⟨h1, g4⟩, h2⟩, h3⟩, h4⟩ := hb2
          have g4 : info.size ≠ 0 := by simpa using g4
          obtain rfl : es = info.size := by simpa using h1
          obtain rfl : el = elem := by simpa using h4
          have h2 := Nat.le_of_ble_eq_true h2
          simp only [cond_true] at h
          have hr1 := hr.same hsame
          obtain ⟨_, _, b', o, hb', ho, hor, _⟩ := hr1.look hl
          rw [hc] at hb'; cases hb'
          obtain ⟨ys, rest, rfl, hvl, hxle, b'', hb'', hsize⟩ := hor
          rw [hc] at hb''; cases hb''
          cases hin : Nat.ble ((len + n) * info.size) xs.length
          · rw [hin] at h
            simp only [cond_false] at h
            cases hz : info.zero with
            | none => rw [hz] at h; cases h
            | some zz =>
            rw [hz] at h
            simp only [Option.bind_some] at h
            cases hg2 : guard' (zz.cells.size == info.size && Nat.ble ((2 * (len + n) + 1024) * info.bytes) (2 ^ 47) && !(info.bytes == 0)) with
            | none => rw [hg2] at h; cases h
            | some u =>
            rw [hg2] at h
            simp only [Option.bind_some] at h
            have hg2 := guard_ok hg2
            rw [Bool.and_eq_true, Bool.and_eq_true] at hg2
            obtain ⟨⟨g1, g2⟩, g3⟩ := hg2
            have g1 : zz.cells.size = info.size := by simpa using g1
            have g2 := Nat.le_of_ble_eq_true g2
            have g3 : info.bytes ≠ 0 := by simpa using g3
            unfold sNew at h
            cases hroom : (s1.drop i).room
            · rw [hroom] at h; cases h
            rw [hroom] at h; cases h
            intro ob
            have ob : s1.ob := ob
            have h0 : n ≠ 0 := of_decide_eq_false (hob ob).2
            refine ⟨(hob ob).1, ?_⟩
            have hylen := hvl.length
            have holdv : ∀ k, (Builtin.firstCells info.size len (.slice (some ⟨c.1, 0, none⟩) len c.2)).run E.P { w with drawn := k } = .ok (ys.take (len * info.size)).toArray { w with drawn := k } := by
              intro k
              refine run_loadCells ?_ (by simp; omega)
              intro k' hk
              rw [cell_at (w := { w with drawn := k }) ho, List.getElem?_take, if_pos hk]
              have : 0 + k' < ys.length := by omega
              simp [List.getElem?_append_left this]
              simp at this
              rw [List.getElem?_append_left this]
            by_cases hfit : len + n ≤ c.2
            · -- in place
              have hcap : (len + n) * info.size ≤ (ys ++ rest).length := by rw [hsize]; exact Nat.mul_le_mul_right _ hfit
              have hmul : (len + n) * info.size = len * info.size + n * info.size := Nat.add_mul _ _ _
              have hrun := run_storeCells (P := E.P) (b := c.1) (off := len * info.size) (e := el) (fz := (0, 0)) nv 0 w (ys ++ rest) ho (hnr.flat h3) (by omega) (by
                intro k _ _; simp)
              rw [Nat.add_zero] at hrun
              have hspl : spliceV (ys ++ rest) (len * info.size) nv = (ys.take (len * info.size) ++ nv) ++ (ys ++ rest).drop (len * info.size + n * info.size) := by
                rw [spliceV_eq _ _ _ (by omega), hnvl]
                rw [List.take_append_of_le_length (by omega)]
              obtain ⟨hle, hr'⟩ := hr1.move (w' := { w with heap := w.heap.setIfInBounds c.1 (.cells (spliceV (ys ++ rest) (len * info.size) nv).toArray el (0, 0)) }) hl hc hroom
                (o := .row (xs.take (len * info.size) ++ new) el (0, 0) (some info.size)) (r := .cells (spliceV (ys ++ rest) (len * info.size) nv).toArray el (0, 0))
                ⟨ys.take (len * info.size) ++ nv, (ys ++ rest).drop (len * info.size + n * info.size), by rw [fzReal_zero, hspl], ((hvl.take _).append hnr).mono (Val.put_le (hr1.fresh _ (Nat.le_refl _)) c), by
                  refine ⟨?_, c, Val.put_self _ _ _, ?_⟩
                  · simp; omega
                  · rw [← hspl, spliceV_length, hsize]⟩ rfl rfl rfl rfl
              refine ⟨_, _, _, hle, A.room (by simp only [Option.getD_none]; exact hfit) (by simp only [addr_add, Nat.zero_add]; exact hrun), VR.sl_iff.2 ⟨c, Val.put_self _ _ _, by simp only [Option.getD_none]; exact hfit, rfl⟩, hr'⟩
            · -- a new row
              obtain ⟨newCap, k, hcap, rest', hrest', hrun⟩ := A.grow (ty := ty) hz g1 g3 holdv (by omega) g2
              have hi' : i < 2 ^ s1.d := (hr1.look hl).1
              have hl2 := (hvl.take (len * info.size)).append hnr
              have htk : (ys.take (len * info.size)).length = len * info.size := by simp; omega
              have hnx : ν s1.nx = none := hr1.fresh _ (Nat.le_refl _)
              have hle := Val.put_le hnx (w.heap.size, newCap)
              obtain ⟨_, hr'⟩ := ((hr1.drop hi').drawn k).new (w' := { w with drawn := k, heap := w.heap.push (.cells (ys.take (len * info.size) ++ nv ++ rest').toArray el) }) hroom newCap
                (o := .row (xs.take (len * info.size) ++ new) el (0, 0) (some info.size)) (r := .cells (ys.take (len * info.size) ++ nv ++ rest').toArray el)
                ⟨ys.take (len * info.size) ++ nv, rest', rfl, hl2.mono hle, by
                  refine ⟨?_, _, Val.put_self _ _ _, ?_⟩
                  · rw [← hl2.length]; simp
                  · simp only [List.length_append, htk, hnvl, hrest']
                    rw [← Nat.add_mul, ← Nat.add_mul]
                    congr 1; omega⟩ rfl rfl rfl rfl
              refine ⟨_, _, _, hle, hrun, VR.sl_iff.2 ⟨_, Val.put_self _ _ _, by simpa using hcap, rfl⟩, hr'⟩
          · rw [hin] at h
            simp only [cond_true] at h
            cases h
            intro ob
            have ob : s1.ob := ob
            have hin := Nat.le_of_ble_eq_true hin
            refine ⟨(hob ob).1, ?_⟩
            have hmul : (len + n) * info.size = len * info.size + n * info.size := Nat.add_mul _ _ _
            obtain ⟨w', hrun, hr'⟩ := hr1.spliced (E := E) hl hc hnr (off := len * info.size) (by omega) (by simp [fzOk, Nat.ble]) h3
            have hfit : len + n ≤ c.2 := by
              have h5 : (len + n) * info.size ≤ c.2 * info.size := by rw [← hsize]; omega
              exact Nat.le_of_mul_le_mul_right h5 (by omega)
            exact ⟨ν, w', _, Val.Le.refl _, A.room (by simp only [Option.getD_none]; exact hfit) (by simp only [addr_add, Nat.zero_add]; exact hrun), VR.sl_iff.2 ⟨c, hc, by simp only [Option.getD_none]; exact hfit, rfl⟩, hr'⟩
        · cases h
      · simp only [cond_true] at h
        cases h
        refine fun ob => ⟨(hob ob).1, ?_⟩
        have h0 := of_decide_eq_true (hob ob).2
        subst h0
        obtain rfl : nv = [] := List.length_eq_zero_iff.1 (by rw [hnvl]; simp)
        refine GoodV.now (hr.same hsame) ?_ hx
        exact A.room (w' := w) (by simp only [Option.getD_none]; omega) (by simp [storeCells])
    · cases h
  · cases h

/-! ### appends by letters -/

theorem sGrowQ_eq {info : TypeInfo} {elem : TypeId} {old new : List SV} {need : Nat} {z : Value} (hz : info.zero = some z) (h1 : z.cells.size = info.size) (h2 : (2 * need + 1024) * info.bytes ≤ 2 ^ 47) (h3 : info.bytes ≠ 0) :
    sGrow info elem old new need s = sGrowQ info elem old new need s := by
  have hg : guard' (z.cells.size == info.size && Nat.ble ((2 * need + 1024) * info.bytes) (2 ^ 47) && !(info.bytes == 0)) = some () := by
    have e1 : (z.cells.size == info.size) = true := by simpa using h1
    have e2 : Nat.ble ((2 * need + 1024) * info.bytes) (2 ^ 47) = true := by rw [Nat.ble_eq]; exact h2
    have e3 : (info.bytes == 0) = false := by simpa using h3
    rw [e1, e2, e3]; rfl
  unfold sGrow sGrowQ
  rw [hz]
  simp only [Option.bind_eq_bind, Option.bind_some, hg]
  cases sNew (.row (old ++ new) elem (0, 0) (some info.size)) s <;> rfl

theorem sGrowQ_ob {info : TypeInfo} {elem : TypeId} {old new : List SV} {need : Nat} {z : SV} (h : sGrowQ info elem old new need s = some (z, s')) : s'.ob = s.ob := by
  unfold sGrowQ sNew at h
  cases hroom : s.room
  · rw [hroom] at h; cases h
  · rw [hroom] at h; cases h; rfl

theorem told_cells {i : Nat} {xs l : List SV} (h : (s.look i).bind (·.1.told) = some xs) (hr : HR ν M w0 s w) {b : Nat × Nat} (hb : ν i = some b) {off n : Nat} (hl : (xs.drop off).take n = l) (hn : l.length = n) :
    ∃ ys : List Value, (∀ k, (loadCells ⟨b.1, off, none⟩ n).run E.P { w with drawn := k } = .ok ys.toArray { w with drawn := k }) ∧ VRL ν l ys ∧ ys.length = n := by
  obtain ⟨ys, c, e, fz, ho, hvl, hc⟩ := told_ok h hr hb
  have hv := (hvl.drop off).take n
  rw [hl] at hv
  have hlen : ((ys.drop off).take n).length = n := by rw [hv.length, hn]
  refine ⟨(ys.drop off).take n, fun k => run_loadCells ?_ hlen, hv, hlen⟩
  intro k' hk
  have hk2 : k' < ((ys.drop off).take n).length := by omega
  rw [cell_at (w := { w with drawn := k }) ho, List.getElem?_eq_getElem hk2]
  refine hc _ _ ?_
  rw [← List.getElem?_eq_getElem hk2, List.getElem?_take, if_pos hk, List.getElem?_drop]

theorem appendedQ_ok {st xt elem : TypeId} {info : TypeInfo} {y : SV} {yv : Value} {new : List SV} {q : Nat × Prop} (h : appendedQ E xt info y new s = some q) (hq : q.2) (hn : new.length = q.1 * info.size)
    (hst : tdesc E st = some (.slice elem)) (hi : tinfo E elem = some info) (hr : HR ν M w0 s w) (hy : VR ν y yv) : ∃ nv, AppTo E st xt elem info q.1 yv nv w ∧ VRL ν new nv ∧ nv.length = q.1 * info.size := by
  unfold appendedQ at h
  split at h
  · cases h
  · rename_i d hdd hxt
    have hd : ∀ k, d ≠ .int k := fun k e => hdd k e
    split at h
    · rename_i b
      cases h
      obtain rfl := VR.v_iff.1 hy
      have hq : (b.data.toList.map fun c => SV.v (.int .u8 c.toNat)) = new := hq
      subst hq
      have hv : VRL ν (b.data.toList.map fun c => SV.v (.int .u8 c.toNat)) (b.data.toList.map fun c => Value.int .u8 c.toNat) := by
        have := VRL.lits ν (b.data.toList.map fun c => Value.int .u8 c.toNat)
        rwa [List.map_map] at this
      refine ⟨b.data.toList.map fun c => .int .u8 c.toNat, AppTo.of hst hxt hd hi rfl (fun k => ?_), hv, by rw [hv.length.trans rfl]; exact hn⟩
      simp only [Builtin.firstCells, Sem.run_pure]
      congr 1
      have e : b.extract 0 b.size = b := by simp
      rw [e]
      apply Array.ext'
      simp
    · rename_i m c
      cases h
      obtain rfl := VR.v_iff.1 hy
      have hq : [] = new := hq
      subst hq
      exact ⟨[], AppTo.of hst hxt hd hi rfl (fun k => rfl), VRL.nil, hn⟩
    · rename_i i off len cap
      obtain ⟨xs, hxs, h⟩ := Option.map_eq_some_iff.1 h
      cases h
      obtain ⟨b, hb, _, rfl⟩ := VR.sl_iff.1 hy
      obtain ⟨nv, hrun, hv, hlen⟩ := told_cells (E := E) hxs hr hb hq hn
      exact ⟨nv, AppTo.of hst hxt hd hi rfl hrun, hv, hlen⟩
    · cases h
  · cases h

theorem sAppend1_ok {st xt : TypeId} {x y z : SV} {xv yv : Value} {ty : TypeId} (h : sAppend1 E st xt x y s = some (z, s')) (hr : HR ν M w0 s w) (hx : VR ν x xv) (hy : VR ν y yv) :
    s'.ob → s.ob ∧ GoodV E.P (Builtin.append_ #[st, xt] ty #[xv, yv]) ν M w0 w z s' := by
  unfold sAppend1 at h
  split at h
  · rename_i elem hst
    obtain ⟨info, hi, h⟩ := Option.bind_eq_some_iff.1 h
    obtain ⟨q, hq, h⟩ := Option.bind_eq_some_iff.1 h
    have key : (∃ base len cap, xv = .slice base len cap ∧ len ≤ cap) → some (x, s.owe (q.2 ∧ q.1 = 0)) = some (z, s') → s'.ob → s.ob ∧ GoodV E.P (Builtin.append_ #[st, xt] ty #[xv, yv]) ν M w0 w z s' := by
      rintro ⟨base, len, cap, rfl, hlc⟩ h ob
      cases h
      obtain ⟨ob0, hp, h0⟩ := ob
      obtain ⟨nv, A, hv, hlen⟩ := appendedQ_ok (st := st) (elem := elem) hq hp (by simp [h0]) hst hi hr hy
      rw [h0] at A
      obtain rfl := hv.nil_inv
      refine ⟨ob0, GoodV.now (hr.same (SH.owe_same _ _)) ?_ hx⟩
      have := A.room (w' := w) (base := base) (len := len) (cap := cap) (ty := ty) (by omega) (by cases base <;> simp [storeCells])
      simpa using this
    split at h
    · refine key ?_ h
      obtain rfl := VR.v_iff.1 hx
      exact ⟨none, 0, 0, rfl, Nat.le_refl _⟩
    · refine key ?_ h
      obtain ⟨b, _, hl, rfl⟩ := VR.sl_iff.1 hx
      exact ⟨_, _, _, rfl, hl⟩
    · cases h
  · cases h

theorem sAppendQ_ok {st xt : TypeId} {x y z : SV} {old new : List SV} {xv yv : Value} {ty : TypeId} (h : sAppendQ E st xt x y old new s = some (z, s')) (hr : HR ν M w0 s w) (hx : VR ν x xv) (hy : VR ν y yv) :
    s'.ob → s.ob ∧ GoodV E.P (Builtin.append_ #[st, xt] ty #[xv, yv]) ν M w0 w z s' := by
  unfold sAppendQ at h
  split at h
  · rename_i elem hst
    obtain ⟨info, hi, h⟩ := Option.bind_eq_some_iff.1 h
    obtain ⟨zz, hz, h⟩ := Option.bind_eq_some_iff.1 h
    obtain ⟨q, hq, h⟩ := Option.bind_eq_some_iff.1 h
    obtain ⟨n, p⟩ := q
    dsimp only at h
    cases hb : (zz.cells.size == info.size && !(info.bytes == 0) && !(info.size == 0))
    · rw [hb] at h; cases h
    rw [hb] at h
    simp only [cond_true] at h
    rw [Bool.and_eq_true, Bool.and_eq_true] at hb
    obtain ⟨⟨g1, g3⟩, g4⟩ := hb
    have g1 : zz.cells.size = info.size := by simpa using g1
    have g3 : info.bytes ≠ 0 := by simpa using g3
    have g4 : info.size ≠ 0 := by simpa using g4
    split at h
    · -- nil
      obtain rfl := VR.v_iff.1 hx
      intro ob
      rw [sGrowQ_ob h] at ob
      obtain ⟨ob0, ⟨⟨hp, hnl⟩, hn0, hlim⟩, _⟩ := ob
      obtain ⟨nv, A, hv, hlen⟩ := appendedQ_ok (st := st) (elem := elem) hq hp hnl hst hi hr hy
      dsimp only at A hlen hn0 hlim
      rw [← sGrowQ_eq hz g1 hlim g3] at h
      exact ⟨ob0, (sGrow_ok (ty := ty) (len := 0) (old := []) h (by omega) (hr.same (SH.owe_same _ _)) A (fun k => rfl) VRL.nil hv (by simp) hlen (by omega)).2⟩
    · -- a slice whose room is told
      obtain ⟨xs, hxs, h⟩ := Option.bind_eq_some_iff.1 h
      obtain ⟨c, hc, hlc, rfl⟩ := VR.sl_iff.1 hx
      intro ob
      rw [sGrowQ_ob h] at ob
      obtain ⟨ob0, ⟨⟨hp, hnl⟩, hn0, hlim⟩, hold, holen, hcap⟩ := ob
      obtain ⟨nv, A, hv, hlen⟩ := appendedQ_ok (st := st) (elem := elem) hq hp hnl hst hi hr hy
      dsimp only at A hlen hn0 hlim hcap
      obtain ⟨ov, hrun, hov, hovl⟩ := told_cells (E := E) hxs hr hc hold holen
      rw [← sGrowQ_eq hz g1 hlim g3] at h
      exact ⟨ob0, (sGrow_ok (ty := ty) h rfl (hr.same (SH.owe_same _ _)) A (fun k => by rw [show Builtin.firstCells info.size _ (.slice (some _) _ _) = loadCells _ _ from rfl]; exact hrun k) hov hv hovl hlen (by simpa using hcap)).2⟩
    · -- a slice whose room is not told
      rename_i i len _ _ _
      split at h
      · rename_i xs el es hl
        cases hb2 : (es == info.size && el == elem)
        · rw [hb2] at h; cases h
        rw [hb2] at h
        simp only [cond_true] at h
        rw [Bool.and_eq_true] at hb2
        obtain rfl : es = info.size := by simpa using hb2.1
        obtain rfl : el = elem := by simpa using hb2.2
        obtain ⟨c, hc, hlen0, rfl⟩ := VR.sl_iff.1 hx
        simp only [Option.getD_none] at hlen0
        intro ob
        have hob := sGrowQ_ob h
        rw [hob] at ob
        obtain ⟨ob0, ⟨⟨hp, hnl⟩, hn0, hlim⟩, hold, holen, h3⟩ := (show (s.owe _).ob from ob)
        obtain ⟨nv, A, hnr, hnvl⟩ := appendedQ_ok (st := st) (elem := el) hq hp hnl hst hi hr hy
        dsimp only at A hnvl hn0 hlim
        refine ⟨ob0, ?_⟩
        generalize hs1 : s.owe (((p ∧ new.length = n * info.size) ∧ n ≠ 0 ∧ (2 * (len + n) + 1024) * info.bytes ≤ 2 ^ 47) ∧ xs.take (len * info.size) = old ∧ old.length = len * info.size ∧ new.all SV.flat = true) = s1 at h
        have hsame : s.Same s1 := hs1 ▸ SH.owe_same _ _
        have hr1 := hr.same hsame
        have hl1 : s1.look i = some (.row xs el (0, 0) (some info.size), true) := by rw [hsame.look]; exact hl
        unfold sGrowQ sNew at h
        cases hroom : (s1.drop i).room
        · rw [hroom] at h; cases h
        rw [hroom] at h; cases h
        obtain ⟨_, _, b', o, hb', ho, hor, _⟩ := hr1.look hl1
        rw [hc] at hb'; cases hb'
        obtain ⟨ys, rest, rfl, hvl, hxle, b'', hb'', hsize⟩ := hor
        rw [hc] at hb''; cases hb''
        have hylen := hvl.length
        have h2 : len * info.size ≤ xs.length := by
          have := congrArg List.length hold
          rw [holen, List.length_take] at this
          omega
        subst hold
        have holdv : ∀ k, (Builtin.firstCells info.size len (.slice (some ⟨c.1, 0, none⟩) len c.2)).run E.P { w with drawn := k } = .ok (ys.take (len * info.size)).toArray { w with drawn := k } := by
          intro k
          refine run_loadCells ?_ (by simp; omega)
          intro k' hk
          rw [cell_at (w := { w with drawn := k }) ho, List.getElem?_take, if_pos hk]
          have : 0 + k' < ys.length := by omega
          simp [List.getElem?_append_left this]
          simp at this
          rw [List.getElem?_append_left this]
        by_cases hfit : len + n ≤ c.2
        · -- in place
          have hcap : (len + n) * info.size ≤ (ys ++ rest).length := by rw [hsize]; exact Nat.mul_le_mul_right _ hfit
          have hmul : (len + n) * info.size = len * info.size + n * info.size := Nat.add_mul _ _ _
          have hrun := run_storeCells (P := E.P) (b := c.1) (off := len * info.size) (e := el) (fz := (0, 0)) nv 0 w (ys ++ rest) ho (hnr.flat h3) (by omega) (by
            intro k _ _; simp)
          rw [Nat.add_zero] at hrun
          have hspl : spliceV (ys ++ rest) (len * info.size) nv = (ys.take (len * info.size) ++ nv) ++ (ys ++ rest).drop (len * info.size + n * info.size) := by
            rw [spliceV_eq _ _ _ (by omega), hnvl]
            rw [List.take_append_of_le_length (by omega)]
          obtain ⟨hle, hr'⟩ := hr1.move (w' := { w with heap := w.heap.setIfInBounds c.1 (.cells (spliceV (ys ++ rest) (len * info.size) nv).toArray el (0, 0)) }) hl1 hc hroom
            (o := .row (xs.take (len * info.size) ++ new) el (0, 0) (some info.size)) (r := .cells (spliceV (ys ++ rest) (len * info.size) nv).toArray el (0, 0))
            ⟨ys.take (len * info.size) ++ nv, (ys ++ rest).drop (len * info.size + n * info.size), by rw [fzReal_zero, hspl], ((hvl.take _).append hnr).mono (Val.put_le (hr1.fresh _ (Nat.le_refl _)) c), by
              refine ⟨?_, c, Val.put_self _ _ _, ?_⟩
              · simp; omega
              · rw [← hspl, spliceV_length, hsize]⟩ rfl rfl rfl rfl
          refine ⟨_, _, _, hle, A.room (by simp only [Option.getD_none]; exact hfit) (by simp only [addr_add, Nat.zero_add]; exact hrun), VR.sl_iff.2 ⟨c, Val.put_self _ _ _, by simp only [Option.getD_none]; exact hfit, rfl⟩, hr'⟩
        · -- a new row
          obtain ⟨newCap, k, hcap, rest', hrest', hrun⟩ := A.grow (ty := ty) hz g1 g3 holdv (by omega) hlim
          have hi' : i < 2 ^ s1.d := (hr1.look hl1).1
          have hl2 := (hvl.take (len * info.size)).append hnr
          have htk : (ys.take (len * info.size)).length = len * info.size := by simp; omega
          have hnx : ν s1.nx = none := hr1.fresh _ (Nat.le_refl _)
          have hle := Val.put_le hnx (w.heap.size, newCap)
          obtain ⟨_, hr'⟩ := ((hr1.drop hi').drawn k).new (w' := { w with drawn := k, heap := w.heap.push (.cells (ys.take (len * info.size) ++ nv ++ rest').toArray el) }) hroom newCap
            (o := .row (xs.take (len * info.size) ++ new) el (0, 0) (some info.size)) (r := .cells (ys.take (len * info.size) ++ nv ++ rest').toArray el)
            ⟨ys.take (len * info.size) ++ nv, rest', rfl, hl2.mono hle, by
              refine ⟨?_, _, Val.put_self _ _ _, ?_⟩
              · rw [← hl2.length]; simp
              · simp only [List.length_append, htk, hnvl, hrest']
                rw [← Nat.add_mul, ← Nat.add_mul]
                congr 1; omega⟩ rfl rfl rfl rfl
          refine ⟨_, _, _, hle, hrun, VR.sl_iff.2 ⟨_, Val.put_self _ _ _, by simpa using hcap, rfl⟩, hr'⟩
      · cases h
    · cases h
  · cases h

theorem sAppend_ok {st xt : TypeId} {x y z : SV} {xv yv : Value} {ty : TypeId} (h : sAppend E st xt x y s = some (z, s')) (hr : HR ν M w0 s w) (hx : VR ν x xv) (hy : VR ν y yv) :
    s'.ob → s.ob ∧ GoodV E.P (Builtin.append_ #[st, xt] ty #[xv, yv]) ν M w0 w z s' := by
  unfold sAppend at h
  split at h
  · exact sAppendQ_ok h hr hx hy
  · exact sAppend1_ok h hr hx hy
  · exact sAppend0_ok h hr hx hy

end
end Go.Rx
