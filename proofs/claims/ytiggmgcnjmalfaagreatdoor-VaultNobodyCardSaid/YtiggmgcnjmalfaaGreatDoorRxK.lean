/- The symbolic executor 'Rx', part K: append and copy. By an AI agent. -/
import Derived.Test.YtiggmgcnjmalfaaGreatDoorRxE
import Derived.Laws.BytesString
import Derived.Lib.UnsafeStr
import Derived.LaidEql
import Derived.Laws.StructEq
set_option linter.unusedVariables false
set_option linter.unusedSimpArgs false
namespace Go.Rx
section
variable {ν : Val} {M : Own} {w0 w : World} {s s' : SH} {E : Env}

/-- A new number for a block that no object stands for. -/
theorem HR.adopt {w' : World} (h : HR ν M w0 s w) (hr : s.room = true) {o : SO} {r : Obj} {B : Nat} (c : Nat)
    (hB : w0.heap.size ≤ B ∨ M B) (hun : ∀ j, j < 2 ^ s.d → s.H.get j ≠ none → ∀ b, ν j = some b → b.1 ≠ B)
    (ho : OR (ν.put s.nx (B, c)) s.nx o r) (hw : w'.heap[B]? = some r) (hk : ∀ k, k ≠ B → w'.heap[k]? = w.heap[k]?) (hsz : w0.heap.size ≤ w'.heap.size)
    (hos : w'.os = w.os) (ht : w'.tape = w.tape) (hout : w'.output = w.output) :
    ν.Le (ν.put s.nx (B, c)) ∧ HR (ν.put s.nx (B, c)) M w0 (s.new o) w' := by
  have hnx : ν s.nx = none := h.fresh _ (Nat.le_refl _)
  have hlt : s.nx < 2 ^ s.d := blt_iff.1 hr
  have hle := Val.put_le hnx (B, c)
  have hput : ∀ j, j ≠ s.nx → (ν.put s.nx (B, c)) j = ν j := fun j e => by simp [Val.put, e]
  refine ⟨hle, h.full.set _ _, ?_, ?_, ?_, ?_, hsz, ?_, ?_, hos.trans h.os, ht.trans h.tape, hout.trans h.output⟩
  · intro i hi
    have hi : 2 ^ s.d ≤ i := hi
    rw [hput i (by omega)]; exact h.dom i hi
  · intro i hi
    have hi : s.nx + 1 ≤ i := hi
    rw [hput i (by omega)]; exact h.fresh i (by omega)
  · intro j hj y hy
    have hj : j < 2 ^ s.d := hj
    have hy : (s.H.set s.nx (some (o, true))).get j = some y := hy
    rw [Tr.get_set h.full hlt hj] at hy
    by_cases e : j = s.nx
    · subst e
      rw [if_pos rfl] at hy
      cases hy
      exact ⟨(B, c), r, Val.put_self _ _ _, hw, ho, fun _ => hB⟩
    · rw [if_neg e] at hy
      obtain ⟨b, o', hb, ho', hr', hown⟩ := h.obj j hj y hy
      have hne := hun j hj (by rw [hy]; simp) b hb
      exact ⟨b, o', by rw [hput j e]; exact hb, by rw [hk _ hne]; exact ho', hr'.mono hle, hown⟩
  · intro i j hi hj hgi hgj b b' hb hb' e
    have hi : i < 2 ^ s.d := hi
    have hj : j < 2 ^ s.d := hj
    have g : ∀ u, u < 2 ^ s.d → u ≠ s.nx → (s.new o).H.get u ≠ none → s.H.get u ≠ none := by
      intro u hu ne hn
      have hn : (s.H.set s.nx (some (o, true))).get u ≠ none := hn
      rwa [Tr.get_set h.full hlt hu, if_neg ne] at hn
    by_cases ei : i = s.nx <;> by_cases ej : j = s.nx
    · rw [ei, ej]
    · subst ei
      rw [Val.put_self] at hb; cases hb
      rw [hput j ej] at hb'
      exact absurd e.symm (hun j hj (g j hj ej hgj) b' hb')
    · subst ej
      rw [Val.put_self] at hb'; cases hb'
      rw [hput i ei] at hb
      exact absurd e (hun i hi (g i hi ei hgi) b hb)
    · rw [hput i ei] at hb
      rw [hput j ej] at hb'
      exact h.inj i j hi hj (g i hi ei hgi) (g j hj ej hgj) b b' hb hb' e
  · intro b hb hM
    by_cases e : b = B
    · subst e
      rcases hB with h1 | h1
      · omega
      · exact absurd h1 hM
    · rw [hk b e]; exact h.frame b hb hM
  · intro j hj y hy hf b hb
    have hj : j < 2 ^ s.d := hj
    have hy : (s.H.set s.nx (some (o, true))).get j = some y := hy
    rw [Tr.get_set h.full hlt hj] at hy
    by_cases e : j = s.nx
    · rw [if_pos e] at hy; cases hy; cases hf
    · rw [if_neg e] at hy
      rw [hput j e] at hb
      exact h.ro j hj y hy hf b hb

/-- The new number of a row that is appended to in place. -/
theorem HR.move {w' : World} (h : HR ν M w0 s w) {i : Nat} {x : SO} (e : s.look i = some (x, true)) {b : Nat × Nat} (hb : ν i = some b) (hroom : (s.drop i).room = true) {o : SO} {r : Obj}
    (ho : OR (ν.put s.nx b) s.nx o r) (hw : w'.heap = w.heap.setIfInBounds b.1 r) (hos : w'.os = w.os) (ht : w'.tape = w.tape) (hout : w'.output = w.output) :
    ν.Le (ν.put s.nx b) ∧ HR (ν.put s.nx b) M w0 ((s.drop i).new o) w' := by
  obtain ⟨hi, hg, b', o', hb', ho', _, hown⟩ := h.look e
  obtain rfl : b = b' := by rw [hb] at hb'; exact Option.some.inj hb'
  have hlt : b.1 < w.heap.size := (Array.getElem?_eq_some_iff.1 ho').1
  refine (h.drop hi).adopt (w' := w') (B := b.1) (r := r) hroom b.2 (hown rfl) ?_ ho (by rw [hw]; simp [hlt]) ?_ (by rw [hw]; simpa using h.size) hos ht hout
  · intro j hj hn c hc ec
    have hn : (s.H.set i none).get j ≠ none := hn
    have hj : j < 2 ^ s.d := hj
    rw [Tr.get_set h.full hi hj] at hn
    by_cases eji : j = i
    · rw [if_pos eji] at hn; exact hn rfl
    · rw [if_neg eji] at hn
      exact eji (h.inj j i hj hi hn (by rw [hg]; simp) c b hc hb ec)
  · intro k hk
    rw [hw, Array.getElem?_setIfInBounds, if_neg (fun e => hk e.symm)]

theorem sGrow_ok {st xt elem : TypeId} {info : TypeInfo} {base : Option Addr} {len cap n need : Nat} {yv : Value} {old new : List Value} {oldS newS : List SV} {y : SV} {ty : TypeId}
    (h : sGrow info elem oldS newS need s = some (y, s')) (hneed : need = len + n) (hr : HR ν M w0 s w)
    (A : AppTo E st xt elem info n yv new w)
    (hold : ∀ k, (Builtin.firstCells info.size len (.slice base len cap)).run E.P { w with drawn := k } = .ok old.toArray { w with drawn := k })
    (ho : VRL ν oldS old) (hnw : VRL ν newS new) (hol : old.length = len * info.size) (hnl : new.length = n * info.size) (hroom : cap < len + n) :
    (s'.ob = s.ob) ∧ GoodV E.P (Builtin.append_ #[st, xt] ty #[.slice base len cap, yv]) ν M w0 w y s' := by
  unfold sGrow at h
  cases hz : info.zero with
  | none => rw [hz] at h; cases h
  | some z =>
  rw [hz] at h
  simp only [Option.bind_eq_bind, Option.bind_some] at h
  cases hg : guard' (z.cells.size == info.size && Nat.ble ((2 * need + 1024) * info.bytes) (2 ^ 47) && !(info.bytes == 0)) with
  | none => rw [hg] at h; cases h
  | some u =>
  rw [hg] at h
  simp only [Option.bind_some] at h
  have hg := guard_ok hg
  rw [Bool.and_eq_true, Bool.and_eq_true] at hg
  obtain ⟨⟨g1, g2⟩, g3⟩ := hg
  have g1 : z.cells.size = info.size := by simpa using g1
  have g2 := Nat.le_of_ble_eq_true g2
  have g3 : info.bytes ≠ 0 := by simpa using g3
  subst hneed
  obtain ⟨newCap, k, hcap, rest, hrest, hrun⟩ := A.grow (ty := ty) hz g1 g3 hold hroom g2
  cases hnw' : sNew (.row (oldS ++ newS) elem (0, 0) (some info.size)) s with
  | none => rw [hnw'] at h; cases h
  | some p =>
  obtain ⟨i, s1⟩ := p
  rw [hnw'] at h; cases h
  have hl : VRL ν (oldS ++ newS) (old ++ new) := ho.append hnw
  obtain ⟨hob, ν', hle, hi', hr'⟩ := sNew_ok hnw' (hr.drawn k) newCap (r := .cells (old ++ new ++ rest).toArray elem)
    (fun ν' hle hi' => ⟨old ++ new, rest, rfl, hl.mono hle, by
      refine ⟨by rw [← hl.length]; simp, _, hi', ?_⟩
      simp only [List.length_append, hol, hnl, hrest]
      rw [← Nat.add_mul, ← Nat.add_mul]
      congr 1; omega⟩)
  refine ⟨hob, ν', _, _, hle, hrun, VR.sl_iff.2 ⟨_, hi', by simpa using hcap, by simp⟩, hr'⟩

theorem sFirst_ok' {size n : Nat} {x : SV} {l : List SV} {y : Value} (h : sFirst size n x s = some l) (hr : HR ν M w0 s w) (hv : VR ν x y) :
    ∃ ys : List Value, (∀ k, (Builtin.firstCells size n y).run E.P { w with drawn := k } = .ok ys.toArray { w with drawn := k }) ∧ VRL ν l ys := by
  -- the same list whatever the count of draws: by the text of sFirst_ok
  unfold sFirst at h
  split at h
  · cases h; obtain rfl := VR.v_iff.1 hv; exact ⟨[], fun _ => rfl, VRL.nil⟩
  · rename_i b
    cases h; obtain rfl := VR.v_iff.1 hv
    refine ⟨(b.extract 0 n).data.toList.map fun c => .int .u8 c.toNat, fun k => ?_, ?_⟩
    · simp only [Builtin.firstCells, Sem.run_pure]
      congr 1
      apply Array.ext'
      simp
    · have := VRL.lits ν ((b.extract 0 n).data.toList.map fun c => Value.int .u8 c.toNat)
      rwa [List.map_map] at this
  · obtain ⟨b, _, rfl⟩ := VR.fin_iff.1 hv
    cases hn : (n == 0)
    · rw [hn] at h; cases h
    · rw [hn] at h; cases h
      obtain rfl : n = 0 := by simpa using hn
      refine ⟨[], fun k => ?_, VRL.nil⟩
      simp [Builtin.firstCells, loadCells, loadCellsFrom]
  · rename_i i off len cap
    obtain ⟨b, hb, _, rfl⟩ := VR.sl_iff.1 hv
    split at h
    · rename_i xs e fz ext own hl
      cases hle : Nat.ble (off + n * size) xs.length
      · rw [hle] at h; cases h
      · rw [hle] at h; cases h
        have hle := Nat.le_of_ble_eq_true hle
        obtain ⟨_, _, b', o, hb', ho, hor, _⟩ := hr.look hl
        rw [hb] at hb'; cases hb'
        obtain ⟨ys, rest, rfl, hvl, _⟩ := hor
        have hlen := hvl.length
        refine ⟨(ys.drop off).take (n * size), fun k => ?_, (hvl.drop off).take _⟩
        refine run_loadCells ?_ (by simp; omega)
        intro k' hk
        rw [cell_at (w := { w with drawn := k }) ho, List.getElem?_take, if_pos hk, List.getElem?_drop]
        have : off + k' < ys.length := by omega
        simp [List.getElem?_append_left this]
    · cases h
  · cases h

theorem sFirst_length {size n : Nat} {x : SV} {l : List SV} {m : Nat} (h : sFirst size n x s = some l) (hx : ∃ i off len cap, x = .sl i off len cap) (hm : m = n * size) : l.length = m := by
  obtain ⟨i, off, len, cap, rfl⟩ := hx
  unfold sFirst at h
  simp only at h
  split at h
  · rename_i xs e fz ext own hl
    cases hle : Nat.ble (off + n * size) xs.length
    · rw [hle] at h; cases h
    · rw [hle] at h; cases h
      have hle := Nat.le_of_ble_eq_true hle
      simp; omega
  · cases h

theorem spliceV_eq (ys : List Value) (off : Nat) (zs : List Value) (h : off + zs.length ≤ ys.length) : spliceV ys off zs = ys.take off ++ zs ++ ys.drop (off + zs.length) := by
  induction zs generalizing ys off with
  | nil => simp [spliceV]
  | cons z zs ih =>
    simp only [List.length_cons] at h
    rw [spliceV, ih _ _ (by simp; omega)]
    have h1 : (ys.set off z).take (off + 1) = ys.take off ++ [z] := by
      rw [List.take_add_one, List.take_set_of_le (Nat.le_refl _)]
      have : off < ys.length := by omega
      simp [this]
    have h2 : (ys.set off z).drop (off + 1 + zs.length) = ys.drop (off + (zs.length + 1)) := by
      rw [List.drop_set_of_lt (by omega)]
      congr 1; omega
    rw [h1, h2]; simp

theorem sGrow_ob {info : TypeInfo} {elem : TypeId} {old new : List SV} {need : Nat} {z : SV} (h : sGrow info elem old new need s = some (z, s')) : s'.ob = s.ob := by
  unfold sGrow at h
  cases hz : info.zero with
  | none => rw [hz] at h; cases h
  | some zz =>
    rw [hz] at h
    simp only [Option.bind_eq_bind, Option.bind_some] at h
    cases hg : guard' (zz.cells.size == info.size && Nat.ble ((2 * need + 1024) * info.bytes) (2 ^ 47) && !(info.bytes == 0)) with
    | none => rw [hg] at h; cases h
    | some u =>
      rw [hg] at h
      simp only [Option.bind_some] at h
      unfold sNew at h
      cases hroom : s.room
      · rw [hroom] at h; cases h
      · rw [hroom] at h; cases h; rfl

theorem sAppended_ok {st xt elem : TypeId} {info : TypeInfo} {y : SV} {yv : Value} {n : Nat} {new : List SV} (h : sAppended E xt info y s = some (n, new)) (hst : tdesc E st = some (.slice elem)) (hi : tinfo E elem = some info)
    (hr : HR ν M w0 s w) (hy : VR ν y yv) : ∃ nv, AppTo E st xt elem info n yv nv w ∧ VRL ν new nv ∧ nv.length = n * info.size := by
  unfold sAppended at h
  split at h
  · rename_i ik hxt
    split at h
    · rename_i k m
      obtain rfl := VR.v_iff.1 hy
      cases hb : (decide (0 ≤ m ∧ m ≤ 2 ^ 40) && Nat.ble (m.toNat * info.bytes) (2 ^ 47))
      · rw [hb] at h; cases h
      · rw [hb] at h
        simp only [cond_true] at h
        rw [Bool.and_eq_true] at hb
        cases hz : zeros info m.toNat with
        | none => rw [hz] at h; cases h
        | some l =>
        rw [hz] at h; cases h
        obtain ⟨z, hz1, hz2, hv⟩ := zeros_ok (ν := ν) hz
        rw [← hz2] at hv
        exact ⟨_, AppTo.zeros hst hxt hi hz1 hz2 (of_decide_eq_true hb.1) (Nat.le_of_ble_eq_true hb.2), hv, by simp [hz2]⟩
    · cases h
  · rename_i d hdd hxt
    have hd : ∀ k, d ≠ .int k := fun k e => hdd k e
    obtain ⟨n', hn, h⟩ := Option.bind_eq_some_iff.1 h
    obtain ⟨new', hnew, h⟩ := Option.bind_eq_some_iff.1 h
    cases hg : (new'.length == n' * info.size)
    · rw [hg] at h; cases h
    · rw [hg] at h; cases h
      obtain ⟨nv, hnv, hnr⟩ := sFirst_ok' (E := E) hnew hr hy
      exact ⟨nv, AppTo.of hst hxt hd hi (sLen_ok (w := w) (E := E) hn hy) hnv, hnr, by rw [hnr.length]; simpa using hg⟩
  · cases h

theorem sAppend0_ok {st xt : TypeId} {x y z : SV} {xv yv : Value} {ty : TypeId} (h : sAppend0 E st xt x y s = some (z, s')) (hr : HR ν M w0 s w) (hx : VR ν x xv) (hy : VR ν y yv) :
    s'.ob → s.ob ∧ GoodV E.P (Builtin.append_ #[st, xt] ty #[xv, yv]) ν M w0 w z s' := by
  unfold sAppend0 at h
  split at h
  · rename_i elem hst
    cases hi : tinfo E elem with
    | none => rw [hi] at h; cases h
    | some info =>
    rw [hi] at h
    simp only [Option.bind_eq_bind, Option.bind_some] at h
    cases hap : sAppended E xt info y s with
    | none => rw [hap] at h; cases h
    | some q =>
    obtain ⟨n, new⟩ := q
    rw [hap] at h
    simp only [Option.bind_some] at h
    obtain ⟨nv, A, hnr, hnvl⟩ := sAppended_ok (st := st) (elem := elem) hap hst hi hr hy
    have hnl : new.length = n * info.size := by rw [← hnr.length, hnvl]
    split at h
    · -- nil
      obtain rfl := VR.v_iff.1 hx
      cases hdec : s.dec E (decide (n = 0)) with
      | mk e s1 =>
      rw [hdec] at h
      obtain ⟨hsame, hob⟩ := SH.dec_ok hdec
      cases e
      · simp only [cond_false] at h
        intro ob
        rw [sGrow_ob h] at ob
        have h0 : n ≠ 0 := of_decide_eq_false (hob ob).2
        exact ⟨(hob ob).1, (sGrow_ok (ty := ty) (len := 0) (old := []) h (by omega) (hr.same hsame) A (fun k => rfl) VRL.nil hnr (by simp) hnvl (by omega)).2⟩
      · simp only [cond_true] at h
        cases h
        refine fun ob => ⟨(hob ob).1, ?_⟩
        have h0 := of_decide_eq_true (hob ob).2
        subst h0
        refine GoodV.now (hr.same hsame) ?_ (VR.v_iff.2 rfl)
        exact A.room (w' := w) (base := none) (len := 0) (cap := 0) (by omega) rfl
    · -- a slice whose room is told
      rename_i i off len cap
      obtain ⟨c, hc, hlen, rfl⟩ := VR.sl_iff.1 hx
      simp only [Option.getD_some] at hlen
      cases hdec : s.dec E (decide (len + n ≤ cap)) with
      | mk e s1 =>
      rw [hdec] at h
      obtain ⟨hsame, hob⟩ := SH.dec_ok hdec
      cases e
      · simp only [cond_false] at h
        cases hold : sFirst info.size len (.sl i off len (some cap)) s1 with
        | none => rw [hold] at h; cases h
        | some old =>
        rw [hold] at h
        simp only [Option.bind_some] at h
        intro ob
        rw [sGrow_ob h] at ob
        have h0 : ¬ len + n ≤ cap := of_decide_eq_false (hob ob).2
        obtain ⟨ov, hov, hor⟩ := sFirst_ok' (E := E) hold (hr.same hsame) hx
        have hol := sFirst_length hold ⟨_, _, _, _, rfl⟩ rfl
        exact ⟨(hob ob).1, (sGrow_ok (ty := ty) h rfl (hr.same hsame) A hov hor hnr (by rw [hor.length, hol]) hnvl (by simp only [Option.getD_some]; omega)).2⟩
      · simp only [cond_true] at h
        split at h
        · rename_i xs el fz ext hl
          cases hb2 : (Nat.ble (off + len * info.size + new.length) xs.length && fzOk fz (off + len * info.size) new.length && new.all SV.flat)
          · rw [hb2] at h; cases h
          · rw [hb2] at h; cases h
            rw [Bool.and_eq_true, Bool.and_eq_true] at hb2
            intro ob
            have ob : s1.ob := ob
            have h0 := of_decide_eq_true (hob ob).2
            obtain ⟨w', hrun, hr'⟩ := (hr.same hsame).spliced (E := E) hl hc hnr (Nat.le_of_ble_eq_true hb2.1.1) hb2.1.2 hb2.2
            refine ⟨(hob ob).1, ν, w', _, Val.Le.refl _, A.room (w' := w') (by simp only [Option.getD_some]; exact h0) ?_, VR.sl_iff.2 ⟨c, hc, ?_, rfl⟩, hr'⟩
            · simp only [addr_add]; exact hrun
            · simp only [Option.getD_some]; exact h0
        · cases h
    · -- a slice whose room is not told
      rename_i i len
      obtain ⟨c, hc, hlen, rfl⟩ := VR.sl_iff.1 hx
      simp only [Option.getD_none] at hlen
      cases hdec : s.dec E (decide (n = 0)) with
      | mk e s1 =>
      rw [hdec] at h
      obtain ⟨hsame, hob⟩ := SH.dec_ok hdec
      cases e
      · simp only [cond_false] at h
        split at h
        · rename_i xs el es hl
          cases hb2 : ((es == info.size && !(info.size == 0)) && Nat.ble (len * info.size) xs.length && new.all SV.flat && el == elem)
          · rw [hb2] at h; cases h
          rw [hb2] at h
          rw [Bool.and_eq_true, Bool.and_eq_true, Bool.and_eq_true, Bool.and_eq_true] at hb2
          obtain ⟨⟨⟨⟨h1, g4⟩, h2⟩, h3⟩, h4⟩ := hb2
          have g4 : info.size ≠ 0 := by simpa using g4
          obtain rfl : es = info.size := by simpa using h1
          obtain rfl : el = elem := by simpa using h4
          have h2 := Nat.le_of_ble_eq_true h2
          simp only [cond_true] at h
          have hr1 := hr.same hsame
          obtain ⟨_, _, b', o, hb', ho, hor, _⟩ := hr1.look hl
          rw [hc] at hb'; cases hb'
          obtain ⟨ys, rest, rfl, hvl, hxle, b'', hb'', hsize⟩ := hor
          rw [hc] at hb''; cases hb''
          cases hin : Nat.ble ((len + n) * info.size) xs.length
          · rw [hin] at h
            simp only [cond_false] at h
            cases hz : info.zero with
            | none => rw [hz] at h; cases h
            | some zz =>
            rw [hz] at h
            simp only [Option.bind_some] at h
            cases hg2 : guard' (zz.cells.size == info.size && Nat.ble ((2 * (len + n) + 1024) * info.bytes) (2 ^ 47) && !(info.bytes == 0)) with
            | none => rw [hg2] at h; cases h
            | some u =>
            rw [hg2] at h
            simp only [Option.bind_some] at h
            have hg2 := guard_ok hg2
            rw [Bool.and_eq_true, Bool.and_eq_true] at hg2
            obtain ⟨⟨g1, g2⟩, g3⟩ := hg2
            have g1 : zz.cells.size = info.size := by simpa using g1
            have g2 := Nat.le_of_ble_eq_true g2
            have g3 : info.bytes ≠ 0 := by simpa using g3
            unfold sNew at h
            cases hroom : (s1.drop i).room
            · rw [hroom] at h; cases h
            rw [hroom] at h; cases h
            intro ob
            have ob : s1.ob := ob
            have h0 : n ≠ 0 := of_decide_eq_false (hob ob).2
            refine ⟨(hob ob).1, ?_⟩
            have hylen := hvl.length
            have holdv : ∀ k, (Builtin.firstCells info.size len (.slice (some ⟨c.1, 0, none⟩) len c.2)).run E.P { w with drawn := k } = .ok (ys.take (len * info.size)).toArray { w with drawn := k } := by
              intro k
              refine run_loadCells ?_ (by simp; omega)
              intro k' hk
              rw [cell_at (w := { w with drawn := k }) ho, List.getElem?_take, if_pos hk]
              have : 0 + k' < ys.length := by omega
              simp [List.getElem?_append_left this]
              simp at this
              rw [List.getElem?_append_left this]
            by_cases hfit : len + n ≤ c.2
            · -- in place
              have hcap : (len + n) * info.size ≤ (ys ++ rest).length := by rw [hsize]; exact Nat.mul_le_mul_right _ hfit
              have hmul : (len + n) * info.size = len * info.size + n * info.size := Nat.add_mul _ _ _
              have hrun := run_storeCells (P := E.P) (b := c.1) (off := len * info.size) (e := el) (fz := (0, 0)) nv 0 w (ys ++ rest) ho (hnr.flat h3) (by omega) (by
                intro k _ _; simp)
              rw [Nat.add_zero] at hrun
              have hspl : spliceV (ys ++ rest) (len * info.size) nv = (ys.take (len * info.size) ++ nv) ++ (ys ++ rest).drop (len * info.size + n * info.size) := by
                rw [spliceV_eq _ _ _ (by omega), hnvl]
                rw [List.take_append_of_le_length (by omega)]
              obtain ⟨hle, hr'⟩ := hr1.move (w' := { w with heap := w.heap.setIfInBounds c.1 (.cells (spliceV (ys ++ rest) (len * info.size) nv).toArray el (0, 0)) }) hl hc hroom
                (o := .row (xs.take (len * info.size) ++ new) el (0, 0) (some info.size)) (r := .cells (spliceV (ys ++ rest) (len * info.size) nv).toArray el (0, 0))
                ⟨ys.take (len * info.size) ++ nv, (ys ++ rest).drop (len * info.size + n * info.size), by rw [fzReal_zero, hspl], ((hvl.take _).append hnr).mono (Val.put_le (hr1.fresh _ (Nat.le_refl _)) c), by
                  refine ⟨?_, c, Val.put_self _ _ _, ?_⟩
                  · simp; omega
                  · rw [← hspl, spliceV_length, hsize]⟩ rfl rfl rfl rfl
              refine ⟨_, _, _, hle, A.room (by simp only [Option.getD_none]; exact hfit) (by simp only [addr_add, Nat.zero_add]; exact hrun), VR.sl_iff.2 ⟨c, Val.put_self _ _ _, by simp only [Option.getD_none]; exact hfit, rfl⟩, hr'⟩
            · -- a new row
              obtain ⟨newCap, k, hcap, rest', hrest', hrun⟩ := A.grow (ty := ty) hz g1 g3 holdv (by omega) g2
              have hi' : i < 2 ^ s1.d := (hr1.look hl).1
              have hl2 := (hvl.take (len * info.size)).append hnr
              have htk : (ys.take (len * info.size)).length = len * info.size := by simp; omega
              have hnx : ν s1.nx = none := hr1.fresh _ (Nat.le_refl _)
              have hle := Val.put_le hnx (w.heap.size, newCap)
              obtain ⟨_, hr'⟩ := ((hr1.drop hi').drawn k).new (w' := { w with drawn := k, heap := w.heap.push (.cells (ys.take (len * info.size) ++ nv ++ rest').toArray el) }) hroom newCap
                (o := .row (xs.take (len * info.size) ++ new) el (0, 0) (some info.size)) (r := .cells (ys.take (len * info.size) ++ nv ++ rest').toArray el)
                ⟨ys.take (len * info.size) ++ nv, rest', rfl, hl2.mono hle, by
                  refine ⟨?_, _, Val.put_self _ _ _, ?_⟩
                  · rw [← hl2.length]; simp
                  · simp only [List.length_append, htk, hnvl, hrest']
                    rw [← Nat.add_mul, ← Nat.add_mul]
                    congr 1; omega⟩ rfl rfl rfl rfl
              refine ⟨_, _, _, hle, hrun, VR.sl_iff.2 ⟨_, Val.put_self _ _ _, by simpa using hcap, rfl⟩, hr'⟩
          · rw [hin] at h
            simp only [cond_true] at h
            cases h
            intro ob
            have ob : s1.ob := ob
            have hin := Nat.le_of_ble_eq_true hin
            refine ⟨(hob ob).1, ?_⟩
            have hmul : (len + n) * info.size = len * info.size + n * info.size := Nat.add_mul _ _ _
            obtain ⟨w', hrun, hr'⟩ := hr1.spliced (E := E) hl hc hnr (off := len * info.size) (by omega) (by simp [fzOk, Nat.ble]) h3
            have hfit : len + n ≤ c.2 := by
              have h5 : (len + n) * info.size ≤ c.2 * info.size := by rw [← hsize]; omega
              exact Nat.le_of_mul_le_mul_right h5 (by omega)
            exact ⟨ν, w', _, Val.Le.refl _, A.room (by simp only [Option.getD_none]; exact hfit) (by simp only [addr_add, Nat.zero_add]; exact hrun), VR.sl_iff.2 ⟨c, hc, by simp only [Option.getD_none]; exact hfit, rfl⟩, hr'⟩
        · cases h
      · simp only [cond_true] at h
        cases h
        refine fun ob => ⟨(hob ob).1, ?_⟩
        have h0 := of_decide_eq_true (hob ob).2
        subst h0
        obtain rfl : nv = [] := List.length_eq_zero_iff.1 (by rw [hnvl]; simp)
        refine GoodV.now (hr.same hsame) ?_ hx
        exact A.room (w' := w) (by simp only [Option.getD_none]; omega) (by simp [storeCells])
    · cases h
  · cases h

/-! ### appends by letters -/

theorem sGrowQ_eq {info : TypeInfo} {elem : TypeId} {old new : List SV} {need : Nat} {z : Value} (hz : info.zero = some z) (h1 : z.cells.size = info.size) (h2 : (2 * need + 1024) * info.bytes ≤ 2 ^ 47) (h3 : info.bytes ≠ 0) :
    sGrow info elem old new need s = sGrowQ info elem old new need s := by
  have hg : guard' (z.cells.size == info.size && Nat.ble ((2 * need + 1024) * info.bytes) (2 ^ 47) && !(info.bytes == 0)) = some () := by
    have e1 : (z.cells.size == info.size) = true := by simpa using h1
    have e2 : Nat.ble ((2 * need + 1024) * info.bytes) (2 ^ 47) = true := by rw [Nat.ble_eq]; exact h2
    have e3 : (info.bytes == 0) = false := by simpa using h3
    rw [e1, e2, e3]; rfl
  unfold sGrow sGrowQ
  rw [hz]
  simp only [Option.bind_eq_bind, Option.bind_some, hg]
  cases sNew (.row (old ++ new) elem (0, 0) (some info.size)) s <;> rfl

theorem sGrowQ_ob {info : TypeInfo} {elem : TypeId} {old new : List SV} {need : Nat} {z : SV} (h : sGrowQ info elem old new need s = some (z, s')) : s'.ob = s.ob := by
  unfold sGrowQ sNew at h
  cases hroom : s.room
  · rw [hroom] at h; cases h
  · rw [hroom] at h; cases h; rfl

theorem told_cells {i : Nat} {xs l : List SV} (h : (s.look i).bind (·.1.told) = some xs) (hr : HR ν M w0 s w) {b : Nat × Nat} (hb : ν i = some b) {off n : Nat} (hl : (xs.drop off).take n = l) (hn : l.length = n) :
    ∃ ys : List Value, (∀ k, (loadCells ⟨b.1, off, none⟩ n).run E.P { w with drawn := k } = .ok ys.toArray { w with drawn := k }) ∧ VRL ν l ys ∧ ys.length = n := by
  obtain ⟨ys, c, e, fz, ho, hvl, hc⟩ := told_ok h hr hb
  have hv := (hvl.drop off).take n
  rw [hl] at hv
  have hlen : ((ys.drop off).take n).length = n := by rw [hv.length, hn]
  refine ⟨(ys.drop off).take n, fun k => run_loadCells ?_ hlen, hv, hlen⟩
  intro k' hk
  have hk2 : k' < ((ys.drop off).take n).length := by omega
  rw [cell_at (w := { w with drawn := k }) ho, List.getElem?_eq_getElem hk2]
  refine hc _ _ ?_
  rw [← List.getElem?_eq_getElem hk2, List.getElem?_take, if_pos hk, List.getElem?_drop]

theorem appendedQ_ok {st xt elem : TypeId} {info : TypeInfo} {y : SV} {yv : Value} {new : List SV} {q : Nat × Prop} (h : appendedQ E xt info y new s = some q) (hq : q.2) (hn : new.length = q.1 * info.size)
    (hst : tdesc E st = some (.slice elem)) (hi : tinfo E elem = some info) (hr : HR ν M w0 s w) (hy : VR ν y yv) : ∃ nv, AppTo E st xt elem info q.1 yv nv w ∧ VRL ν new nv ∧ nv.length = q.1 * info.size := by
  unfold appendedQ at h
  split at h
  · cases h
  · rename_i d hdd hxt
    have hd : ∀ k, d ≠ .int k := fun k e => hdd k e
    split at h
    · rename_i b
      cases h
      obtain rfl := VR.v_iff.1 hy
      have hq : (b.data.toList.map fun c => SV.v (.int .u8 c.toNat)) = new := hq
      subst hq
      have hv : VRL ν (b.data.toList.map fun c => SV.v (.int .u8 c.toNat)) (b.data.toList.map fun c => Value.int .u8 c.toNat) := by
        have := VRL.lits ν (b.data.toList.map fun c => Value.int .u8 c.toNat)
        rwa [List.map_map] at this
      refine ⟨b.data.toList.map fun c => .int .u8 c.toNat, AppTo.of hst hxt hd hi rfl (fun k => ?_), hv, by rw [hv.length.trans rfl]; exact hn⟩
      simp only [Builtin.firstCells, Sem.run_pure]
      congr 1
      have e : b.extract 0 b.size = b := by simp
      rw [e]
      apply Array.ext'
      simp
    · rename_i m c
      cases h
      obtain rfl := VR.v_iff.1 hy
      have hq : [] = new := hq
      subst hq
      exact ⟨[], AppTo.of hst hxt hd hi rfl (fun k => rfl), VRL.nil, hn⟩
    · rename_i i off len cap
      obtain ⟨xs, hxs, h⟩ := Option.map_eq_some_iff.1 h
      cases h
      obtain ⟨b, hb, _, rfl⟩ := VR.sl_iff.1 hy
      obtain ⟨nv, hrun, hv, hlen⟩ := told_cells (E := E) hxs hr hb hq hn
      exact ⟨nv, AppTo.of hst hxt hd hi rfl hrun, hv, hlen⟩
    · cases h
  · cases h

theorem sAppend1_ok {st xt : TypeId} {x y z : SV} {xv yv : Value} {ty : TypeId} (h : sAppend1 E st xt x y s = some (z, s')) (hr : HR ν M w0 s w) (hx : VR ν x xv) (hy : VR ν y yv) :
    s'.ob → s.ob ∧ GoodV E.P (Builtin.append_ #[st, xt] ty #[xv, yv]) ν M w0 w z s' := by
  unfold sAppend1 at h
  split at h
  · rename_i elem hst
    obtain ⟨info, hi, h⟩ := Option.bind_eq_some_iff.1 h
    obtain ⟨q, hq, h⟩ := Option.bind_eq_some_iff.1 h
    have key : (∃ base len cap, xv = .slice base len cap ∧ len ≤ cap) → some (x, s.owe (q.2 ∧ q.1 = 0)) = some (z, s') → s'.ob → s.ob ∧ GoodV E.P (Builtin.append_ #[st, xt] ty #[xv, yv]) ν M w0 w z s' := by
      rintro ⟨base, len, cap, rfl, hlc⟩ h ob
      cases h
      obtain ⟨ob0, hp, h0⟩ := ob
      obtain ⟨nv, A, hv, hlen⟩ := appendedQ_ok (st := st) (elem := elem) hq hp (by simp [h0]) hst hi hr hy
      rw [h0] at A
      obtain rfl := hv.nil_inv
      refine ⟨ob0, GoodV.now (hr.same (SH.owe_same _ _)) ?_ hx⟩
      have := A.room (w' := w) (base := base) (len := len) (cap := cap) (ty := ty) (by omega) (by cases base <;> simp [storeCells])
      simpa using this
    split at h
    · refine key ?_ h
      obtain rfl := VR.v_iff.1 hx
      exact ⟨none, 0, 0, rfl, Nat.le_refl _⟩
    · refine key ?_ h
      obtain ⟨b, _, hl, rfl⟩ := VR.sl_iff.1 hx
      exact ⟨_, _, _, rfl, hl⟩
    · cases h
  · cases h

theorem sAppendQ_ok {st xt : TypeId} {x y z : SV} {old new : List SV} {xv yv : Value} {ty : TypeId} (h : sAppendQ E st xt x y old new s = some (z, s')) (hr : HR ν M w0 s w) (hx : VR ν x xv) (hy : VR ν y yv) :
    s'.ob → s.ob ∧ GoodV E.P (Builtin.append_ #[st, xt] ty #[xv, yv]) ν M w0 w z s' := by
  unfold sAppendQ at h
  split at h
  · rename_i elem hst
    obtain ⟨info, hi, h⟩ := Option.bind_eq_some_iff.1 h
    obtain ⟨zz, hz, h⟩ := Option.bind_eq_some_iff.1 h
    obtain ⟨q, hq, h⟩ := Option.bind_eq_some_iff.1 h
    obtain ⟨n, p⟩ := q
    dsimp only at h
    cases hb : (zz.cells.size == info.size && !(info.bytes == 0) && !(info.size == 0))
    · rw [hb] at h; cases h
    rw [hb] at h
    simp only [cond_true] at h
    rw [Bool.and_eq_true, Bool.and_eq_true] at hb
    obtain ⟨⟨g1, g3⟩, g4⟩ := hb
    have g1 : zz.cells.size = info.size := by simpa using g1
    have g3 : info.bytes ≠ 0 := by simpa using g3
    have g4 : info.size ≠ 0 := by simpa using g4
    split at h
    · -- nil
      obtain rfl := VR.v_iff.1 hx
      intro ob
      rw [sGrowQ_ob h] at ob
      obtain ⟨ob0, ⟨⟨hp, hnl⟩, hn0, hlim⟩, _⟩ := ob
      obtain ⟨nv, A, hv, hlen⟩ := appendedQ_ok (st := st) (elem := elem) hq hp hnl hst hi hr hy
      dsimp only at A hlen hn0 hlim
      rw [← sGrowQ_eq hz g1 hlim g3] at h
      exact ⟨ob0, (sGrow_ok (ty := ty) (len := 0) (old := []) h (by omega) (hr.same (SH.owe_same _ _)) A (fun k => rfl) VRL.nil hv (by simp) hlen (by omega)).2⟩
    · -- a slice whose room is told
      obtain ⟨xs, hxs, h⟩ := Option.bind_eq_some_iff.1 h
      obtain ⟨c, hc, hlc, rfl⟩ := VR.sl_iff.1 hx
      intro ob
      rw [sGrowQ_ob h] at ob
      obtain ⟨ob0, ⟨⟨hp, hnl⟩, hn0, hlim⟩, hold, holen, hcap⟩ := ob
      obtain ⟨nv, A, hv, hlen⟩ := appendedQ_ok (st := st) (elem := elem) hq hp hnl hst hi hr hy
      dsimp only at A hlen hn0 hlim hcap
      obtain ⟨ov, hrun, hov, hovl⟩ := told_cells (E := E) hxs hr hc hold holen
      rw [← sGrowQ_eq hz g1 hlim g3] at h
      exact ⟨ob0, (sGrow_ok (ty := ty) h rfl (hr.same (SH.owe_same _ _)) A (fun k => by rw [show Builtin.firstCells info.size _ (.slice (some _) _ _) = loadCells _ _ from rfl]; exact hrun k) hov hv hovl hlen (by simpa using hcap)).2⟩
    · -- a slice whose room is not told
      rename_i i len _ _ _
      split at h
      · rename_i xs el es hl
        cases hb2 : (es == info.size && el == elem)
        · rw [hb2] at h; cases h
        rw [hb2] at h
        simp only [cond_true] at h
        rw [Bool.and_eq_true] at hb2
        obtain rfl : es = info.size := by simpa using hb2.1
        obtain rfl : el = elem := by simpa using hb2.2
        obtain ⟨c, hc, hlen0, rfl⟩ := VR.sl_iff.1 hx
        simp only [Option.getD_none] at hlen0
        intro ob
        have hob := sGrowQ_ob h
        rw [hob] at ob
        obtain ⟨ob0, ⟨⟨hp, hnl⟩, hn0, hlim⟩, hold, holen, h3⟩ := (show (s.owe _).ob from ob)
        obtain ⟨nv, A, hnr, hnvl⟩ := appendedQ_ok (st := st) (elem := el) hq hp hnl hst hi hr hy
        dsimp only at A hnvl hn0 hlim
        refine ⟨ob0, ?_⟩
        generalize hs1 : s.owe (((p ∧ new.length = n * info.size) ∧ n ≠ 0 ∧ (2 * (len + n) + 1024) * info.bytes ≤ 2 ^ 47) ∧ xs.take (len * info.size) = old ∧ old.length = len * info.size ∧ new.all SV.flat = true) = s1 at h
        have hsame : s.Same s1 := hs1 ▸ SH.owe_same _ _
        have hr1 := hr.same hsame
        have hl1 : s1.look i = some (.row xs el (0, 0) (some info.size), true) := by rw [hsame.look]; exact hl
        unfold sGrowQ sNew at h
        cases hroom : (s1.drop i).room
        · rw [hroom] at h; cases h
        rw [hroom] at h; cases h
        obtain ⟨_, _, b', o, hb', ho, hor, _⟩ := hr1.look hl1
        rw [hc] at hb'; cases hb'
        obtain ⟨ys, rest, rfl, hvl, hxle, b'', hb'', hsize⟩ := hor
        rw [hc] at hb''; cases hb''
        have hylen := hvl.length
        have h2 : len * info.size ≤ xs.length := by
          have := congrArg List.length hold
          rw [holen, List.length_take] at this
          omega
        subst hold
        have holdv : ∀ k, (Builtin.firstCells info.size len (.slice (some ⟨c.1, 0, none⟩) len c.2)).run E.P { w with drawn := k } = .ok (ys.take (len * info.size)).toArray { w with drawn := k } := by
          intro k
          refine run_loadCells ?_ (by simp; omega)
          intro k' hk
          rw [cell_at (w := { w with drawn := k }) ho, List.getElem?_take, if_pos hk]
          have : 0 + k' < ys.length := by omega
          simp [List.getElem?_append_left this]
          simp at this
          rw [List.getElem?_append_left this]
        by_cases hfit : len + n ≤ c.2
        · -- in place
          have hcap : (len + n) * info.size ≤ (ys ++ rest).length := by rw [hsize]; exact Nat.mul_le_mul_right _ hfit
          have hmul : (len + n) * info.size = len * info.size + n * info.size := Nat.add_mul _ _ _
          have hrun := run_storeCells (P := E.P) (b := c.1) (off := len * info.size) (e := el) (fz := (0, 0)) nv 0 w (ys ++ rest) ho (hnr.flat h3) (by omega) (by
            intro k _ _; simp)
          rw [Nat.add_zero] at hrun
          have hspl : spliceV (ys ++ rest) (len * info.size) nv = (ys.take (len * info.size) ++ nv) ++ (ys ++ rest).drop (len * info.size + n * info.size) := by
            rw [spliceV_eq _ _ _ (by omega), hnvl]
            rw [List.take_append_of_le_length (by omega)]
          obtain ⟨hle, hr'⟩ := hr1.move (w' := { w with heap := w.heap.setIfInBounds c.1 (.cells (spliceV (ys ++ rest) (len * info.size) nv).toArray el (0, 0)) }) hl1 hc hroom
            (o := .row (xs.take (len * info.size) ++ new) el (0, 0) (some info.size)) (r := .cells (spliceV (ys ++ rest) (len * info.size) nv).toArray el (0, 0))
            ⟨ys.take (len * info.size) ++ nv, (ys ++ rest).drop (len * info.size + n * info.size), by rw [fzReal_zero, hspl], ((hvl.take _).append hnr).mono (Val.put_le (hr1.fresh _ (Nat.le_refl _)) c), by
              refine ⟨?_, c, Val.put_self _ _ _, ?_⟩
              · simp; omega
              · rw [← hspl, spliceV_length, hsize]⟩ rfl rfl rfl rfl
          refine ⟨_, _, _, hle, A.room (by simp only [Option.getD_none]; exact hfit) (by simp only [addr_add, Nat.zero_add]; exact hrun), VR.sl_iff.2 ⟨c, Val.put_self _ _ _, by simp only [Option.getD_none]; exact hfit, rfl⟩, hr'⟩
        · -- a new row
          obtain ⟨newCap, k, hcap, rest', hrest', hrun⟩ := A.grow (ty := ty) hz g1 g3 holdv (by omega) hlim
          have hi' : i < 2 ^ s1.d := (hr1.look hl1).1
          have hl2 := (hvl.take (len * info.size)).append hnr
          have htk : (ys.take (len * info.size)).length = len * info.size := by simp; omega
          have hnx : ν s1.nx = none := hr1.fresh _ (Nat.le_refl _)
          have hle := Val.put_le hnx (w.heap.size, newCap)
          obtain ⟨_, hr'⟩ := ((hr1.drop hi').drawn k).new (w' := { w with drawn := k, heap := w.heap.push (.cells (ys.take (len * info.size) ++ nv ++ rest').toArray el) }) hroom newCap
            (o := .row (xs.take (len * info.size) ++ new) el (0, 0) (some info.size)) (r := .cells (ys.take (len * info.size) ++ nv ++ rest').toArray el)
            ⟨ys.take (len * info.size) ++ nv, rest', rfl, hl2.mono hle, by
              refine ⟨?_, _, Val.put_self _ _ _, ?_⟩
              · rw [← hl2.length]; simp
              · simp only [List.length_append, htk, hnvl, hrest']
                rw [← Nat.add_mul, ← Nat.add_mul]
                congr 1; omega⟩ rfl rfl rfl rfl
          refine ⟨_, _, _, hle, hrun, VR.sl_iff.2 ⟨_, Val.put_self _ _ _, by simpa using hcap, rfl⟩, hr'⟩
      · cases h
    · cases h
  · cases h

theorem sAppend_ok {st xt : TypeId} {x y z : SV} {xv yv : Value} {ty : TypeId} (h : sAppend E st xt x y s = some (z, s')) (hr : HR ν M w0 s w) (hx : VR ν x xv) (hy : VR ν y yv) :
    s'.ob → s.ob ∧ GoodV E.P (Builtin.append_ #[st, xt] ty #[xv, yv]) ν M w0 w z s' := by
  unfold sAppend at h
  split at h
  · exact sAppendQ_ok h hr hx hy
  · exact sAppend1_ok h hr hx hy
  · exact sAppend0_ok h hr hx hy

end
end Go.Rx
set_option linter.unusedVariables false
set_option linter.unusedSimpArgs false
namespace Go.Rx
section
variable {ν : Val} {M : Own} {w0 w : World} {s s' : SH} {E : Env}

theorem sCopy_ok {dt : TypeId} {rest : List TypeId} {x y z : SV} {xv yv : Value} {ty : TypeId} (h : sCopy E dt x y s = some (z, s')) (hr : HR ν M w0 s w) (hx : VR ν x xv) (hy : VR ν y yv) :
    s'.ob = s.ob ∧ GoodV E.P (Builtin.copy_ (dt :: rest).toArray ty #[xv, yv]) ν M w0 w z s' := by
  have a0 : ((dt :: rest).toArray : Array TypeId)[0]? = some dt := by simp
  have b0 : (#[xv, yv] : Array Value)[0]? = some xv := rfl
  have b1 : (#[xv, yv] : Array Value)[1]? = some yv := rfl
  unfold sCopy at h
  split at h
  · rename_i elem hd
    cases hi : tinfo E elem with
    | none => rw [hi] at h; cases h
    | some info =>
    rw [hi] at h
    simp only [Option.bind_eq_bind, Option.bind_some] at h
    cases hm : sLen y with
    | none => rw [hm] at h; cases h
    | some m =>
    rw [hm] at h
    simp only [Option.bind_some] at h
    have hrn := sLen_ok (w := w) (E := E) hm hy
    split at h
    · cases hf : sFirst info.size (Nat.min m 0) y s with
      | none => rw [hf] at h; cases h
      | some l =>
      rw [hf] at h; cases h
      obtain rfl := VR.v_iff.1 hx
      obtain ⟨ys, hys, _⟩ := sFirst_ok (E := E) hf hr hy
      refine ⟨rfl, GoodV.now hr ?_ (VR.v_iff.2 rfl)⟩
      simp only [Builtin.copy_, a0, b0, b1, Sem.run_bind, run_underlying hd, Result.andThen_ok, hrn, run_sizeOf hi, hys]
      simp [goInt]
    · rename_i i off len cap
      obtain ⟨b, hb, _, rfl⟩ := VR.sl_iff.1 hx
      cases hf : sFirst info.size (Nat.min m len) y s with
      | none => rw [hf] at h; cases h
      | some l =>
      rw [hf] at h
      simp only [Option.bind_some] at h
      obtain ⟨ys, hys, hv⟩ := sFirst_ok (E := E) hf hr hy
      split at h
      · rename_i xs e fz ext hl
        cases hc : (Nat.ble (off + l.length) xs.length && fzOk fz off l.length && l.all SV.flat)
        · rw [hc] at h; cases h
        · rw [hc] at h; cases h
          rw [Bool.and_eq_true, Bool.and_eq_true] at hc
          obtain ⟨w', hrun, hr'⟩ := hr.spliced (E := E) hl hb hv (Nat.le_of_ble_eq_true hc.1.1) hc.1.2 hc.2
          refine ⟨rfl, ν, w', _, Val.Le.refl _, ?_, VR.v_iff.2 rfl, hr'⟩
          simp only [Builtin.copy_, a0, b0, b1, Sem.run_bind, run_underlying hd, Result.andThen_ok, hrn, run_sizeOf hi, hys, List.toList_toArray, hrun, Sem.run_pure, goInt]
      · cases h
    · cases h
  · cases h

/-! ### maps -/

theorem ba_beq (x y : ByteArray) : (x == y) = true ↔ x = y := by
  cases x with | mk a => cases y with | mk b =>
  have : ((⟨a⟩ : ByteArray) == ⟨b⟩) = (a == b) := rfl
  rw [this]; simp

/-- The kinds of keys that are served. -/
inductive Keyed : TypeDesc → Prop
  | int (k : IntKind) : Keyed (.int k)
  | string : Keyed .string
  | bool : Keyed .bool

theorem keyDesc_ok {t : TypeId} {kd : TypeDesc} (h : keyDesc E t = some kd) : tdesc E t = some kd ∧ Keyed kd := by
  unfold keyDesc at h
  split at h
  · cases h; rename_i k hk; exact ⟨hk, .int k⟩
  · cases h; rename_i hk; exact ⟨hk, .string⟩
  · cases h; rename_i hk; exact ⟨hk, .bool⟩
  · cases h

theorem run_checkKey {t : TypeId} {kd : TypeDesc} (h : tdesc E t = some kd) (hk : Keyed kd) (e : Bool) (v : Value) : (Instr.checkKey e 10000 t v).run E.P w = .ok () w := by
  rw [show (10000 : Nat) = 9999 + 1 from rfl, Instr.checkKey]
  simp only [Sem.run_bind, run_underlying h, Result.andThen_ok]
  cases hk <;> cases v <;> rfl

theorem keyIs_ok {kd : TypeDesc} {k k' : SV} {kv kv' : Value} {t : Bool} (h : keyIs E kd k k' s = some (t, s')) (hk : VR ν k kv) (hk' : VR ν k' kv') :
    s.Same s' ∧ (s'.ob → s.ob ∧ Instr.sameNow kd kv kv' = some t ∧ (t = true → ∀ n, Instr.sameBits (n + 1) kv' kv = true)) := by
  unfold keyIs at h
  split at h
  · rename_i kk a x b y
    obtain rfl := VR.v_iff.1 hk
    obtain rfl := VR.v_iff.1 hk'
    cases hab : (a == b)
    · rw [hab] at h; cases h
    · rw [hab] at h
      obtain rfl : a = b := by simpa using hab
      simp only [cond_true, Option.some.injEq] at h
      obtain ⟨hsame, hob⟩ := SH.dec_ok h
      refine ⟨hsame, fun ob => ⟨(hob ob).1, ?_, ?_⟩⟩
      · simp [Instr.sameNow, (hob ob).2]
      · intro ht n
        have := (hob ob).2
        rw [ht] at this
        have hxy : x = y := by simpa using this
        simp [Instr.sameBits, hxy]
  · rename_i x y
    obtain rfl := VR.v_iff.1 hk
    obtain rfl := VR.v_iff.1 hk'
    simp only [Option.some.injEq] at h
    obtain ⟨hsame, hob⟩ := SH.dec_ok h
    refine ⟨hsame, fun ob => ⟨(hob ob).1, ?_, ?_⟩⟩
    · simp [Instr.sameNow, (hob ob).2]
    · intro ht n
      have := (hob ob).2
      rw [ht] at this
      have hxy : x = y := (ba_beq x y).1 this
      subst hxy
      simp only [Instr.sameBits]; exact (ba_beq x x).2 rfl
  · rename_i x y
    obtain rfl := VR.v_iff.1 hk
    obtain rfl := VR.v_iff.1 hk'
    simp only [Option.some.injEq] at h
    obtain ⟨hsame, hob⟩ := SH.dec_ok h
    refine ⟨hsame, fun ob => ⟨(hob ob).1, ?_, ?_⟩⟩
    · simp [Instr.sameNow, (hob ob).2]
    · intro ht n
      have := (hob ob).2
      rw [ht] at this
      have hxy : x = y := by simpa using this
      simp [Instr.sameBits, hxy]
  · cases h

theorem findS_ok {kd : TypeDesc} {k : SV} {kv : Value} (hk : VR ν k kv) : ∀ {es : List (SV × SV × Nat)} {l : List MapEntry} {i : Nat} {s s' : SH} {r : Option (Nat × SV × Nat)},
    findS E kd k es i s = some (r, s') → EntR ν es l →
    s.Same s' ∧ (s'.ob → s.ob ∧ match r with
      | none => Instr.findNow kd kv l i = some none
      | some (j, x, born) => i ≤ j ∧ ∃ e, l[j - i]? = some e ∧ VR ν x e.val ∧ e.born = born ∧ Instr.findNow kd kv l i = some (some (j, e.val)) ∧ ∀ n, Instr.sameBits (n + 1) e.key kv = true) := by
  intro es
  induction es with
  | nil =>
    intro l i s s' r h hl
    cases h
    obtain rfl : l = [] := hl
    exact ⟨.refl _, fun ob => ⟨ob, rfl⟩⟩
  | cons e es ih =>
    intro l i s s' r h hl
    obtain ⟨z, zs, rfl, h1, h2, h3, hs⟩ := hl
    unfold findS at h
    split at h
    · rename_i s1 hkey
      cases h
      obtain ⟨hsame, hob⟩ := keyIs_ok hkey hk h1
      refine ⟨hsame, fun ob => ⟨(hob ob).1, Nat.le_refl _, z, by simp, h2, h3.symm, ?_, (hob ob).2.2 rfl⟩⟩
      simp [Instr.findNow, (hob ob).2.1]
    · rename_i s1 hkey
      obtain ⟨hsame, hob⟩ := keyIs_ok hkey hk h1
      obtain ⟨hsame2, hob2⟩ := ih h hs
      refine ⟨hsame.trans hsame2, fun ob => ?_⟩
      obtain ⟨ob1, hr⟩ := hob2 ob
      refine ⟨(hob ob1).1, ?_⟩
      have hf : ∀ i, Instr.findNow kd kv (z :: zs) i = Instr.findNow kd kv zs (i + 1) := by
        intro i; simp [Instr.findNow, (hob ob1).2.1]
      cases r with
      | none => simp only at hr ⊢; rw [hf]; exact hr
      | some p =>
        obtain ⟨j, x, born⟩ := p
        simp only at hr ⊢
        obtain ⟨hij, e', he', hx, hb, hfn, hsb⟩ := hr
        refine ⟨by omega, e', ?_, hx, hb, by rw [hf]; exact hfn, hsb⟩
        rw [show j - i = (j - (i + 1)) + 1 from by omega]
        simpa using he'
    · cases h

theorem sameNow_str {p b : ByteArray} (h : (p == b) = false) : Instr.sameNow .string (.string p) (.string b) = some false := by
  simp [Instr.sameNow, h]
theorem findNow_miss {p : ByteArray} : ∀ {es : List (SV × SV × Nat)} {l : List MapEntry} {i : Nat}, (∀ e ∈ es, keyNot p e.1) → EntR ν es l → Instr.findNow .string (.string p) l i = some none
  | [], l, i, _, hl => by
    obtain rfl : l = [] := hl
    rfl
  | e :: es, l, i, h, hl => by
    obtain ⟨z, zs, rfl, h1, h2, h3, hs⟩ := hl
    obtain ⟨b, hb, hne⟩ := h e List.mem_cons_self
    rw [hb] at h1
    have hz := VR.v_iff.1 h1
    simp only [Instr.findNow, hz, sameNow_str hne]
    exact findNow_miss (fun e' he' => h e' (List.mem_cons_of_mem _ he')) hs
theorem findNow_hit {p : ByteArray} : ∀ {es : List (SV × SV × Nat)} {l : List MapEntry} {j i : Nat} {x : SV} {born : Nat}, hitP es p j x born → EntR ν es l →
    ∃ e, l[j]? = some e ∧ VR ν x e.val ∧ e.born = born ∧ e.key = .string p ∧ Instr.findNow .string (.string p) l i = some (some (i + j, e.val))
  | [], l, j, i, x, born, h, hl => by
    have := h.2
    simp at this
  | e :: es, l, 0, i, x, born, h, hl => by
    obtain ⟨z, zs, rfl, h1, h2, h3, hs⟩ := hl
    have h0 := h.2
    simp only [List.getElem?_cons_zero, Option.some.injEq] at h0
    subst h0
    have hz := VR.v_iff.1 h1
    refine ⟨z, rfl, h2, h3.symm, hz, ?_⟩
    have : (p == p) = true := (ba_beq p p).2 rfl
    simp [Instr.findNow, hz, Instr.sameNow, this]
  | e :: es, l, j + 1, i, x, born, h, hl => by
    obtain ⟨z, zs, rfl, h1, h2, h3, hs⟩ := hl
    obtain ⟨b, hb, hne⟩ := h.1 e (by simp)
    rw [hb] at h1
    have hz := VR.v_iff.1 h1
    obtain ⟨q, hq, hx, hbn, hk, hf⟩ := findNow_hit (es := es) (l := zs) (j := j) (i := i + 1) (x := x) (born := born) ⟨fun e' he' => h.1 e' (by simp [he']), by simpa using h.2⟩ hs
    refine ⟨q, by simpa using hq, hx, hbn, hk, ?_⟩
    simp only [Instr.findNow, hz, sameNow_str hne]
    rw [hf]
    congr 3; omega
theorem findQ_ok {kd : TypeDesc} {k : SV} {kv : Value} (hk : VR ν k kv) {es : List (SV × SV × Nat)} {l : List MapEntry} {s s' : SH} {r : Option (Nat × SV × Nat)} : findQ E kd k es s = some (r, s') → EntR ν es l →
    s.Same s' ∧ (s'.ob → s.ob ∧ match r with
      | none => Instr.findNow kd kv l 0 = some none
      | some (j, x, born) => 0 ≤ j ∧ ∃ e, l[j - 0]? = some e ∧ VR ν x e.val ∧ e.born = born ∧ Instr.findNow kd kv l 0 = some (some (j, e.val)) ∧ ∀ n, Instr.sameBits (n + 1) e.key kv = true) := by
  intro h hl
  unfold findQ at h
  split at h
  · rename_i p0 q0 p1 p j x born q2
    cases h
    obtain rfl := VR.v_iff.1 hk
    refine ⟨SH.owe_same _ _, fun ob => ⟨ob.1, Nat.zero_le _, ?_⟩⟩
    obtain ⟨e, h1, h2, h3, h4, h5⟩ := findNow_hit (i := 0) ob.2 hl
    rw [Nat.zero_add] at h5
    refine ⟨e, h1, h2, h3, h5, fun n => ?_⟩
    rw [h4]
    simp only [Instr.sameBits]; exact (ba_beq p p).2 rfl
  · rename_i p _
    cases h
    obtain rfl := VR.v_iff.1 hk
    exact ⟨SH.owe_same _ _, fun ob => ⟨ob.1, findNow_miss ob.2 hl⟩⟩
  · exact findS_ok hk h hl

theorem EntR.modify {es : List (SV × SV × Nat)} {l : List MapEntry} (h : EntR ν es l) (j : Nat) (f : SV × SV × Nat → SV × SV × Nat) (g : MapEntry → MapEntry)
    (hfg : ∀ a e, VR ν a.1 e.key → VR ν a.2.1 e.val → a.2.2 = e.born → VR ν (f a).1 (g e).key ∧ VR ν (f a).2.1 (g e).val ∧ (f a).2.2 = (g e).born) : EntR ν (es.modify j f) (l.modify j g) := by
  induction es generalizing l j with
  | nil => have h' : l = [] := h; subst h'; simp [EntR]
  | cons a es ih =>
    obtain ⟨z, zs, rfl, h1, h2, h3, hs⟩ := h
    cases j with
    | zero =>
      obtain ⟨k1, k2, k3⟩ := hfg a z h1 h2 h3
      simp only [List.modify_zero_cons]
      exact ⟨g z, zs, rfl, k1, k2, k3, hs⟩
    | succ j =>
      simp only [List.modify_succ_cons]
      exact ⟨z, _, rfl, h1, h2, h3, ih hs j⟩

theorem EntR.append {es : List (SV × SV × Nat)} {l : List MapEntry} (h : EntR ν es l) {fs : List (SV × SV × Nat)} {m : List MapEntry} (k : EntR ν fs m) : EntR ν (es ++ fs) (l ++ m) := by
  induction es generalizing l with
  | nil => obtain rfl : l = [] := h; exact k
  | cons a es ih =>
    obtain ⟨z, zs, rfl, h1, h2, h3, hs⟩ := h
    exact ⟨z, _, rfl, h1, h2, h3, ih hs⟩

theorem EntR.erase {es : List (SV × SV × Nat)} {l : List MapEntry} (h : EntR ν es l) (j : Nat) : EntR ν (es.eraseIdx j) (l.eraseIdx j) := by
  induction es generalizing l j with
  | nil => have h' : l = [] := h; subst h'; simp [EntR]
  | cons a es ih =>
    obtain ⟨z, zs, rfl, h1, h2, h3, hs⟩ := h
    cases j with
    | zero => exact hs
    | succ j => exact ⟨z, _, rfl, h1, h2, h3, ih hs j⟩

theorem EntR.length {es : List (SV × SV × Nat)} {l : List MapEntry} (h : EntR ν es l) : l.length = es.length := by
  induction es generalizing l with
  | nil => obtain rfl : l = [] := h; rfl
  | cons a es ih => obtain ⟨z, zs, rfl, _, _, _, hs⟩ := h; simp [ih hs]

theorem run_getObj_map {P : Program} {b : Nat} {es : Array MapEntry} {c : Nat} (h : w.heap[b]? = some (.map es c)) : (getObj b).run P w = .ok (.map es c) w := by
  simp [getObj, Sem.run, h]

theorem run_setObj_map {P : Program} {b : Nat} {es : Array MapEntry} {c : Nat} (h : w.heap[b]? = some (.map es c)) (o : Obj) : (setObj b o).run P w = .ok () { w with heap := w.heap.setIfInBounds b o } := by
  simp [setObj, Sem.run, h]

theorem run_findKey {t : TypeId} {kd : TypeDesc} (h : tdesc E t = some kd) {kv : Value} {l : List MapEntry} {r : Option (Nat × Value)} (hf : Instr.findNow kd kv l 0 = some r) :
    (Instr.findKey t kv l).run E.P w = .ok r w := by
  simp [Instr.findKey, run_underlying h, hf]

theorem sLookup_ok {t : TypeId} {m k x : SV} {ok : Bool} {mv kv : Value} (h : sLookup E t m k ok s = some (x, s')) (hr : HR ν M w0 s w) (hm : VR ν m mv) (hk : VR ν k kv) :
    s.Same s' ∧ (s'.ob → s.ob ∧ ∃ y, (Instr.lookup t mv kv ok).run E.P w = .ok y w ∧ VR ν x y) := by
  unfold sLookup at h
  split at h
  · rename_i kt et hd
    cases hkd : keyDesc E kt with
    | none => rw [hkd] at h; cases h
    | some kd =>
    rw [hkd] at h
    simp only [Option.bind_eq_bind, Option.bind_some] at h
    obtain ⟨hkt, hkey⟩ := keyDesc_ok hkd
    cases hi : tinfo E et with
    | none => rw [hi] at h; cases h
    | some zi =>
    rw [hi] at h
    simp only [Option.bind_some] at h
    cases hz : zi.zero with
    | none => rw [hz] at h; cases h
    | some z =>
    rw [hz] at h
    simp only [Option.bind_some] at h
    -- the entries, and how the model comes to them
    have key : ∀ (es : List (SV × SV × Nat)) (l : List MapEntry), EntR ν es l →
        (∀ (q : Option (Nat × Value)), Instr.findNow kd kv l 0 = some q → (Instr.lookup t mv kv ok).run E.P w =
          .ok (if ok = true then .tuple #[(q.map (·.2)).getD z, .bool q.isSome] else (q.map (·.2)).getD z) w) →
        ((findQ E kd k es s).bind fun p => match p.1 with
          | some (_, x, _) => some (bif ok then SV.tup [x, .v (.bool true)] else x, p.2)
          | none => some (bif ok then SV.tup [.v z, .v (.bool false)] else .v z, p.2)) = some (x, s') →
        s.Same s' ∧ (s'.ob → s.ob ∧ ∃ y, (Instr.lookup t mv kv ok).run E.P w = .ok y w ∧ VR ν x y) := by
      intro es l hl hlook h
      cases hf : findQ E kd k es s with
      | none => rw [hf] at h; cases h
      | some p =>
      obtain ⟨r, s1⟩ := p
      rw [hf] at h
      simp only [Option.bind_some] at h
      obtain ⟨hsame, hob⟩ := findQ_ok hk hf hl
      cases r with
      | none =>
        simp only at h
        cases h
        refine ⟨hsame, fun ob => ⟨(hob ob).1, _, hlook none (hob ob).2, ?_⟩⟩
        cases ok
        · exact VR.v_iff.2 rfl
        · exact VR.tup_iff.2 ⟨[z, .bool false], rfl, VRL.cons (VR.v_iff.2 rfl) (VRL.cons (VR.v_iff.2 rfl) VRL.nil)⟩
      | some q =>
        obtain ⟨j, x0, born⟩ := q
        simp only at h
        cases h
        refine ⟨hsame, fun ob => ?_⟩
        obtain ⟨ob0, _, e, he, hx, _, hfn, _⟩ := hob ob
        refine ⟨ob0, _, hlook (some (j, e.val)) hfn, ?_⟩
        cases ok
        · exact hx
        · exact VR.tup_iff.2 ⟨[e.val, .bool true], rfl, VRL.cons hx (VRL.cons (VR.v_iff.2 rfl) VRL.nil)⟩
    split at h
    · obtain rfl := VR.v_iff.1 hm
      refine key [] [] rfl (fun q hq => ?_) h
      simp only [Instr.lookup, Sem.run_bind, run_underlying hd, Result.andThen_ok, Sem.run_pure, run_checkKey hkt hkey, run_findKey hkt hq]
      cases q with
      | none => cases ok <;> simp [run_zeroValue hi hz]
      | some q => cases ok <;> simp
    · rename_i i
      split at h
      · rename_i es clock own hl
        obtain ⟨_, _, b, o, hb, ho, hor, _⟩ := hr.look hl
        obtain ⟨c, hc, rfl⟩ := VR.map_iff.1 hm
        rw [hb] at hc; cases hc
        obtain ⟨l, rfl, hl⟩ := hor
        refine key es l hl (fun q hq => ?_) h
        simp only [Instr.lookup, Sem.run_bind, run_underlying hd, run_getObj_map ho, Result.andThen_ok, Sem.run_pure, run_checkKey hkt hkey, run_findKey hkt hq]
        cases q with
        | none => cases ok <;> simp [run_zeroValue hi hz]
        | some q => cases ok <;> simp
      · cases h
    · cases h
  · cases h

end
end Go.Rx
set_option linter.unusedVariables false
set_option linter.unusedSimpArgs false
namespace Go.Rx
section
variable {ν : Val} {M : Own} {w0 w : World} {s s' : SH} {E : Env}

theorem run_keyThatStays {P : Program} {old new : Value} (h : ∀ n, Instr.sameBits (n + 1) old new = true) : (Instr.keyThatStays old new).run P w = .ok new w := by
  unfold Instr.keyThatStays
  rw [if_pos (h 9999)]; rfl

/-- A map is written anew. -/
theorem HR.putMap (hr : HR ν M w0 s w) {i : Nat} {es : List (SV × SV × Nat)} {clock : Nat} (hl : s.look i = some (.map es clock, true)) {b : Nat × Nat} (hb : ν i = some b)
    {fs : List (SV × SV × Nat)} {l : List MapEntry} {clock' : Nat} (hf : EntR ν fs l) :
    HR ν M w0 (s.put i (.map fs clock')) { w with heap := w.heap.setIfInBounds b.1 (.map l.toArray clock') } :=
  hr.put hl hb (o := .map fs clock') ⟨l, rfl, hf⟩ rfl rfl rfl rfl

theorem SH.Same.put {i : Nat} (e : s.Same s') (o : SO) : (s.put i o).Same (s'.put i o) := by
  cases s; cases s'
  obtain ⟨rfl, rfl, rfl⟩ := e
  exact ⟨rfl, rfl, rfl⟩

theorem modify_toArray' (l : List MapEntry) (j : Nat) (f : MapEntry → MapEntry) : l.toArray.modify j f = (l.modify j f).toArray := by
  apply Array.ext'
  simp

theorem sMapUpdate_ok {t : TypeId} {m k x : SV} {mv kv xv : Value} (h : sMapUpdate E t m k x s = some s') (hr : HR ν M w0 s w) (hm : VR ν m mv) (hk : VR ν k kv) (hx : VR ν x xv) :
    s'.ob → s.ob ∧ GoodU E.P (Instr.mapUpdate t mv kv xv) ν M w0 w s' := by
  unfold sMapUpdate at h
  split at h
  · rename_i kt et i hd
    cases hkd : keyDesc E kt with
    | none => rw [hkd] at h; cases h
    | some kd =>
    rw [hkd] at h
    simp only [Option.bind_eq_bind, Option.bind_some] at h
    obtain ⟨hkt, hkey⟩ := keyDesc_ok hkd
    split at h
    · rename_i es clock hl
      obtain ⟨c, hc, rfl⟩ := VR.map_iff.1 hm
      cases hf : findQ E kd k es s with
      | none => rw [hf] at h; cases h
      | some p =>
      obtain ⟨r, s1⟩ := p
      rw [hf] at h
      simp only [Option.bind_some] at h
      obtain ⟨_, _, b, o, hb, ho, hor, _⟩ := hr.look hl
      rw [hc] at hb; cases hb
      obtain ⟨l, rfl, hent⟩ := hor
      obtain ⟨hsame, hob⟩ := findQ_ok hk hf hent
      have hl1 : s1.look i = some (.map es clock, true) := by rw [hsame.look]; exact hl
      have hr1 := hr.same hsame
      cases r with
      | none =>
        simp only at h
        cases h
        intro ob
        have ob : s1.ob := ob
        obtain ⟨ob0, hfn⟩ := hob ob
        refine ⟨ob0, ν, _, Val.Le.refl _, ?_, hr1.putMap hl1 hc (l := l ++ [{ key := kv, val := xv, born := clock }]) (hent.append ⟨_, [], rfl, hk, hx, rfl, rfl⟩)⟩
        simp only [Instr.mapUpdate, Sem.run_bind, run_underlying hd, Result.andThen_ok, run_getObj_map ho, run_checkKey hkt hkey, run_findKey hkt hfn, run_setObj_map ho]
        simp
      | some q =>
        obtain ⟨j, x0, born⟩ := q
        simp only at h
        cases h
        intro ob
        have ob : s1.ob := ob
        obtain ⟨ob0, _, e, he, _, _, hfn, hsb⟩ := hob ob
        rw [Nat.sub_zero] at he
        refine ⟨ob0, ν, _, Val.Le.refl _, ?_, hr1.putMap hl1 hc (l := l.modify j fun e => { e with key := kv, val := xv }) (hent.modify j _ _ fun a e _ _ h3 => ⟨hk, hx, h3⟩)⟩
        have hkey' : ((l.toArray[j]?).map (·.key)).getD kv = e.key := by simp [he]
        simp only [Instr.mapUpdate, Sem.run_bind, run_underlying hd, Result.andThen_ok, run_getObj_map ho, run_checkKey hkt hkey, run_findKey hkt hfn, hkey', run_keyThatStays hsb, run_setObj_map ho, modify_toArray']
    · cases h
  · cases h

theorem sMapEntry_ok {t : TypeId} {m k x : SV} {mv kv : Value} (h : sMapEntry E t m k s = some (x, s')) (hr : HR ν M w0 s w) (hm : VR ν m mv) (hk : VR ν k kv) :
    s'.ob → s.ob ∧ GoodV E.P (Instr.mapEntry t mv kv) ν M w0 w x s' := by
  unfold sMapEntry at h
  split at h
  · rename_i kt et i hd
    cases hkd : keyDesc E kt with
    | none => rw [hkd] at h; cases h
    | some kd =>
    rw [hkd] at h
    simp only [Option.bind_eq_bind, Option.bind_some] at h
    obtain ⟨hkt, hkey⟩ := keyDesc_ok hkd
    split at h
    · rename_i es clock hl
      obtain ⟨c, hc, rfl⟩ := VR.map_iff.1 hm
      cases hf : findQ E kd k es s with
      | none => rw [hf] at h; cases h
      | some p =>
      obtain ⟨r, s1⟩ := p
      rw [hf] at h
      simp only [Option.bind_some] at h
      obtain ⟨_, _, b, o, hb, ho, hor, _⟩ := hr.look hl
      rw [hc] at hb; cases hb
      obtain ⟨l, rfl, hent⟩ := hor
      obtain ⟨hsame, hob⟩ := findQ_ok hk hf hent
      have hl1 : s1.look i = some (.map es clock, true) := by rw [hsame.look]; exact hl
      have hr1 := hr.same hsame
      cases r with
      | none =>
        simp only at h
        cases hi : tinfo E et with
        | none => rw [hi] at h; cases h
        | some zi =>
        rw [hi] at h
        simp only [Option.bind_some] at h
        cases hz : zi.zero with
        | none => rw [hz] at h; cases h
        | some z =>
        rw [hz] at h
        simp only [Option.bind_some] at h
        cases h
        intro ob
        have ob : s1.ob := ob
        obtain ⟨ob0, hfn⟩ := hob ob
        refine ⟨ob0, ν, _, _, Val.Le.refl _, ?_, VR.tup_iff.2 ⟨[z, .int .i64 clock], rfl, VRL.cons (VR.v_iff.2 rfl) (VRL.cons (VR.v_iff.2 rfl) VRL.nil)⟩,
          hr1.putMap hl1 hc (l := l ++ [{ key := kv, val := z, born := clock }]) (hent.append ⟨_, [], rfl, hk, VR.v_iff.2 rfl, rfl, rfl⟩)⟩
        simp only [Instr.mapEntry, Sem.run_bind, run_underlying hd, Result.andThen_ok, run_getObj_map ho, run_checkKey hkt hkey, run_findKey hkt hfn, run_zeroValue hi hz, run_setObj_map ho]
        simp [goInt]
      | some q =>
        obtain ⟨j, x0, born⟩ := q
        simp only at h
        cases h
        intro ob
        have ob : s1.ob := ob
        obtain ⟨ob0, _, e, he, hx0, hborn, hfn, hsb⟩ := hob ob
        rw [Nat.sub_zero] at he
        refine ⟨ob0, ν, _, _, Val.Le.refl _, ?_, VR.tup_iff.2 ⟨[e.val, .int .i64 born], rfl, VRL.cons hx0 (VRL.cons (VR.v_iff.2 rfl) VRL.nil)⟩,
          hr1.putMap hl1 hc (l := l.modify j fun e => { e with key := kv }) (hent.modify j _ _ fun a e _ h2 h3 => ⟨hk, h2, h3⟩)⟩
        have hkey' : ((l.toArray[j]?).map (·.key)).getD kv = e.key := by simp [he]
        have hborn' : ((l.toArray[j]?).map (fun x => (x.born : Int))).getD 0 = (born : Int) := by simp [he, hborn]
        simp only [Instr.mapEntry, Sem.run_bind, run_underlying hd, Result.andThen_ok, run_getObj_map ho, run_checkKey hkt hkey, run_findKey hkt hfn, hkey', hborn', run_keyThatStays hsb, run_setObj_map ho, modify_toArray', goInt, Sem.run_pure]
    · cases h
  · cases h

theorem findBorn_ok {born : Int} : ∀ {es : List (SV × SV × Nat)} {l : List MapEntry} {i j : Nat}, findBorn born es i = some j → EntR ν es l →
    i ≤ j ∧ l.findIdx? (fun e => (e.born : Int) == born) = some (j - i) := by
  intro es
  induction es with
  | nil => intro l i j h _; cases h
  | cons e es ih =>
    intro l i j h hl
    obtain ⟨z, zs, rfl, h1, h2, h3, hs⟩ := hl
    unfold findBorn at h
    cases hb : decide ((e.2.2 : Int) = born)
    · rw [hb] at h
      obtain ⟨hij, hf⟩ := ih h hs
      have hne : ((z.born : Int) == born) = false := by
        have := of_decide_eq_false hb
        rw [← h3]; simpa using this
      refine ⟨by omega, ?_⟩
      rw [List.findIdx?_cons, hne, hf]
      simp; omega
    · rw [hb] at h; cases h
      have he : ((z.born : Int) == born) = true := by
        have := of_decide_eq_true hb
        rw [← h3]; simpa using this
      exact ⟨Nat.le_refl _, by rw [List.findIdx?_cons, he]; simp⟩

theorem sEntryStore_ok {t : TypeId} {m st x : SV} {mv sv xv : Value} (h : sEntryStore m st x s = some s') (hr : HR ν M w0 s w) (hm : VR ν m mv) (hst : VR ν st sv) (hx : VR ν x xv) :
    s'.ob = s.ob ∧ GoodU E.P (Instr.entryStore t mv sv xv) ν M w0 w s' := by
  unfold sEntryStore at h
  split at h
  · rename_i i kk born hint
    split at h
    · rename_i es clock hl
      obtain ⟨c, hc, rfl⟩ := VR.map_iff.1 hm
      obtain rfl := SV.int_ok hint hst
      obtain ⟨_, _, b, o, hb, ho, hor, _⟩ := hr.look hl
      rw [hc] at hb; cases hb
      obtain ⟨l, rfl, hent⟩ := hor
      cases hf : findBorn born es 0 with
      | none => rw [hf] at h; cases h
      | some j =>
      rw [hf] at h; cases h
      obtain ⟨_, hfi⟩ := findBorn_ok hf hent
      rw [Nat.sub_zero] at hfi
      refine ⟨rfl, ν, _, Val.Le.refl _, ?_, hr.putMap hl hc (l := l.modify j fun e => { e with val := xv }) (hent.modify j _ _ fun a e h1 _ h3 => ⟨h1, hx, h3⟩)⟩
      have hfa : l.toArray.findIdx? (fun e => (e.born : Int) == born) = some j := by rw [List.findIdx?_toArray]; exact hfi
      simp only [Instr.entryStore, Sem.run_bind, run_getObj_map ho, Result.andThen_ok, asInt, asIntOf, Sem.run_pure, hfa, run_setObj_map ho, modify_toArray']
    · cases h
  · cases h

theorem sDelete_ok {t : TypeId} {rest : List TypeId} {m k x : SV} {mv kv : Value} {ty : TypeId} (h : sDelete E t m k s = some (x, s')) (hr : HR ν M w0 s w) (hm : VR ν m mv) (hk : VR ν k kv) :
    s'.ob → s.ob ∧ GoodV E.P (Builtin.delete_ (t :: rest).toArray ty #[mv, kv]) ν M w0 w x s' := by
  have a0 : ((t :: rest).toArray : Array TypeId)[0]? = some t := by simp
  have b0 : (#[mv, kv] : Array Value)[0]? = some mv := rfl
  have b1 : (#[mv, kv] : Array Value)[1]? = some kv := rfl
  unfold sDelete at h
  split at h
  · rename_i kt et hd
    cases hkd : keyDesc E kt with
    | none => rw [hkd] at h; cases h
    | some kd =>
    rw [hkd] at h
    simp only [Option.bind_eq_bind, Option.bind_some] at h
    obtain ⟨hkt, hkey⟩ := keyDesc_ok hkd
    split at h
    · cases h
      obtain rfl := VR.v_iff.1 hm
      refine fun ob => ⟨ob, GoodV.now hr ?_ (VR.v_iff.2 rfl)⟩
      simp only [Builtin.delete_, a0, b0, b1, Sem.run_bind, run_underlying hd, Result.andThen_ok, run_checkKey hkt hkey, Sem.run_pure]
    · rename_i i
      split at h
      · rename_i es clock hl
        obtain ⟨c, hc, rfl⟩ := VR.map_iff.1 hm
        cases hf : findQ E kd k es s with
        | none => rw [hf] at h; cases h
        | some p =>
        obtain ⟨r, s1⟩ := p
        rw [hf] at h
        simp only [Option.bind_some] at h
        obtain ⟨_, _, b, o, hb, ho, hor, _⟩ := hr.look hl
        rw [hc] at hb; cases hb
        obtain ⟨l, rfl, hent⟩ := hor
        obtain ⟨hsame, hob⟩ := findQ_ok hk hf hent
        have hl1 : s1.look i = some (.map es clock, true) := by rw [hsame.look]; exact hl
        have hr1 := hr.same hsame
        cases r with
        | none =>
          simp only at h
          cases h
          intro ob
          obtain ⟨ob0, hfn⟩ := hob ob
          have hself : w.heap.setIfInBounds c.1 (.map l.toArray clock) = w.heap := by
            apply Array.ext_getElem?
            intro j
            rw [Array.getElem?_setIfInBounds]
            split
            · rename_i ej
              subst ej
              have h1 := (Array.getElem?_eq_some_iff.1 ho).1
              have h2 := (Array.getElem?_eq_some_iff.1 ho).2
              simp [h1, h2]
            · rfl
          refine ⟨ob0, GoodV.now hr1 ?_ (VR.v_iff.2 rfl)⟩
          simp only [Builtin.delete_, a0, b0, b1, Sem.run_bind, run_underlying hd, run_getObj_map ho, Result.andThen_ok, run_checkKey hkt hkey, run_findKey hkt hfn, run_setObj_map ho, hself, Sem.run_pure]
        | some q =>
          obtain ⟨j, x0, born⟩ := q
          simp only at h
          cases h
          intro ob
          have ob : s1.ob := ob
          obtain ⟨ob0, _, e, he, _, _, hfn, _⟩ := hob ob
          refine ⟨ob0, ν, _, _, Val.Le.refl _, ?_, VR.v_iff.2 rfl, hr1.putMap hl1 hc (l := l.eraseIdx j) (hent.erase j)⟩
          have her : l.toArray.eraseIdxIfInBounds j = (l.eraseIdx j).toArray := by
            apply Array.ext'; simp
          simp only [Builtin.delete_, a0, b0, b1, Sem.run_bind, run_underlying hd, run_getObj_map ho, Result.andThen_ok, run_checkKey hkt hkey, run_findKey hkt hfn, run_setObj_map ho, her, Sem.run_pure]
      · cases h
    · cases h
  · cases h

end
end Go.Rx
set_option linter.unusedVariables false
set_option linter.unusedSimpArgs false
namespace Go.Rx
section
variable {ν : Val} {M : Own} {w0 w : World} {s s' : SH} {E : Env}

theorem sRange_ok {t : TypeId} {x y : SV} {xv : Value} (h : sRange E t x s = some (y, s')) (hr : HR ν M w0 s w) (hx : VR ν x xv) :
    s'.ob = s.ob ∧ GoodV E.P (Instr.range t xv) ν M w0 w y s' := by
  unfold sRange at h
  split at h
  · rename_i b hd
    obtain rfl := VR.v_iff.1 hx
    cases hn : sNew (.siter b 0) s with
    | none => rw [hn] at h; cases h
    | some p =>
    obtain ⟨i, s1⟩ := p
    rw [hn] at h; cases h
    obtain ⟨hob, ν', hle, hi, hr'⟩ := sNew_ok hn hr 0 (r := .stringIter b 0) (fun _ _ _ => rfl)
    refine ⟨hob, ν', _, _, hle, ?_, VR.ptr_iff.2 ⟨_, hi, rfl⟩, hr'⟩
    simp only [Instr.range, Sem.run_bind, run_underlying hd, Result.andThen_ok, Sem.run_pure, run_newObj]
  · rename_i k e hd
    obtain rfl := VR.v_iff.1 hx
    cases hn : sNew (.miter none 0 [] 0) s with
    | none => rw [hn] at h; cases h
    | some p =>
    obtain ⟨i, s1⟩ := p
    rw [hn] at h; cases h
    obtain ⟨hob, ν', hle, hi, hr'⟩ := sNew_ok hn hr 0 (r := .mapIter none 0 #[] 0) (fun _ _ _ => rfl)
    refine ⟨hob, ν', _, _, hle, ?_, VR.ptr_iff.2 ⟨_, hi, rfl⟩, hr'⟩
    simp only [Instr.range, Sem.run_bind, run_underlying hd, Result.andThen_ok, Sem.run_pure, run_newObj]
  · rename_i k e m hd
    obtain ⟨c, hc, rfl⟩ := VR.map_iff.1 hx
    split at h
    · rename_i es clock own hl
      cases hn : sNew (.miter (some m) clock [] clock) s with
      | none => rw [hn] at h; cases h
      | some p =>
      obtain ⟨i, s1⟩ := p
      rw [hn] at h; cases h
      obtain ⟨_, _, b, o, hb, ho, hor, _⟩ := hr.look hl
      rw [hc] at hb; cases hb
      obtain ⟨l, rfl, _⟩ := hor
      obtain ⟨hob, ν', hle, hi, hr'⟩ := sNew_ok hn hr 0 (r := .mapIter (some c.1) clock #[] clock) (fun ν' hle _ => ⟨c, hle _ _ hc, rfl⟩)
      refine ⟨hob, ν', _, _, hle, ?_, VR.ptr_iff.2 ⟨_, hi, rfl⟩, hr'⟩
      simp only [Instr.range, Sem.run_bind, run_underlying hd, run_getObj_map ho, Result.andThen_ok, Sem.run_pure, run_newObj]
    · cases h
  · cases h

theorem EntR.filter {es : List (SV × SV × Nat)} {l : List MapEntry} (h : EntR ν es l) (p : Nat → Bool) : EntR ν (es.filter fun e => p e.2.2) (l.filter fun e => p e.born) := by
  induction es generalizing l with
  | nil => have h' : l = [] := h; subst h'; exact rfl
  | cons a es ih =>
    obtain ⟨z, zs, rfl, h1, h2, h3, hs⟩ := h
    simp only [List.filter_cons, ← h3]
    split
    · exact ⟨z, _, rfl, h1, h2, h3, ih hs⟩
    · exact ih hs

theorem EntR.get {es : List (SV × SV × Nat)} {l : List MapEntry} {j : Nat} {e : MapEntry} (h : EntR ν es l) (he : l[j]? = some e) : ∃ a, es[j]? = some a ∧ VR ν a.1 e.key ∧ VR ν a.2.1 e.val ∧ a.2.2 = e.born := by
  induction es generalizing l j with
  | nil => have h' : l = [] := h; subst h'; simp at he
  | cons a es ih =>
    obtain ⟨z, zs, rfl, h1, h2, h3, hs⟩ := h
    cases j with
    | zero => simp at he; subst he; exact ⟨a, by simp, h1, h2, h3⟩
    | succ j => simp at he; obtain ⟨b, hb, k⟩ := ih hs he; exact ⟨b, by simpa using hb, k⟩

theorem EntR.all {es : List (SV × SV × Nat)} {l : List MapEntry} (h : EntR ν es l) (p : Nat → Bool) : es.all (fun e => p e.2.2) = l.all (fun e => p e.born) := by
  induction es generalizing l with
  | nil => have h' : l = [] := h; subst h'; rfl
  | cons a es ih =>
    obtain ⟨z, zs, rfl, _, _, h3, hs⟩ := h
    simp only [List.all_cons, h3, ih hs]

theorem EntR.isEmpty {es : List (SV × SV × Nat)} {l : List MapEntry} (h : EntR ν es l) : l.isEmpty = es.isEmpty := by
  have := h.length
  cases l <;> cases es <;> simp_all

theorem run_getObj {P : Program} {b : Nat} {o : Obj} (h : w.heap[b]? = some o) (hc : ∀ c e f, o ≠ .cells c e f) : (getObj b).run P w = .ok o w := by
  unfold getObj
  rw [Sem.run]
  cases o with
  | cells c e f => exact absurd rfl (hc c e f)
  | _ => rw [h]; rfl

theorem run_setObj {P : Program} {b : Nat} {o : Obj} (h : w.heap[b]? = some o) (hc : ∀ c e f, o ≠ .cells c e f) (o' : Obj) : (setObj b o').run P w = .ok () { w with heap := w.heap.setIfInBounds b o' } := by
  unfold setObj
  rw [Sem.run]
  cases o with
  | cells c e f => exact absurd rfl (hc c e f)
  | _ => rw [h]; rfl

/-- A step of an iterator: one of the ways that are told is the one that is gone. -/
theorem sNextIt_ok {x : SV} {isS : Bool} {xv : Value} {ty : TypeId} {L : List (SV × SH)} (h : sNextIt x isS s = some L) (hr : HR ν M w0 s w) (hx : VR ν x xv) :
    ∃ p ∈ L, p.2.ob = s.ob ∧ GoodV E.P (Instr.next xv isS ty) ν M w0 w p.1 p.2 := by
  unfold sNextIt at h
  split at h
  · -- a text
    rename_i i
    obtain ⟨c, hc, rfl⟩ := VR.ptr_iff.1 hx
    split at h
    · rename_i b pos hl
      obtain ⟨_, _, c', o, hc', ho, hor, _⟩ := hr.look hl
      rw [hc] at hc'; cases hc'
      obtain rfl : o = .stringIter b pos := hor
      have hg := run_getObj (P := E.P) ho (by intro a b c e; cases e)
      cases hlt : Nat.blt pos b.size
      · rw [hlt] at h; cases h
        refine ⟨_, List.mem_singleton.2 rfl, rfl, GoodV.now hr ?_ (VR.v_iff.2 rfl)⟩
        have : ¬ pos < b.size := fun e => by rw [blt_iff.2 e] at hlt; cases hlt
        simp only [Instr.next, Sem.run_bind, hg, Result.andThen_ok, if_neg this, Sem.run_pure]
      · rw [hlt] at h; cases h
        have hlt := blt_iff.1 hlt
        have hs := run_setObj (P := E.P) ho (by intro a b c e; cases e) (.stringIter b (pos + (Utf8.decode b pos).2))
        refine ⟨_, List.mem_singleton.2 rfl, rfl, ν, _, _, Val.Le.refl _, ?_, VR.tup_iff.2 ⟨[_, _, _], rfl, VRL.cons (VR.v_iff.2 rfl) (VRL.cons (VR.v_iff.2 rfl) (VRL.cons (VR.v_iff.2 rfl) VRL.nil))⟩,
          hr.put (w' := { w with heap := w.heap.setIfInBounds c.1 (.stringIter b (pos + (Utf8.decode b pos).2)) }) hl hc (o := .siter b (pos + (Utf8.decode b pos).2)) (r := .stringIter b (pos + (Utf8.decode b pos).2)) rfl rfl rfl rfl rfl⟩
        simp only [Instr.next, Sem.run_bind, hg, Result.andThen_ok, if_pos hlt, hs, Sem.run_pure, goInt]
    · cases h
  · -- a map
    rename_i i
    obtain ⟨c, hc, rfl⟩ := VR.ptr_iff.1 hx
    split at h
    · rename_i since seen last own hl
      cases h
      obtain ⟨_, _, c', o, hc', ho, hor, _⟩ := hr.look hl
      rw [hc] at hc'; cases hc'
      obtain rfl : o = .mapIter none since seen.toArray last := hor
      have hg := run_getObj (P := E.P) ho (by intro a b c e; cases e)
      refine ⟨_, List.mem_singleton.2 rfl, rfl, GoodV.now hr ?_ (VR.v_iff.2 rfl)⟩
      simp only [Instr.next, Sem.run_bind, hg, Result.andThen_ok, Sem.run_pure]
    · rename_i m since seen last hl
      split at h
      · rename_i es clock own hlm
        cases hun : (!seen.isEmpty && !es.isEmpty && es.all (fun e => Nat.ble last e.2.2))
        rotate_left
        · rw [hun] at h; cases h
        rw [hun] at h
        simp only [cond_false, Option.some.injEq] at h
        obtain ⟨_, _, c', o, hc', ho, hor, _⟩ := hr.look hl
        rw [hc] at hc'; cases hc'
        obtain ⟨cm, hcm, rfl⟩ := hor
        obtain ⟨_, _, c', o, hc', hom, horm, _⟩ := hr.look hlm
        rw [hcm] at hc'; cases hc'
        obtain ⟨l, rfl, hent⟩ := horm
        have hg := run_getObj (P := E.P) ho (by intro a b c e; cases e)
        have hgm := run_getObj_map (P := E.P) hom
        have e1 : (fun e : SV × SV × Nat => Nat.ble last e.2.2) = (fun e => (fun n => Nat.ble last n) e.2.2) := rfl
        have hun' : (!seen.toArray.isEmpty && !l.toArray.isEmpty && l.toArray.all (fun e => decide (e.born ≥ last))) = false := by
          rw [← hun, e1, hent.all]
          have : (fun e : MapEntry => decide (e.born ≥ last)) = (fun e : MapEntry => (fun n => Nat.ble last n) e.born) := by
            funext e
            rw [Bool.eq_iff_iff]; simp
          simp only [List.isEmpty_toArray, hent.isEmpty, List.all_toArray, this]
        -- the candidates
        have hleft := hent.filter (fun n => !seen.contains n)
        generalize hA : (es.filter fun e => !seen.contains e.2.2) = left at *
        generalize hB : (l.filter fun e => !seen.contains e.born) = leftv at *
        have hold := hleft.filter (fun n => Nat.blt n since)
        have hnew := hleft.filter (fun n => Nat.ble since n)
        have hboth := hold.append hnew
        have f1 : (l.toArray.filter fun e => !seen.toArray.contains e.born) = leftv.toArray := by
          rw [List.filter_toArray, ← hB]; simp
        have f2 : (leftv.toArray.filter fun e => decide (e.born < since)) = (leftv.filter fun e => Nat.blt e.born since).toArray := by
          rw [List.filter_toArray]; congr 1
          apply List.filter_congr
          intro e _
          rw [Bool.eq_iff_iff, blt_iff]; simp
        have f3 : (leftv.toArray.filter fun e => decide (e.born ≥ since)) = (leftv.filter fun e => Nat.ble since e.born).toArray := by
          rw [List.filter_toArray]; congr 1
          apply List.filter_congr
          intro e _
          rw [Bool.eq_iff_iff]; simp
        have hemp := hold.isEmpty
        generalize hO : (left.filter fun e => Nat.blt e.2.2 since) = old at *
        generalize hN : (left.filter fun e => Nat.ble since e.2.2) = new at *
        generalize hOv : (leftv.filter fun e => Nat.blt e.born since) = oldv at *
        generalize hNv : (leftv.filter fun e => Nat.ble since e.born) = newv at *
        -- the choice
        let cands : List (Option MapEntry) := (if oldv.isEmpty then [none] else []) ++ (oldv ++ newv).map some
        have fc : (if (oldv.toArray).isEmpty = true then #[none] else #[]) ++ Array.map some (oldv.toArray ++ newv.toArray) = cands.toArray := by
          simp only [cands, List.isEmpty_toArray]
          split <;> (apply Array.ext'; simp)
        have hpos : 0 < cands.length := by
          simp only [cands]
          cases oldv <;> simp
        obtain ⟨idx, k, hch, hidx⟩ : ∃ idx k, (choose (.mapNext cands.length)).run E.P w = .ok idx { w with drawn := k } ∧ idx < cands.length := by
          rw [run_choose]
          by_cases h1 : cands.length ≤ 1
          · have hf : (Question.mapNext cands.length).forced = true := by simp [Question.forced, h1]
            exact ⟨0, w.drawn, by rw [if_pos hf], hpos⟩
          · have hf : ¬ (Question.mapNext cands.length).forced = true := by simp [Question.forced]; omega
            refine ⟨_, w.drawn + 1, by rw [if_neg hf], ?_⟩
            simp only [Question.cut]
            exact Nat.mod_lt _ hpos
        have hrun : (Instr.next (.pointer (some ⟨c.1, 0, none⟩)) false ty).run E.P w = ((match cands[idx]? with
            | some (some e) => (do setObj c.1 (.mapIter (some cm.1) since (seen.toArray.push e.born) clock); pure (.tuple #[.bool true, e.key, e.val]))
            | some none => pure (.tuple #[.bool false])
            | none => stuck "Next: no such candidate" : Sem Value)).run E.P { w with drawn := k } := by
          have hch' : (choose (.mapNext cands.toArray.size)).run E.P w = .ok idx { w with drawn := k } := hch
          simp only [Instr.next, Sem.run_bind, hg, Result.andThen_ok, hgm, hun', Bool.false_eq_true, if_false, Sem.run_pure, f1, f2, f3, fc, hch']
          simp only [List.getElem?_toArray]
          generalize cands[idx]? = q
          rcases q with _ | _ | e <;> rfl
        have hr2 := hr.drawn k
        obtain ⟨cd, hcd⟩ : ∃ cd, cands[idx]? = some cd := ⟨_, List.getElem?_eq_getElem hidx⟩
        rw [hcd] at hrun
        cases cd with
        | none =>
          -- over
          have hoe : old.isEmpty = true := by
            rw [← hemp]
            cases hxe : oldv.isEmpty with
            | true => rfl
            | false =>
              have hmem : (none : Option MapEntry) ∈ cands := List.mem_of_getElem? hcd
              simp [cands, hxe] at hmem
          subst h
          refine ⟨(.v (.tuple #[.bool false]), s), by simp [hoe], rfl, ν, _, _, Val.Le.refl _, by rw [hrun]; rfl, VR.v_iff.2 rfl, hr2⟩
        | some e =>
          have hj : ∃ j : Nat, (oldv ++ newv)[j]? = some e := by
            have hmem : some e ∈ cands := List.mem_of_getElem? hcd
            simp only [cands, List.mem_append] at hmem
            rcases hmem with hm | hm
            · split at hm <;> simp at hm
            · obtain ⟨e', he', hee⟩ := List.mem_map.1 hm
              cases hee
              exact List.getElem?_of_mem he'
          obtain ⟨j, hj⟩ := hj
          obtain ⟨a, ha, h1, h2, h3⟩ := hboth.get hj
          have hamem : a ∈ old ++ new := List.mem_of_getElem? ha
          have hs := run_setObj (P := E.P) (w := { w with drawn := k }) ho (by intro a b c e; cases e) (.mapIter (some cm.1) since (seen.toArray.push e.born) clock)
          subst h
          refine ⟨(SV.tup [.v (.bool true), a.1, a.2.1], s.put i (.miter (some m) since (seen ++ [a.2.2]) clock)), ?_, rfl, ν, _, _, Val.Le.refl _, ?_,
            VR.tup_iff.2 ⟨[.bool true, e.key, e.val], rfl, VRL.cons (VR.v_iff.2 rfl) (VRL.cons h1 (VRL.cons h2 VRL.nil))⟩,
            hr2.put (w' := { w with drawn := k, heap := w.heap.setIfInBounds c.1 (.mapIter (some cm.1) since (seen.toArray.push e.born) clock) }) hl hc (o := .miter (some m) since (seen ++ [a.2.2]) clock) (r := .mapIter (some cm.1) since (seen.toArray.push e.born) clock) ⟨cm, hcm, by rw [h3]; simp⟩ rfl rfl rfl rfl⟩
          · have : (SV.tup [.v (.bool true), a.1, a.2.1], s.put i (.miter (some m) since (seen ++ [a.2.2]) clock)) ∈ (old ++ new).map fun e => (SV.tup [.v (.bool true), e.1, e.2.1], s.put i (.miter (some m) since (seen ++ [e.2.2]) clock)) :=
              List.mem_map.2 ⟨a, hamem, rfl⟩
            cases old.isEmpty
            · exact this
            · exact List.mem_cons_of_mem _ this
          · rw [hrun]
            simp only [Sem.run_bind, hs, Result.andThen_ok, Sem.run_pure]
      · cases h
    · cases h
  · cases h

theorem EntR.find {st : Nat} : ∀ {es : List (SV × SV × Nat)} {l : List MapEntry} {a : SV × SV × Nat}, EntR ν es l → (es.find? fun e => Nat.beq e.2.2 st) = some a →
    ∃ e, (l.find? fun e => e.born == st) = some e ∧ VR ν a.1 e.key ∧ VR ν a.2.1 e.val
  | [], _, _, _, h => by cases h
  | x :: xs, _, a, ⟨z, zs, e, h1, h2, h3, hs⟩, h => by
    subst e
    rw [List.find?_cons] at h ⊢
    have hb : (z.born == st) = Nat.beq x.2.2 st := by
      rw [h3]
      cases hq : Nat.beq z.born st
      · have : ¬ z.born = st := fun e => by rw [e] at hq; simp at hq
        simpa using this
      · simpa using Nat.eq_of_beq_eq_true hq
    rw [hb]
    cases hq : Nat.beq x.2.2 st
    · rw [hq] at h; exact EntR.find hs h
    · rw [hq] at h; cases h; exact ⟨z, rfl, h1, h2⟩

theorem sEntryQ_ok {x y : SV} (h : sEntryQ x s = some (y, s')) : s.Same s' ∧ (s'.ob → s.ob ∧ sEntry x s = some y) := by
  unfold sEntryQ at h
  split at h
  · rename_i i k y _
    split at h
    · rename_i m since seen stepped mk hl
      split at h
      · rename_i es clock mk2 hm
        cases h
        refine ⟨SH.owe_same _ _, fun ob => ⟨ob.1, ?_⟩⟩
        obtain ⟨stamp, b, h1, h2, h3⟩ := ob.2
        unfold sEntry
        have : Nat.beq clock stepped = true := by rw [h2]; simp
        simp only [hl, hm, h1, this, cond_true, h3, Option.map_some]
      · cases h
    · cases h
  · cases h
theorem sEntry_ok {x y : SV} {xv : Value} (h : sEntry x s = some y) (hr : HR ν M w0 s w) (hx : VR ν x xv) : ∃ v, (Instr.entry xv).run E.P w = .ok v w ∧ VR ν y v := by
  unfold sEntry at h
  split at h
  · rename_i i
    split at h
    · rename_i m since seen stepped wr hl
      split at h
      · rename_i es clock wr2 stamp hm hlast
        obtain ⟨b, hb, rfl⟩ := VR.ptr_iff.1 hx
        obtain ⟨_, _, b', o, hb', ho, hor, _⟩ := hr.look hl
        rw [hb] at hb'; cases hb'
        obtain ⟨bm, hbm, rfl⟩ := hor
        obtain ⟨_, _, b2, o2, hb2, ho2, hor2, _⟩ := hr.look hm
        rw [hbm] at hb2; cases hb2
        obtain ⟨l, rfl, hes⟩ := hor2
        cases hc : Nat.beq clock stepped
        · rw [hc] at h; cases h
        · rw [hc] at h
          simp only [cond_true] at h
          have hc := Nat.eq_of_beq_eq_true hc
          subst hc
          cases hf : es.find? fun e => Nat.beq e.2.2 stamp with
          | none => rw [hf] at h; cases h
          | some a =>
          rw [hf] at h; cases h
          obtain ⟨e, he, hk, hv⟩ := hes.find hf
          refine ⟨.tuple #[e.key, e.val], ?_, VR.tup_iff.2 ⟨[e.key, e.val], rfl, VRL.cons hk (VRL.cons hv VRL.nil)⟩⟩
          have hback : seen.toArray.back? = some stamp := by simpa using hlast
          simp [Instr.entry, run_getObj (P := E.P) ho (by intro c e f; exact fun h => by cases h), run_getObj (P := E.P) ho2 (by intro c e f; exact fun h => by cases h), hback, he]
      · cases h
    · cases h
  · cases h

end
end Go.Rx
set_option linter.unusedVariables false
set_option linter.unusedSimpArgs false
namespace Go.Rx
section
variable {ν : Val} {M : Own} {w0 w : World} {s s' : SH} {E : Env}

theorem least_isSome (l : List String) : (Instr.least l).isSome = !l.isEmpty := by
  cases l <;> rfl

theorem least_some (L : List String) (p : String → Bool) (f : String → String) : (Instr.least (L.filter (not ∘ p)) <|> Instr.least ((L.filter p).map f)).isSome = true ↔ L ≠ [] := by
  have e2 : ∀ (a b : Option String), (a <|> b).isSome = (a.isSome || b.isSome) := by
    intro a b; cases a <;> cases b <;> rfl
  rw [e2, least_isSome, least_isSome, Bool.or_eq_true]
  constructor
  · rintro (h | h) e
    · rw [e] at h; cases h
    · rw [e] at h; cases h
  · intro h
    obtain ⟨y, hy⟩ := List.exists_mem_of_ne_nil _ h
    cases hc : p y
    · left
      have : y ∈ L.filter (not ∘ p) := List.mem_filter.2 ⟨hy, by simp [hc]⟩
      cases hf : L.filter (not ∘ p) with
      | nil => rw [hf] at this; cases this
      | cons a l => rfl
    · right
      have : y ∈ L.filter p := List.mem_filter.2 ⟨hy, hc⟩
      cases hf : L.filter p with
      | nil => rw [hf] at this; cases this
      | cons a l => rfl

theorem methodsMiss_eq (want : Array (String × TypeId)) (got : Array Method) : methodsMiss want got = (Instr.missingMethod want got).isSome := by
  unfold Instr.missingMethod methodsMiss
  rw [Bool.eq_iff_iff, List.any_eq_true]
  simp only [List.partition_eq_filter_filter]
  generalize hL : ((want.toList.filter fun x => !got.any fun m => m.name == x.1 && m.sig == x.2).map (·.1)) = L
  have e1 : (∃ x, x ∈ want.toList ∧ (!got.any fun m => m.name == x.1 && m.sig == x.2) = true) ↔ L ≠ [] := by
    rw [← hL]
    constructor
    · rintro ⟨x, hx, h⟩ e
      have hm : x.1 ∈ (want.toList.filter fun x => !got.any fun m => m.name == x.1 && m.sig == x.2).map (·.1) := List.mem_map.2 ⟨x, List.mem_filter.2 ⟨hx, h⟩, rfl⟩
      rw [e] at hm; cases hm
    · intro h
      obtain ⟨y, hy⟩ := List.exists_mem_of_ne_nil _ h
      obtain ⟨x, hx, _⟩ := List.mem_map.1 hy
      exact ⟨x, (List.mem_filter.1 hx).1, (List.mem_filter.1 hx).2⟩
  rw [e1]
  exact (least_some L _ _).symm

theorem sTypeAssert_ok {x y : SV} {xt at_ : TypeId} {ok : Bool} {xv : Value} (h : sTypeAssert E x at_ ok = some y) (hx : VR ν x xv) :
    ∃ yv, (Instr.typeAssert xv xt at_ ok).run E.P w = .ok yv w ∧ VR ν y yv := by
  unfold sTypeAssert at h
  split at h
  · rename_i want ai hd hi
    split at h
    · rename_i t x0
      obtain ⟨v, rfl, hv⟩ := VR.iface_iff.1 hx
      split at h
      · rename_i ti hti
        cases hm : methodsMiss want ti.methods
        · rw [hm] at h
          have hm' : Instr.missingMethod want ti.methods = none := by
            rw [methodsMiss_eq] at hm
            cases hmm : Instr.missingMethod want ti.methods with
            | none => rfl
            | some m => rw [hmm] at hm; cases hm
          cases ok
          · cases h
            exact ⟨_, by simp [Instr.typeAssert, run_underlying hd, run_typeInfo hti, hm'], hx⟩
          · cases h
            exact ⟨_, by simp [Instr.typeAssert, run_underlying hd, run_typeInfo hti, hm'], VR.tup_iff.2 ⟨[_, _], rfl, VRL.cons hx (VRL.cons (VR.v_iff.2 rfl) VRL.nil)⟩⟩
        · rw [hm] at h
          obtain ⟨m, hm'⟩ : ∃ m, Instr.missingMethod want ti.methods = some m := by
            rw [methodsMiss_eq] at hm
            exact Option.isSome_iff_exists.1 hm
          cases ok
          · cases h
          · cases hz : ai.zero with
            | none => rw [hz] at h; cases h
            | some z =>
              rw [hz] at h; cases h
              exact ⟨_, by simp [Instr.typeAssert, run_underlying hd, run_typeInfo hti, hm', run_zeroValue hi hz], VR.tup_iff.2 ⟨[_, _], rfl, VRL.cons (VR.v_iff.2 rfl) (VRL.cons (VR.v_iff.2 rfl) VRL.nil)⟩⟩
      · cases h
    · cases h
  · rename_i d ai hnd hd hi
    split at h
    · rename_i t x0
      obtain ⟨v, rfl, hv⟩ := VR.iface_iff.1 hx
      have hdd : ∀ ms, d ≠ .interface ms := fun ms e => hnd ms e
      cases ht : (t == at_)
      · rw [ht] at h
        have ht : ¬ t = at_ := by simpa using ht
        cases ok
        · cases h
        · cases hz : ai.zero with
          | none => rw [hz] at h; cases h
          | some z =>
            rw [hz] at h; cases h
            refine ⟨_, ?_, VR.tup_iff.2 ⟨[z, .bool false], rfl, VRL.cons (VR.v_iff.2 rfl) (VRL.cons (VR.v_iff.2 rfl) VRL.nil)⟩⟩
            simp only [Instr.typeAssert, Sem.run_bind, run_underlying hd, Result.andThen_ok]
            cases d <;> first | (exact absurd rfl (hdd _)) | (simp [ht, run_zeroValue hi hz])
      · rw [ht] at h
        obtain rfl : t = at_ := by simpa using ht
        cases ok
        · cases h
          refine ⟨v, ?_, hv⟩
          simp only [Instr.typeAssert, Sem.run_bind, run_underlying hd, Result.andThen_ok]
          cases d <;> first | (exact absurd rfl (hdd _)) | simp
        · cases h
          refine ⟨_, ?_, VR.tup_iff.2 ⟨[v, .bool true], rfl, VRL.cons hv (VRL.cons (VR.v_iff.2 rfl) VRL.nil)⟩⟩
          simp only [Instr.typeAssert, Sem.run_bind, run_underlying hd, Result.andThen_ok]
          cases d <;> first | (exact absurd rfl (hdd _)) | simp
    · cases h
  · cases h

theorem sEqI_ok {t : TypeId} {x y : SV} {xv yv : Value} {r : Bool} (h : sEqI E t x y s = some (r, s')) (hx : VR ν x xv) (hy : VR ν y yv) :
    s' = s ∧ ∃ info, tinfo E t = some info ∧ info.comparable = true ∧ (Op.equalIn 9999 t xv yv).run E.P w = .ok r w := by
  unfold sEqI at h
  split at h
  · rename_i info e i o j p hi hd
    cases hc : (info.comparable && i == j)
    · rw [hc] at h; cases h
    rw [hc] at h
    rw [Bool.and_eq_true] at hc
    obtain ⟨hc, hij⟩ := hc
    obtain rfl : i = j := by simpa using hij
    simp only [cond_true] at h
    obtain ⟨b, hb, rfl⟩ := VR.ptr_iff.1 hx
    obtain ⟨b', hb', rfl⟩ := VR.ptr_iff.1 hy
    rw [hb] at hb'; cases hb'
    split at h
    · rename_i ei hei
      cases hz : (ei.size == 0)
      · rw [hz] at h; cases h
        have hz : ei.size ≠ 0 := by simpa using hz
        refine ⟨rfl, info, hi, hc, ?_⟩
        rw [show (9999 : Nat) = 9998 + 1 from rfl, Op.equalIn]
        simp only [Sem.run_bind, run_underlying hd, Result.andThen_ok, run_sizeOf hei, if_pos hz, sameAddr, beq_self_eq_true, if_true, Sem.run_pure]
        congr 1
        rw [Bool.eq_iff_iff]; simp
      · rw [hz] at h; cases h
    · cases h
  · rename_i info _ x y hi hd
    obtain rfl := VR.v_iff.1 hx
    obtain rfl := VR.v_iff.1 hy
    cases hc : info.comparable
    · rw [hc] at h; cases h
    rw [hc] at h
    simp only [cond_true] at h
    cases hp : pureRun E.P (Op.equalIn 9999 t xv yv) with
    | none => rw [hp] at h; cases h
    | some r' => rw [hp] at h; cases h; exact ⟨rfl, info, hi, hc, pureRun_ok hp w⟩
  · cases h

/-- '==' at addresses and nil: the model's word. -/
theorem sEql_ok {t : TypeId} {x y : SV} {xv yv : Value} {r : Bool} (h : sEql E t x y s = some (r, s')) (hx : VR ν x xv) (hy : VR ν y yv) :
    s' = s ∧ (Op.equal t xv yv).run E.P w = .ok r w ∧ (∀ op a b, (eqGuard op t a b xv yv).run E.P w = .ok () w) ∧ binOp .eql t xv yv = (do pure (.bool (← Op.equal t xv yv))) ∧
      binOp .neq t xv yv = (do pure (.bool (!(← Op.equal t xv yv)))) := by
  have eg : ∀ {xv yv : Value} (op : BinOp) (a b : Operand), (∀ c, xv ≠ .agg c) → ¬ (xv = .nilIface ∧ yv = .nilIface) → (eqGuard op t a b xv yv).run E.P w = .ok () w := by
    intro xv yv op a b h1 h2
    unfold eqGuard
    cases op <;> simp <;> (cases xv <;> first | rfl | (exact absurd rfl (h1 _)) | (cases yv <;> first | rfl | (exact absurd ⟨rfl, rfl⟩ h2)))
  unfold sEql at h
  split at h
  · rename_i e i o j p hd
    cases hij : (i == j)
    · rw [hij] at h; cases h
    rw [hij] at h
    obtain rfl : i = j := by simpa using hij
    simp only [cond_true] at h
    obtain ⟨b, hb, rfl⟩ := VR.ptr_iff.1 hx
    obtain ⟨b', hb', rfl⟩ := VR.ptr_iff.1 hy
    rw [hb] at hb'; cases hb'
    split at h
    · rename_i info hinfo
      cases hz : (info.size == 0)
      · rw [hz] at h; cases h
        have hz : info.size ≠ 0 := by simpa using hz
        refine ⟨rfl, ?_, fun op a b => eg op a b (by intro c e; cases e) (by intro e; cases e.1), rfl, rfl⟩
        rw [Op.equal, show Op.maxDepth = 9999 + 1 from rfl, Op.equalIn]
        simp only [Sem.run_bind, run_underlying hd, Result.andThen_ok, run_sizeOf hinfo, if_pos hz, sameAddr, beq_self_eq_true, if_true, Sem.run_pure]
        congr 1
        rw [Bool.eq_iff_iff]; simp
      · rw [hz] at h; cases h
    · cases h
  all_goals first
    | (rename_i ms t1 x1 t2 y1 hd
       obtain ⟨v1, rfl, hv1⟩ := VR.iface_iff.1 hx
       obtain ⟨v2, rfl, hv2⟩ := VR.iface_iff.1 hy
       cases ht : (t1 == t2)
       · rw [ht] at h; cases h
         refine ⟨rfl, ?_, fun op a b => eg op a b (by intro c e; cases e) (by intro e; cases e.1), rfl, rfl⟩
         rw [Op.equal, show Op.maxDepth = 9999 + 1 from rfl, Op.equalIn]
         have ht : t1 ≠ t2 := by simpa using ht
         simp only [Sem.run_bind, run_underlying hd, Result.andThen_ok, if_pos ht, Sem.run_pure]
       · rw [ht] at h
         obtain rfl : t1 = t2 := by simpa using ht
         obtain ⟨rfl, info, hi, hc, hrun⟩ := sEqI_ok (w := w) h hv1 hv2
         refine ⟨rfl, ?_, fun op a b => eg op a b (by intro c e; cases e) (by intro e; cases e.1), rfl, rfl⟩
         rw [Op.equal, show Op.maxDepth = 9999 + 1 from rfl, Op.equalIn]
         simp [run_underlying hd, run_typeInfo hi, hc, hrun])
    | (rename_i hd
       cases h
       first | (obtain ⟨b, _, rfl⟩ := VR.ptr_iff.1 hx) | (obtain ⟨b, _, _, rfl⟩ := VR.sl_iff.1 hx) | (obtain ⟨b, _, rfl⟩ := VR.fin_iff.1 hx) | (obtain ⟨b, _, rfl⟩ := VR.map_iff.1 hx) | (obtain ⟨b, rfl, _⟩ := VR.iface_iff.1 hx) | (obtain ⟨b, c, rfl, _⟩ := VR.func_iff.1 hx) | (obtain rfl := VR.v_iff.1 hx)
       first | (obtain ⟨b, _, rfl⟩ := VR.ptr_iff.1 hy) | (obtain ⟨b, _, _, rfl⟩ := VR.sl_iff.1 hy) | (obtain ⟨b, _, rfl⟩ := VR.fin_iff.1 hy) | (obtain ⟨b, _, rfl⟩ := VR.map_iff.1 hy) | (obtain ⟨b, rfl, _⟩ := VR.iface_iff.1 hy) | (obtain ⟨b, c, rfl, _⟩ := VR.func_iff.1 hy) | (obtain rfl := VR.v_iff.1 hy)
       refine ⟨rfl, ?_, fun op a b => eg op a b (by intro c e; cases e) (by intro e; obtain ⟨e1, e2⟩ := e; first | (cases e2; done) | (cases e1; done)), rfl, rfl⟩
       rw [Op.equal, show Op.maxDepth = 9999 + 1 from rfl, Op.equalIn]
       simp only [Sem.run_bind, run_underlying hd, Result.andThen_ok]
       rfl)
    | cases h

theorem sEqlFar_ok {t : TypeId} {x y : SV} {xv yv : Value} (h : sEqlFar E t x y s = true) (hr : HR ν M w0 s w) (hx : VR ν x xv) (hy : VR ν y yv) :
    (Op.equal t xv yv).run E.P w = .ok false w ∧ (∀ op a b, (eqGuard op t a b xv yv).run E.P w = .ok () w) ∧ binOp .eql t xv yv = (do pure (.bool (← Op.equal t xv yv))) ∧
      binOp .neq t xv yv = (do pure (.bool (!(← Op.equal t xv yv)))) := by
  unfold sEqlFar at h
  split at h
  · rename_i e i o j p hd
    split at h
    · rename_i info xs el ext m ys el' ext' m' hinfo hi hj
      rw [Bool.and_eq_true] at h
      obtain ⟨hz, hij⟩ := h
      have hz : info.size ≠ 0 := by simpa using hz
      have hij : i ≠ j := by simpa using hij
      obtain ⟨b, hb, rfl⟩ := VR.ptr_iff.1 hx
      obtain ⟨c, hc, rfl⟩ := VR.ptr_iff.1 hy
      obtain ⟨hi1, hi2, b', ob, hb', hob, hor, _⟩ := hr.look hi
      rw [hb] at hb'; cases hb'
      obtain ⟨hj1, hj2, c', oc, hc', hoc, hoc', _⟩ := hr.look hj
      rw [hc] at hc'; cases hc'
      obtain ⟨l1, r1, rfl, _⟩ := hor
      obtain ⟨l2, r2, rfl, _⟩ := hoc'
      have hne : b.1 ≠ c.1 := fun e => hij (hr.inj i j hi1 hj1 (by rw [hi2]; simp) (by rw [hj2]; simp) b c hb hc e)
      have hna : (⟨b.1, o, none⟩ : Addr) ≠ ⟨c.1, p, none⟩ := fun e => hne (congrArg Addr.block e)
      have hrun := run_sameAddr_other (P := E.P) (w := w) hna hob hoc
      refine ⟨?_, fun op a b => by cases op <;> rfl, rfl, rfl⟩
      rw [Op.equal, show Op.maxDepth = 9999 + 1 from rfl, Op.equalIn]
      simp only [Sem.run_bind, run_underlying hd, Result.andThen_ok, run_sizeOf hinfo, if_pos hz, hrun, Sem.run_pure]
    · cases h
  · cases h

theorem cellSame_ok {t : TypeId} {x y : Value} {p : Prop} (h : cellSame E t x y = some p) (d : Nat) : ∃ b, (Op.equalIn (d + 1) t x y).run E.P w = .ok b w ∧ (b = true ↔ p) := by
  unfold cellSame at h
  split at h
  · rename_i k k1 a k2 b hd
    cases hk : (k1 == k2)
    · rw [hk] at h; cases h
    · rw [hk] at h; cases h
      obtain rfl : k1 = k2 := by simpa using hk
      exact ⟨_, run_equalIn_int w d t _ _ a b hd, by simp⟩
  · rename_i a b hd
    cases h
    refine ⟨_, run_equalIn_string w d t a b hd, ?_⟩
    rw [beq_iff_eq, ByteArray.toList_eq, ByteArray.toList_eq]
    obtain ⟨⟨x⟩⟩ := a
    obtain ⟨⟨y⟩⟩ := b
    simp
  · rename_i a b hd
    cases h
    exact ⟨_, run_equalIn_bool' w d t a b hd, by simp⟩
  · cases h

theorem cellSame_part {t : TypeId} {x y z : Value} {p : Prop} {xs : Array Value} {n : Nat} (h : cellSame E t x y = some p) (hx : xs[n]? = some z) : (part t xs n).run E.P w = .ok z w := by
  unfold cellSame at h
  have : ∀ {d : TypeDesc}, E.P.underlying t = some d → (∀ n e, d ≠ .array n e) → (∀ f, d ≠ .struct f) → (part t xs n).run E.P w = .ok z w := by
    intro d hd h1 h2
    cases d <;> first | exact (h1 _ _ rfl).elim | exact (h2 _ rfl).elim | simp [part, isAgg, run_underlying hd, hx]
  split at h
  · rename_i hd; exact this hd (by intro _ _ e; cases e) (by intro _ e; cases e)
  · rename_i hd; exact this hd (by intro _ _ e; cases e) (by intro _ e; cases e)
  · rename_i hd; exact this hd (by intro _ _ e; cases e) (by intro _ e; cases e)
  · cases h

theorem cellsSame_ok {xs ys : Array Value} (d : Nat) : ∀ {fs : List Field} {p : Prop}, cellsSame E xs.toList ys.toList fs = some p → ∃ b, (Op.eqFields (d + 1) xs ys fs).run E.P w = .ok b w ∧ (b = true ↔ p)
  | [], p, h => by
    cases h
    exact ⟨true, rfl, by simp⟩
  | f :: fs, p, h => by
    unfold cellsSame at h
    cases hn : (f.name == "_")
    · rw [hn] at h
      simp only [cond_false] at h
      have hn : f.name ≠ "_" := by simpa using hn
      split at h
      · rename_i x y hx hy
        split at h
        · rename_i p1 p2 h1 h2
          cases h
          rw [Array.getElem?_toList] at hx hy
          obtain ⟨b1, hb1, hp1⟩ := cellSame_ok (w := w) h1 d
          obtain ⟨b2, hb2, hp2⟩ := cellsSame_ok d h2
          have e1 := cellSame_part (w := w) h1 hx
          have e2 := cellSame_part (w := w) h1 hy
          refine ⟨b1 && b2, ?_, ?_⟩
          · unfold Op.eqFields
            simp only [ne_eq, hn, not_false_eq_true, if_true, Sem.run_bind, e1, e2, hb1, Result.andThen_ok]
            cases b1
            · simp
            · simp [hb2]
          · rw [Bool.and_eq_true, hp1, hp2]
        · cases h
      · cases h
    · rw [hn] at h; cases h

theorem sEqS_ok {op : BinOp} {t : TypeId} {x y : SV} {xv yv : Value} {r : Bool} (h : sEqS E op t x y s = some (r, s')) (hx : VR ν x xv) (hy : VR ν y yv) :
    ∃ p, s' = s.owe p ∧ ∀ (a b : Operand) (w : World), p → (do eqGuard op t a b xv yv; binOp op t xv yv).run E.P w = .ok (.bool r) w := by
  have key : ∀ {b r : Bool}, sEqS.go E t s x y b r = some (r, s') → ∃ p xs ys, xv = .agg xs ∧ yv = .agg ys ∧ s' = s.owe p ∧ E.P.eqGuardType E.P.depth t = false ∧ ∀ w, p → (Op.equalIn 10000 t xv yv).run E.P w = .ok b w := by
    intro b r h
    unfold sEqS.go at h
    split at h
    · rename_i xs ys fs hpx hpy hd
      cases hg : (E.P.stoodInHeld t || E.P.eqGuardType E.P.depth t)
      · rw [hg] at h
        simp only [cond_false] at h
        rw [Bool.or_eq_false_iff] at hg
        obtain ⟨g1, g2⟩ := hg
        cases hc : cellsSame E xs.toList ys.toList fs.toList with
        | none => rw [hc] at h; cases h
        | some p =>
          rw [hc] at h; cases h
          obtain rfl := plainV_ok hpx hx
          obtain rfl := plainV_ok hpy hy
          have hf : E.P.fieldsOf t = fs := by
            have hd' : E.P.underlying t = some (.struct fs) := hd
            unfold Program.fieldsOf; rw [hd']
          refine ⟨_, xs, ys, rfl, rfl, rfl, g2, fun w hp => ?_⟩
          have ht : E.P.underlying t = some (.struct (E.P.fieldsOf t)) := by rw [hf]; exact hd
          obtain ⟨b', hb', hpp⟩ := cellsSame_ok (w := w) 9998 hc
          rw [run_equalIn_struct w 9999 t xs ys ht g1, hf, hb']
          congr 1
          cases b
          · simp only [cond_false] at hp
            cases b'
            · rfl
            · exact (hp (hpp.1 rfl)).elim
          · simp only [cond_true] at hp
            exact hpp.2 hp
      · rw [hg] at h; cases h
    · cases h
  unfold sEqS at h
  split at h
  · rename_i b _
    have hr : r = b := by
      unfold sEqS.go at h
      split at h
      · cases hg : (E.P.stoodInHeld t || E.P.eqGuardType E.P.depth t)
        · rw [hg] at h
          simp only [cond_false] at h
          cases hc : cellsSame E _ _ _ with
          | none => rw [hc] at h; cases h
          | some p => rw [hc] at h; cases h; rfl
        · rw [hg] at h; cases h
      · cases h
    subst hr
    obtain ⟨p, xs, ys, rfl, rfl, rfl, hg, hp⟩ := key h
    refine ⟨p, rfl, fun a b w ob => ?_⟩
    simp only [Sem.run_bind, run_eqGuard_agg w _ _ _ _ _ _ hg, Result.andThen_ok, run_eql_struct, hp w ob]
  · rename_i b _
    have hr : r = !b := by
      unfold sEqS.go at h
      split at h
      · cases hg : (E.P.stoodInHeld t || E.P.eqGuardType E.P.depth t)
        · rw [hg] at h
          simp only [cond_false] at h
          cases hc : cellsSame E _ _ _ with
          | none => rw [hc] at h; cases h
          | some p => rw [hc] at h; cases h; rfl
        · rw [hg] at h; cases h
      · cases h
    subst hr
    obtain ⟨p, xs, ys, rfl, rfl, rfl, hg, hp⟩ := key h
    refine ⟨p, rfl, fun a b w ob => ?_⟩
    simp only [Sem.run_bind, run_eqGuard_agg w _ _ _ _ _ _ hg, Result.andThen_ok, run_neq_struct, hp w ob]
  · cases h

end
end Go.Rx
