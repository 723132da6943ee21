/- The symbolic executor 'Rx', part R: built-in functions; functions without a body. By an AI agent. -/
import Derived.Test.YtjhmpmhkppglnaaGreatRxQ
set_option linter.unusedVariables false
set_option linter.unusedSimpArgs false
namespace Go.Rx
section
variable {ν : Val} {M : Own} {w0 w : World} {s s' : SH} {E : Env}

theorem run_unsafeString_ints {P : Program} (pt it ty e : TypeId) (hp : P.underlying pt = some (.pointer e)) (hc : P.cellsOf e = 1) (g cells : Nat) (hsh : w.shape? g = some (e, cells)) (l : List Int) (h0 : l ≠ []) (hn : l.length ≤ cells) (h63 : l.length ≤ 9223372036854775807)
    (hcell : ∀ j x, l[j]? = some x → w.cell? ((⟨g, 0, none⟩ : Addr).add j) = some (.int .u8 x)) :
    (Builtin.unsafeString_ #[pt, it] ty #[.pointer (some ⟨g, 0, none⟩), .int .i64 l.length]).run P w = .ok (.string (byteStr l)) (w.freeze ⟨g, 0, none⟩ l.length) := by
  have hl : l.length ≠ 0 := by simpa using h0
  have hlb : (loadBytes ⟨g, 0, none⟩ .empty l.length).run P w = .ok (byteStr l) w := by
    have key : ∀ (l : List Int) (off : Nat) (acc : ByteArray), (∀ j x, l[j]? = some x → w.cell? ⟨g, off + j, none⟩ = some (.int .u8 x)) →
        (loadBytes ⟨g, off, none⟩ acc l.length).run P w = .ok ⟨acc.data ++ (l.map fun n => UInt8.ofNat n.toNat).toArray⟩ w := by
      intro l
      induction l with
      | nil => intro off acc _; simp [loadBytes]
      | cons x l ih =>
        intro off acc h
        have h1 := h 0 x rfl
        rw [Nat.add_zero] at h1
        simp only [List.length_cons, loadBytes, Sem.run_bind]
        rw [run_load_cell h1]
        simp only [Result.andThen_ok, addr_add]
        rw [ih (off + 1) _ (fun j y hy => by
          have := h (j + 1) y (by simpa using hy)
          rw [← this]; congr 2; omega)]
        simp only [ByteArray.push, List.map_cons]
        congr 2
        apply Array.ext'; simp [Nat.toUInt8]
    rw [key l 0 .empty (fun j x hx => by rw [Nat.zero_add]; have := hcell j x hx; rwa [addr_add, Nat.zero_add] at this)]
    have : ByteArray.empty.data = #[] := rfl
    simp [byteStr, this]
  have hlies := Go.Lib.liesAt_bytes (P := P) hc (cells / P.cellsOf e) l.length (by rw [hc]; simpa using hn)
  have h63' : ¬ (9223372036854775807 : Int) < (l.length : Int) := by omega
  obtain ⟨pn, hdef⟩ : ∃ pn : Sem PUnit, Builtin.unsafeString_ #[pt, it] ty #[.pointer (some ⟨g, 0, none⟩), .int .i64 l.length] =
      (do
        let n ← asInt (.int .i64 l.length)
        if n < 0 then pn
        if n > IntKind.i64.max then unsupported (.unsafePointer "String: a length above the largest int")
        if n = 0 then pure (.string .empty)
        else if ← variablesAt ⟨g, 0, none⟩ (← elemOf pt) n.toNat then do
          let s ← loadBytes ⟨g, 0, none⟩ .empty n.toNat
          freeze ⟨g, 0, none⟩ n.toNat
          pure (.string s)
        else unsupported (.unsafePointer "String: not so many bytes at ptr")) := ⟨_, rfl⟩
  rw [hdef]
  have hmax : IntKind.i64.max = 9223372036854775807 := rfl
  have hneg : ¬ (l.length : Int) < 0 := by omega
  simp [asInt, asIntOf, hmax, h63', hneg, hl, variablesAt, hsh, elemOf, Go.run_underlying hp, hlies, hlb]

theorem run_unsafeSliceData {P : Program} {ats : Array TypeId} {ty : TypeId} {a : Addr} {l c : Nat} (hc : c ≠ 0) : (Builtin.unsafeSliceData_ ats ty #[.slice (some a) l c]).run P w = .ok (.pointer (some a)) w := by
  have hdef : Builtin.unsafeSliceData_ ats ty #[.slice (some a) l c] = (if c ≠ 0 then pure (.pointer (some a)) else do
      if (← viewAt a.block).isSome then pure (.pointer (some a))
      else pure (.pointer (some ⟨← newObj (.view a (← elemOf ty)), 0, none⟩))) := rfl
  rw [hdef, if_pos hc]; rfl

theorem ats_eq {ats : Array TypeId} {l : List TypeId} (h : ats.toList = l) : ats = l.toArray := by
  apply Array.ext'; simpa using h

theorem sLen1_ok {t : TypeId} {ats : Array TypeId} {ty : TypeId} {x y : SV} {xv : Value} (h : sLen1 E t x s = some y) (a0 : ats[0]? = some t) (hx : VR ν x xv) (hr : HR ν M w0 s w) :
    ∃ yv, (Builtin.len_ ats ty #[xv]).run E.P w = .ok yv w ∧ VR ν y yv := by
  have b0 : (#[xv] : Array Value)[0]? = some xv := rfl
  unfold sLen1 at h
  split at h
  · rename_i e i off n cap hd
    cases h
    obtain ⟨c, _, _, rfl⟩ := VR.sl_iff.1 hx
    refine ⟨.int .i64 n, ?_, VR.v_iff.2 rfl⟩
    simp only [Builtin.len_, a0, b0, Sem.run_bind, run_underlying hd, Result.andThen_ok, Sem.run_pure, goInt]
  · rename_i e i off n adv hd
    cases h
    obtain ⟨c, _, rfl⟩ := VR.fin_iff.1 hx
    refine ⟨.int .i64 0, ?_, VR.v_iff.2 rfl⟩
    simp only [Builtin.len_, a0, b0, Sem.run_bind, run_underlying hd, Result.andThen_ok, Sem.run_pure, goInt]
    rfl
  · rename_i k e i hd
    obtain ⟨c, hc, rfl⟩ := VR.map_iff.1 hx
    split at h
    · rename_i es clock own hl
      cases h
      obtain ⟨_, _, c', o, hc', ho, hor, _⟩ := hr.look hl
      rw [hc] at hc'; cases hc'
      obtain ⟨l, rfl, hent⟩ := hor
      refine ⟨.int .i64 es.length, ?_, VR.v_iff.2 rfl⟩
      simp only [Builtin.len_, a0, b0, Sem.run_bind, run_underlying hd, Result.andThen_ok, run_getObj_map ho, Sem.run_pure, goInt, List.size_toArray, hent.length]
    · cases h
  · cases h

theorem sCap1_ok {t : TypeId} {ats : Array TypeId} {ty : TypeId} {x y : SV} {xv : Value} (h : sCap1 E t x = some y) (a0 : ats[0]? = some t) (hx : VR ν x xv) :
    ∃ yv, (Builtin.cap_ ats ty #[xv]).run E.P w = .ok yv w ∧ VR ν y yv := by
  have b0 : (#[xv] : Array Value)[0]? = some xv := rfl
  unfold sCap1 at h
  split at h
  · rename_i e i off len n hd
    cases h
    obtain ⟨c, _, _, rfl⟩ := VR.sl_iff.1 hx
    refine ⟨.int .i64 n, ?_, VR.v_iff.2 rfl⟩
    simp only [Option.getD_some] at b0 ⊢
    simp only [Builtin.cap_, a0, b0, Sem.run_bind, run_underlying hd, Result.andThen_ok, Sem.run_pure, goInt]
  · cases h

theorem sUnsafeStringQ_ok {pt it ty : TypeId} {x n y : SV} {b : ByteArray} {xv nv : Value} (h : sUnsafeStringQ E pt x n b s = some (y, s')) (hr : HR ν M w0 s w) (hx : VR ν x xv) (hn : VR ν n nv) :
    s'.ob → s.ob ∧ GoodV E.P (Builtin.unsafeString_ #[pt, it] ty #[xv, nv]) ν M w0 w y s' := by
  unfold sUnsafeStringQ at h
  split at h
  · rename_i i n
    obtain ⟨c, hc, rfl⟩ := VR.ptr_iff.1 hx
    obtain rfl := VR.v_iff.1 hn
    split at h
    · rename_i e xs el ext hd hl
      cases hg : (e == el && Nat.beq (E.P.cellsOf e) 1)
      · rw [hg] at h; cases h
      rw [hg] at h; cases h
      rw [Bool.and_eq_true] at hg
      obtain rfl : e = el := by simpa using hg.1
      have g4 := Nat.eq_of_beq_eq_true hg.2
      intro ob
      have ob : (s.owe ((0 < n ∧ n ≤ 2 ^ 40) ∧ n.toNat ≤ xs.length ∧ xs.take n.toNat = b.data.toList.map fun c => SV.v (.int .u8 c.toNat))).ob := ob
      obtain ⟨ob0, g1, g2, htk⟩ := ob
      have hr1 := hr.same (SH.owe_same s ((0 < n ∧ n ≤ 2 ^ 40) ∧ n.toNat ≤ xs.length ∧ xs.take n.toNat = b.data.toList.map fun c => SV.v (.int .u8 c.toNat)))
      obtain ⟨_, _, c', o, hc', ho, hor, _⟩ := hr.look hl
      rw [hc] at hc'; cases hc'
      obtain ⟨ys, rest, rfl, hvl, hext⟩ := hor
      have hlen := hvl.length
      have hv := hvl.take n.toNat
      rw [htk] at hv
      have hns := bytes_VRL hv
      generalize hnsdef : (b.data.toList.map fun c => (c.toNat : Int)) = ns at hns
      have hnl : ns.length = n.toNat := by
        have := congrArg List.length hns
        simp at this; omega
      refine ⟨ob0, ν, (w.freeze ⟨c.1, 0, none⟩ ns.length), .string b, Val.Le.refl _, ?_, VR.v_iff.2 rfl, ?_⟩
      · have hrun := run_unsafeString_ints (P := E.P) (w := w) pt it ty e hd g4 c.1 (ys ++ rest).toArray.size (shape_at ho) ns (by intro e; rw [e] at hnl; simp at hnl; omega) (by simp; omega) (by omega) (by
          intro j x hj
          rw [addr_add, Nat.zero_add, cell_at ho]
          have hj' : (ns.map (Value.int .u8))[j]? = some (.int .u8 x) := by simp [hj]
          rw [← hns, List.getElem?_take] at hj'
          split at hj'
          · simpa using getElem?_append_left' hj'
          · cases hj')
        have hnn : (n : Int) = (ns.length : Int) := by omega
        rw [hnn]
        have e : byteStr ns = b := by rw [← hnsdef, byteStr_bytes]
        rw [e] at hrun; exact hrun
      · refine hr1.put hl hc (o := .row xs e (0, n.toNat) ext) (r := .cells (ys ++ rest).toArray e (0, n.toNat)) ⟨ys, rest, ?_, hvl, hext⟩ ?_ ?_ ?_ ?_
        · have : fzReal (0, n.toNat) (ys ++ rest).length = (0, n.toNat) := rfl
          rw [this]
        · have hn0 : ns.length ≠ 0 := by omega
          unfold World.freeze
          rw [if_neg hn0]
          apply Array.ext_getElem?
          intro j
          rw [Array.getElem?_modify, Array.getElem?_setIfInBounds]
          have h1 := (Array.getElem?_eq_some_iff.1 ho).1
          have h2 := (Array.getElem?_eq_some_iff.1 ho).2
          split
          · rename_i ej
            subst ej
            simp [h1, h2, hnl]
          · rfl
        all_goals (unfold World.freeze; split <;> rfl)
    · cases h
  · cases h

theorem sBuiltin_ok {b : Builtin} {ats : Array TypeId} {args : List SV} {a : List Value} {x : SV} {ty : TypeId} {cs : Array Bool} (h : sBuiltin E b ats args s = some (x, s')) (ha : VRL ν args a) (hr : HR ν M w0 s w) :
    s'.ob → s.ob ∧ OpGood E (builtin b ats ty cs a.toArray) ν M w0 w (.val x) s' := by
  have one : ∀ {z : SV}, VRL ν [z] a → ∃ y, a = [y] ∧ VR ν z y := by
    intro z ha
    obtain ⟨y, ys, rfl, hy, hys⟩ := ha.cons_inv
    rw [hys.nil_inv]; exact ⟨y, rfl, hy⟩
  have two : ∀ {z u : SV}, VRL ν [z, u] a → ∃ y v, a = [y, v] ∧ VR ν z y ∧ VR ν u v := by
    intro z u ha
    obtain ⟨y, ys, rfl, hy, hys⟩ := ha.cons_inv
    obtain ⟨v, vs, rfl, hv, hvs⟩ := hys.cons_inv
    rw [hvs.nil_inv]; exact ⟨y, v, rfl, hy, hv⟩
  unfold sBuiltin at h
  split at h
  · -- len
    split at h
    · rename_i t ts z hats
      cases hz : sLen1 E t z s with
      | none => rw [hz] at h; cases h
      | some y0 =>
      rw [hz] at h; cases h
      obtain ⟨y, rfl, hy⟩ := one ha
      obtain ⟨yv, hrun, hv⟩ := sLen1_ok (ats := ats) (ty := ty) hz (by rw [ats_eq hats]; simp) hy hr
      exact fun ob => ⟨ob, OpGood.ofV (GoodV.now hr hrun hv)⟩
    · cases h
  · -- cap
    split at h
    · rename_i t ts z hats
      cases hz : sCap1 E t z with
      | none => rw [hz] at h; cases h
      | some y0 =>
      rw [hz] at h; cases h
      obtain ⟨y, rfl, hy⟩ := one ha
      obtain ⟨yv, hrun, hv⟩ := sCap1_ok (w := w) (ats := ats) (ty := ty) hz (by rw [ats_eq hats]; simp) hy
      exact fun ob => ⟨ob, OpGood.ofV (GoodV.now hr hrun hv)⟩
    · cases h
  · -- append
    split at h
    · rename_i st xt x0 y0 hats
      obtain ⟨y, z, rfl, hy, hz⟩ := two ha
      intro ob
      obtain ⟨ob0, hg⟩ := sAppend_ok (ty := ty) h hr hy hz ob
      rw [ats_eq hats]
      exact ⟨ob0, OpGood.ofV hg⟩
    · cases h
  · -- copy
    split at h
    · rename_i dt ts x0 y0 hats
      obtain ⟨y, z, rfl, hy, hz⟩ := two ha
      intro ob
      obtain ⟨hob, hg⟩ := sCopy_ok (ty := ty) (rest := ts) h hr hy hz
      rw [ats_eq hats]
      exact ⟨hob ▸ ob, OpGood.ofV hg⟩
    · cases h
  · -- delete
    split at h
    · rename_i t t' m k hats
      obtain ⟨y, z, rfl, hy, hz⟩ := two ha
      intro ob
      obtain ⟨ob0, hg⟩ := sDelete_ok (ty := ty) (rest := [t']) h hr hy hz ob
      rw [ats_eq hats]
      exact ⟨ob0, OpGood.ofV hg⟩
    · cases h
  · -- a slice's data
    split at h
    · rename_i z
      obtain ⟨y, rfl, hy⟩ := one ha
      unfold sUnsafeData at h
      split at h
      · rename_i i off len c
        obtain ⟨d, hd, _, rfl⟩ := VR.sl_iff.1 hy
        cases hask : s.ask E (!(c == 0)) with
        | none => rw [hask] at h; cases h
        | some s1 =>
        rw [hask] at h; cases h
        obtain ⟨hsame, hob⟩ := SH.ask_ok hask
        intro ob
        have hc : c ≠ 0 := by simpa using (hob ob).2
        exact ⟨(hob ob).1, OpGood.ofV (GoodV.now (hr.same hsame) (y := .pointer (some ⟨d.1, off, none⟩)) (run_unsafeSliceData hc) (VR.ptr_iff.2 ⟨d, hd, rfl⟩))⟩
      · rename_i i len
        obtain ⟨d, hd, hle, rfl⟩ := VR.sl_iff.1 hy
        cases hask : s.ask E (!(len == 0)) with
        | none => rw [hask] at h; cases h
        | some s1 =>
        rw [hask] at h; cases h
        obtain ⟨hsame, hob⟩ := SH.ask_ok hask
        intro ob
        have hc : len ≠ 0 := by simpa using (hob ob).2
        simp only [Option.getD_none] at hle
        have hd2 : d.2 ≠ 0 := by omega
        exact ⟨(hob ob).1, OpGood.ofV (GoodV.now (hr.same hsame) (y := .pointer (some ⟨d.1, 0, none⟩)) (run_unsafeSliceData hd2) (VR.ptr_iff.2 ⟨d, hd, rfl⟩))⟩
      · cases h
    · cases h
  · -- a text of bytes
    split at h
    · rename_i pt it x0 n0 hats
      obtain ⟨y, z, rfl, hy, hz⟩ := two ha
      unfold sUnsafeString at h
      split at h
      · intro ob
        obtain ⟨ob0, hg⟩ := sUnsafeStringQ_ok (ty := ty) (it := it) h hr hy hz ob
        rw [ats_eq hats]
        exact ⟨ob0, OpGood.ofV hg⟩
      unfold sUnsafeString0 at h
      split at h
      · rename_i i n
        obtain ⟨c, hc, rfl⟩ := VR.ptr_iff.1 hy
        obtain rfl := VR.v_iff.1 hz
        split at h
        · rename_i e xs el ext hd hl
          cases hg : guard' (decide (0 < n ∧ n ≤ 2 ^ 40) && Nat.ble n.toNat xs.length && e == el && Nat.beq (E.P.cellsOf e) 1) with
          | none => rw [hg] at h; cases h
          | some u =>
          rw [hg] at h
          simp only [Option.bind_eq_bind, Option.bind_some] at h
          cases hb : bytesOf (xs.take n.toNat) with
          | none => rw [hb] at h; cases h
          | some ns =>
          rw [hb] at h; cases h
          have hg := guard_ok hg
          rw [Bool.and_eq_true, Bool.and_eq_true, Bool.and_eq_true] at hg
          obtain ⟨⟨⟨g1, g2⟩, g3⟩, g4⟩ := hg
          have g1 := of_decide_eq_true g1
          have g2 := Nat.le_of_ble_eq_true g2
          obtain rfl : e = el := by simpa using g3
          have g4 := Nat.eq_of_beq_eq_true g4
          obtain ⟨_, _, c', o, hc', ho, hor, _⟩ := hr.look hl
          rw [hc] at hc'; cases hc'
          obtain ⟨ys, rest, rfl, hvl, hext⟩ := hor
          have hlen := hvl.length
          have hns := bytesOf_ok hb (hvl.take n.toNat)
          have hnl : ns.length = n.toNat := by
            have := congrArg List.length hns
            simp at this; omega
          intro ob
          refine ⟨ob, OpGood.ofV ⟨ν, (w.freeze ⟨c.1, 0, none⟩ ns.length), .string (byteStr ns), Val.Le.refl _, ?_, VR.v_iff.2 rfl, ?_⟩⟩
          · have hrun := run_unsafeString_ints (P := E.P) (w := w) pt it ty e hd g4 c.1 (ys ++ rest).toArray.size (shape_at ho) ns (by intro e; rw [e] at hnl; simp at hnl; omega) (by simp; omega) (by omega) (by
              intro j x hj
              rw [addr_add, Nat.zero_add, cell_at ho]
              have hj' : (ns.map (Value.int .u8))[j]? = some (.int .u8 x) := by simp [hj]
              rw [← hns, List.getElem?_take] at hj'
              split at hj'
              · simpa using getElem?_append_left' hj'
              · cases hj')
            rw [ats_eq hats]
            have hnn : (n : Int) = (ns.length : Int) := by omega
            rw [hnn]; exact hrun
          · refine hr.put hl hc (o := .row xs e (0, n.toNat) ext) (r := .cells (ys ++ rest).toArray e (0, n.toNat)) ⟨ys, rest, ?_, hvl, hext⟩ ?_ ?_ ?_ ?_
            · have : fzReal (0, n.toNat) (ys ++ rest).length = (0, n.toNat) := rfl
              rw [this]
            · have hn0 : ns.length ≠ 0 := by omega
              unfold World.freeze
              rw [if_neg hn0]
              apply Array.ext_getElem?
              intro j
              rw [Array.getElem?_modify, Array.getElem?_setIfInBounds]
              have h1 := (Array.getElem?_eq_some_iff.1 ho).1
              have h2 := (Array.getElem?_eq_some_iff.1 ho).2
              split
              · rename_i ej
                subst ej
                simp [h1, h2, hnl]
              · rfl
            all_goals (unfold World.freeze; split <;> rfl)
        · cases h
      · cases h
    · cases h
  · cases h

end
end Go.Rx
