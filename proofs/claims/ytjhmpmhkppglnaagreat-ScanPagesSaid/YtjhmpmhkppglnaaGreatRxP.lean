/- The symbolic executor 'Rx', part P: conversions. By an AI agent. -/
import Derived.Test.YtjhmpmhkppglnaaGreatRxO
set_option linter.unusedVariables false
set_option linter.unusedSimpArgs false
namespace Go.Rx
section
variable {ν : Val} {M : Own} {w0 w : World} {s s' : SH} {E : Env}

theorem bytesOf_ok {l : List SV} {ns : List Int} {ys : List Value} (h : bytesOf l = some ns) (hv : VRL ν l ys) : ys = ns.map (Value.int .u8) := by
  induction l generalizing ns ys with
  | nil => cases h; rw [hv.nil_inv]; rfl
  | cons x l ih =>
    obtain ⟨z, zs, rfl, hz, hs⟩ := hv.cons_inv
    unfold bytesOf at h
    split at h
    · rename_i he; cases he
    · rename_i n r he
      cases he
      cases hb : bytesOf l with
      | none => rw [hb] at h; cases h
      | some ms =>
        rw [hb] at h; cases h
        rw [VR.v_iff.1 hz, ih hb hs]; rfl
    · cases h

theorem foldl_byteStr (ns : List Int) : ns.foldl (fun r n => r.push (UInt8.ofNat n.toNat)) ByteArray.empty = byteStr ns := by
  have key : ∀ (ns : List Int) (b : ByteArray), ns.foldl (fun r n => r.push (UInt8.ofNat n.toNat)) b = ⟨b.data ++ (ns.map fun n => UInt8.ofNat n.toNat).toArray⟩ := by
    intro ns
    induction ns with
    | nil => intro b; simp
    | cons n ns ih =>
      intro b
      simp only [List.foldl_cons]
      rw [ih]
      simp only [ByteArray.push, List.map_cons]
      congr 1
      apply Array.ext'; simp
  rw [key]
  have : ByteArray.empty.data = #[] := rfl
  simp [byteStr, this]

theorem shape_at {b : Nat} {c : Array Value} {e : TypeId} {fz : Nat × Nat} (h : w.heap[b]? = some (.cells c e fz)) : w.shape? b = some (e, c.size) := by
  simp [World.shape?, h]

theorem run_seenAt {P : Program} {b off : Nat} {c : Array Value} {e : TypeId} {fz : Nat × Nat} (h : w.heap[b]? = some (.cells c e fz)) : (Conv.seenAt ⟨b, off, none⟩).run P w = .ok ⟨b, off, none⟩ w := by
  simp [Conv.seenAt, viewAt, shape_at h]

theorem freeze_push (w : World) (c : Array Value) (e : TypeId) (off n : Nat) (hn : n ≠ 0) :
    ({ w with heap := w.heap.push (.cells c e) } : World).freeze ⟨w.heap.size, off, none⟩ n = { w with heap := w.heap.push (.cells c e (off, off + n)) } := by
  unfold World.freeze
  rw [if_neg hn]
  congr 1
  apply Array.ext_getElem?
  intro j
  rw [Array.getElem?_modify, Array.getElem?_push, Array.getElem?_push]
  split
  · rename_i ej
    subst ej
    simp
  · rename_i ej
    rw [if_neg (fun e => ej e.symm), if_neg (fun e => ej e.symm)]

theorem sConvert0_ok {src dst : TypeId} {x y : SV} {xv : Value} (h : sConvert0 E src dst x s = some (y, s')) (hr : HR ν M w0 s w) (hx : VR ν x xv) :
    s'.ob = s.ob ∧ GoodV E.P (convert src dst xv) ν M w0 w y s' := by
  unfold sConvert0 at h
  split at h
  · -- bytes to a text
    rename_i e i off len cap hs hd
    cases he : tdesc E e with
    | none => rw [he] at h; cases h
    | some ed =>
    rw [he] at h
    simp only [Option.bind_eq_bind, Option.bind_some] at h
    split at h
    · obtain ⟨b, hb, _, rfl⟩ := VR.sl_iff.1 hx
      split at h
      · rename_i xs el fz ext own hl
        cases hg : guard' (Nat.ble (off + len) xs.length) with
        | none => rw [hg] at h; cases h
        | some u =>
        rw [hg] at h
        simp only [Option.bind_some] at h
        have hg := Nat.le_of_ble_eq_true (guard_ok hg)
        cases hbs : bytesOf ((xs.drop off).take len) with
        | none => rw [hbs] at h; cases h
        | some ns =>
        rw [hbs] at h; cases h
        obtain ⟨_, _, b', o, hb', ho, hor, _⟩ := hr.look hl
        rw [hb] at hb'; cases hb'
        obtain ⟨ys, rest, rfl, hvl, _⟩ := hor
        have hlen := hvl.length
        have hcells := run_loadCells (P := E.P) (w := w) (b := b.1) (off := off) (n := len) (vs := (ys.drop off).take len) (by
          intro k hk
          rw [cell_at ho, List.getElem?_take, if_pos hk, List.getElem?_drop]
          have : off + k < ys.length := by omega
          simp [List.getElem?_append_left this]) (by simp; omega)
        rw [bytesOf_ok hbs ((hvl.drop off).take len)] at hcells
        refine ⟨rfl, GoodV.now hr ?_ (VR.v_iff.2 rfl)⟩
        rw [run_convert_bytes_string w src dst e _ _ _ hs he hd, run_bytesToString w _ _ _ ns hcells, foldl_byteStr]
      · cases h
    · cases h
  · -- bytes to bytes
    rename_i sd e i off len cap hs hd
    have main : ∀ {xs : List SV} {el : TypeId} {fz : Nat × Nat} {ext : Option Nat}, (fz = (0, 0) ∨ fz = (1, 0)) → (src == dst) = true → tdesc E e = some (.int .u8) → s.look i = some (.row xs el fz ext, true) →
        some (SV.sl i off len cap, s.put i (.row xs el (1, 0) ext)) = some (y, s') → s'.ob = s.ob ∧ GoodV E.P (convert src dst xv) ν M w0 w y s' := by
      intro xs el fz ext hfz heq he hl h
      cases h
      obtain ⟨b, hb, hle, rfl⟩ := VR.sl_iff.1 hx
      obtain ⟨_, _, b', o, hb', ho, hor, _⟩ := hr.look hl
      rw [hb] at hb'; cases hb'
      obtain ⟨ys, rest, rfl, hvl, hext⟩ := hor
      have hu : E.P.underlying src = some (.slice sd) := hs
      have hu2 : E.P.underlying dst = some (.slice e) := hd
      have hu3 : E.P.underlying e = some (.int .u8) := he
      have hfr : w.freeze ⟨b.1, (ys ++ rest).toArray.size, none⟩ 1 = { w with heap := w.heap.setIfInBounds b.1 (.cells (ys ++ rest).toArray el (fzReal (1, 0) (ys ++ rest).length)) } := by
        unfold World.freeze
        rw [if_neg (by omega)]
        congr 1
        apply Array.ext_getElem?
        intro j
        rw [Array.getElem?_modify, Array.getElem?_setIfInBounds]
        by_cases ej : b.1 = j
        · subst ej
          have hlt := (Array.getElem?_eq_some_iff.1 ho).1
          rw [if_pos rfl, if_pos rfl, if_pos hlt, ho]
          have f1 : ∀ n, fzReal (1, 0) n = (n, n + 1) := fun _ => rfl
          rcases hfz with rfl | rfl
          · simp [f1]
          · simp [f1]
        · rw [if_neg ej, if_neg ej]
      have hrun : (convert src dst (.slice (some ⟨b.1, off, none⟩) len (cap.getD (b.2 - off)))).run E.P w = .ok (.slice (some ⟨b.1, off, none⟩) len (cap.getD (b.2 - off))) (w.freeze ⟨b.1, (ys ++ rest).toArray.size, none⟩ 1) := by
        simp only [convert, Sem.run_bind, Go.run_underlying hu, Go.run_underlying hu2, Go.run_underlying hu3, Result.andThen_ok, heq, markStringish, run_shape, shape_at ho, Sem.run_pure]
        rfl
      refine ⟨rfl, ν, _, _, Val.Le.refl _, hrun, VR.sl_iff.2 ⟨b, hb, hle, rfl⟩, ?_⟩
      rw [hfr]
      exact hr.put hl hb ⟨ys, rest, rfl, hvl, hext⟩ rfl rfl rfl rfl
    split at h
    · rename_i heq he hl
      exact main (.inl rfl) heq he hl h
    · rename_i heq he hl
      exact main (.inr rfl) heq he hl h
    · cases h
  · -- a text to bytes
    rename_i e b hs hd
    obtain rfl := VR.v_iff.1 hx
    cases he : tdesc E e with
    | none => rw [he] at h; cases h
    | some ed =>
    rw [he] at h
    simp only [Option.bind_eq_bind, Option.bind_some] at h
    split at h
    · cases hn : sNew (.row (b.data.toList.map fun c => SV.v (.int .u8 c.toNat)) e (1, 0) (some 1)) s with
      | none => rw [hn] at h; cases h
      | some p =>
      obtain ⟨i, s1⟩ := p
      rw [hn] at h; cases h
      generalize hcap : (Question.appendCap b.size 0 e).cut (w.tape w.drawn (.appendCap b.size 0 e)) = cap
      have hle : b.size ≤ cap := by rw [← hcap]; simp [Question.cut]
      have hq : (Question.appendCap b.size 0 e).forced = false := rfl
      have hch : (choose (.appendCap b.size 0 e)).run E.P w = .ok cap { w with drawn := w.drawn + 1 } := by
        rw [run_choose, hq, hcap]; rfl
      let ys : List Value := b.data.toList.map fun c => Value.int .u8 c.toNat
      let rest : List Value := List.replicate (cap - b.size) (Value.int .u8 0)
      have hys : (ys ++ rest).length = cap := by simp [ys, rest]; change b.size + _ = _; omega
      have hlits : VRL ν (b.data.toList.map fun c => SV.v (.int .u8 c.toNat)) ys := by
        have := VRL.lits ν ys
        rwa [List.map_map] at this
      obtain ⟨hob, ν', hle', hi, hr'⟩ := sNew_ok hn (hr.drawn (w.drawn + 1)) cap (r := .cells (ys ++ rest).toArray e (cap, cap + 1))
        (fun ν' hle' hi' => ⟨ys, rest, by rw [hys]; rfl, hlits.mono hle', by
          refine ⟨by rw [hys]; simpa using hle, _, hi', by rw [hys]; simp⟩⟩)
      refine ⟨hob, ν', _, _, hle', ?_, VR.sl_iff.2 ⟨_, hi, by simpa using hle, rfl⟩, hr'⟩
      have hconv : (convert src dst (.string b)).run E.P w = (Conv.stringToBytes e b).run E.P w := by
        have h1 : E.P.underlying src = some .string := hs
        have h2 : E.P.underlying dst = some (.slice e) := hd
        have h3 : E.P.underlying e = some (.int .u8) := he
        simp [convert, Go.run_underlying h1, Go.run_underlying h2, Go.run_underlying h3]
      have harr : (b.data.map fun c => Value.int .u8 c.toNat) ++ Array.replicate (cap - b.size) (Value.int .u8 0) = (ys ++ rest).toArray := by
        apply Array.ext'; simp [ys, rest]
      rw [hconv]
      simp only [Conv.stringToBytes, Sem.run_bind, hch, Result.andThen_ok, newRow, run_newObj, Sem.run_pure, markStringish, harr]
      rw [run_shape]
      have hsh : ({ w with drawn := w.drawn + 1, heap := w.heap.push (.cells (ys ++ rest).toArray e) } : World).shape? w.heap.size = some (e, cap) := by
        rw [shape_at (c := (ys ++ rest).toArray) (e := e) (fz := (0, 0)) (by simp)]
        simp only [List.size_toArray, hys]
      simp only [Result.andThen_ok, hsh, run_freeze]
      have := freeze_push { w with drawn := w.drawn + 1 } (ys ++ rest).toArray e cap 1 (by omega)
      simp only at this
      rw [this]; rfl
    · cases h
  · -- a pointer to a bare one
    rename_i t i off hs hd
    obtain ⟨b, hb, rfl⟩ := VR.ptr_iff.1 hx
    split at h
    · rename_i xs el fz ext own info hl hi
      cases hc : (Nat.blt off xs.length && !(info.size == 0))
      · rw [hc] at h; cases h
      rw [hc] at h; cases h
      rw [Bool.and_eq_true] at hc
      have h1 := blt_iff.1 hc.1
      have h2 : info.size ≠ 0 := by simpa using hc.2
      obtain ⟨_, _, b', o, hb', ho, hor, _⟩ := hr.look hl
      rw [hb] at hb'; cases hb'
      obtain ⟨ys, rest, rfl, hvl, _⟩ := hor
      have hlen := hvl.length
      refine ⟨rfl, GoodV.now hr ?_ hx⟩
      have hsz : ¬ (ys ++ rest).toArray.size ≤ off := by simp; omega
      have hu : E.P.underlying src = some (.pointer t) := hs
      have hu2 : E.P.underlying dst = some .unsafePointer := hd
      simp only [convert, Sem.run_bind, Go.run_underlying hu, Go.run_underlying hu2, Result.andThen_ok, Conv.unsafePointer, run_seenAt ho, cellsIn, run_shape, shape_at ho, Sem.run_pure, run_sizeOf hi]
      simp [h2, hsz]
      omega
    · cases h
  · -- a bare pointer to another
    rename_i u i off hs hd
    obtain ⟨b, hb, rfl⟩ := VR.ptr_iff.1 hx
    split at h
    · rename_i xs el fz own info hl hi
      cases hc : liesAt E.P E.P.depth el (xs.length / E.P.cellsOf el) off u 1
      · rw [hc] at h; cases h
      rw [hc] at h; cases h
      obtain ⟨_, _, b', o, hb', ho, hor, _⟩ := hr.look hl
      rw [hb] at hb'; cases hb'
      obtain ⟨ys, rest, rfl, hvl, hext⟩ := hor
      have hext : (ys ++ rest).length = xs.length := hext
      refine ⟨rfl, GoodV.now hr ?_ hx⟩
      have hu : E.P.underlying src = some .unsafePointer := hs
      have hu2 : E.P.underlying dst = some (.pointer u) := hd
      have hva : (variablesAt ⟨b.1, off, none⟩ u 1).run E.P w = .ok true w := by
        simp only [variablesAt, Sem.run_bind, run_program, Result.andThen_ok, run_shape, shape_at ho, Sem.run_pure, List.size_toArray, hext, hc]
      simp only [convert, Sem.run_bind, Go.run_underlying hu, Go.run_underlying hu2, Result.andThen_ok, Conv.unsafePointer, run_seenAt ho, run_sizeOf hi, hva]
      simp
    · cases h
  · cases h

theorem byteStr_bytes (b : ByteArray) : byteStr (b.data.toList.map fun c => (c.toNat : Int)) = b := by
  unfold byteStr
  rw [List.map_map]
  have : ((fun n : Int => UInt8.ofNat n.toNat) ∘ fun c : UInt8 => (c.toNat : Int)) = id := by
    funext c; simp
  rw [this, List.map_id]

theorem bytes_VRL {b : ByteArray} {ys : List Value} (h : VRL ν (b.data.toList.map fun c => SV.v (.int .u8 c.toNat)) ys) : ys = (b.data.toList.map fun c => (c.toNat : Int)).map (Value.int .u8) := by
  generalize b.data.toList = l at h
  induction l generalizing ys with
  | nil => exact h.nil_inv
  | cons c l ih =>
    obtain ⟨z, zs, rfl, hz, hs⟩ := h.cons_inv
    rw [VR.v_iff.1 hz, ih hs]; rfl

theorem sConvertQ_ok {src dst : TypeId} {x y : SV} {b : ByteArray} {xv : Value} (h : sConvertQ E src dst x b s = some (y, s')) (hr : HR ν M w0 s w) (hx : VR ν x xv) :
    s'.ob → s.ob ∧ GoodV E.P (convert src dst xv) ν M w0 w y s' := by
  unfold sConvertQ at h
  split at h
  · rename_i e i off len cap hs hd
    split at h
    · rename_i xs he hl
      cases h
      intro ob
      obtain ⟨ob0, hcells, hlen⟩ := ob
      obtain ⟨c, hc, _, rfl⟩ := VR.sl_iff.1 hx
      obtain ⟨ys, hrun, hv, hyl⟩ := told_cells (E := E) hl hr hc hcells (by rw [← hlen]; simp)
      have hrun := hrun w.drawn
      rw [bytes_VRL hv] at hrun
      refine ⟨ob0, GoodV.now (hr.same (SH.owe_same _ _)) ?_ (VR.v_iff.2 rfl)⟩
      rw [run_convert_bytes_string w src dst e _ _ _ hs he hd, run_bytesToString w _ _ _ _ hrun, foldl_byteStr, byteStr_bytes]
    · cases h
  · cases h

theorem sConvert_ok {src dst : TypeId} {x y : SV} {xv : Value} (h : sConvert E src dst x s = some (y, s')) (hr : HR ν M w0 s w) (hx : VR ν x xv) :
    s'.ob → s.ob ∧ GoodV E.P (convert src dst xv) ν M w0 w y s' := by
  unfold sConvert at h
  split at h
  · exact sConvertQ_ok h hr hx
  · exact fun ob => let ⟨h1, h2⟩ := sConvert0_ok h hr hx; ⟨h1 ▸ ob, h2⟩

end
end Go.Rx
