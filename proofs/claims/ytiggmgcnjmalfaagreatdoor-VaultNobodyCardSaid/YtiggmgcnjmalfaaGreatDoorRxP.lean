/- The symbolic executor 'Rx', part P: conversions. By an AI agent. -/
import Derived.Test.YtiggmgcnjmalfaaGreatDoorRxK
import Derived.Lib.BytesEntry
import Derived.Test.YtiggmgcnjmalfaaGreatDoorRxA
import Derived.Orders
set_option linter.unusedVariables false
set_option linter.unusedSimpArgs false
namespace Go.Rx
section
variable {ν : Val} {M : Own} {w0 w : World} {s s' : SH} {E : Env}

theorem bytesOf_ok {l : List SV} {ns : List Int} {ys : List Value} (h : bytesOf l = some ns) (hv : VRL ν l ys) : ys = ns.map (Value.int .u8) := by
  induction l generalizing ns ys with
  | nil => cases h; rw [hv.nil_inv]; rfl
  | cons x l ih =>
    obtain ⟨z, zs, rfl, hz, hs⟩ := hv.cons_inv
    unfold bytesOf at h
    split at h
    · rename_i he; cases he
    · rename_i n r he
      cases he
      cases hb : bytesOf l with
      | none => rw [hb] at h; cases h
      | some ms =>
        rw [hb] at h; cases h
        rw [VR.v_iff.1 hz, ih hb hs]; rfl
    · cases h

theorem foldl_byteStr (ns : List Int) : ns.foldl (fun r n => r.push (UInt8.ofNat n.toNat)) ByteArray.empty = byteStr ns := by
  have key : ∀ (ns : List Int) (b : ByteArray), ns.foldl (fun r n => r.push (UInt8.ofNat n.toNat)) b = ⟨b.data ++ (ns.map fun n => UInt8.ofNat n.toNat).toArray⟩ := by
    intro ns
    induction ns with
    | nil => intro b; simp
    | cons n ns ih =>
      intro b
      simp only [List.foldl_cons]
      rw [ih]
      simp only [ByteArray.push, List.map_cons]
      congr 1
      apply Array.ext'; simp
  rw [key]
  have : ByteArray.empty.data = #[] := rfl
  simp [byteStr, this]

theorem shape_at {b : Nat} {c : Array Value} {e : TypeId} {fz : Nat × Nat} (h : w.heap[b]? = some (.cells c e fz)) : w.shape? b = some (e, c.size) := by
  simp [World.shape?, h]

theorem run_seenAt {P : Program} {b off : Nat} {c : Array Value} {e : TypeId} {fz : Nat × Nat} (h : w.heap[b]? = some (.cells c e fz)) : (Conv.seenAt ⟨b, off, none⟩).run P w = .ok ⟨b, off, none⟩ w := by
  simp [Conv.seenAt, viewAt, shape_at h]

theorem freeze_push (w : World) (c : Array Value) (e : TypeId) (off n : Nat) (hn : n ≠ 0) :
    ({ w with heap := w.heap.push (.cells c e) } : World).freeze ⟨w.heap.size, off, none⟩ n = { w with heap := w.heap.push (.cells c e (off, off + n)) } := by
  unfold World.freeze
  rw [if_neg hn]
  congr 1
  apply Array.ext_getElem?
  intro j
  rw [Array.getElem?_modify, Array.getElem?_push, Array.getElem?_push]
  split
  · rename_i ej
    subst ej
    simp
  · rename_i ej
    rw [if_neg (fun e => ej e.symm), if_neg (fun e => ej e.symm)]

theorem sConvert0_ok {src dst : TypeId} {x y : SV} {xv : Value} (h : sConvert0 E src dst x s = some (y, s')) (hr : HR ν M w0 s w) (hx : VR ν x xv) :
    s'.ob = s.ob ∧ GoodV E.P (convert src dst xv) ν M w0 w y s' := by
  unfold sConvert0 at h
  split at h
  · -- bytes to a text
    rename_i e i off len cap hs hd
    cases he : tdesc E e with
    | none => rw [he] at h; cases h
    | some ed =>
    rw [he] at h
    simp only [Option.bind_eq_bind, Option.bind_some] at h
    split at h
    · obtain ⟨b, hb, _, rfl⟩ := VR.sl_iff.1 hx
      split at h
      · rename_i xs el fz ext own hl
        cases hg : guard' (Nat.ble (off + len) xs.length) with
        | none => rw [hg] at h; cases h
        | some u =>
        rw [hg] at h
        simp only [Option.bind_some] at h
        have hg := Nat.le_of_ble_eq_true (guard_ok hg)
        cases hbs : bytesOf ((xs.drop off).take len) with
        | none => rw [hbs] at h; cases h
        | some ns =>
        rw [hbs] at h; cases h
        obtain ⟨_, _, b', o, hb', ho, hor, _⟩ := hr.look hl
        rw [hb] at hb'; cases hb'
        obtain ⟨ys, rest, rfl, hvl, _⟩ := hor
        have hlen := hvl.length
        have hcells := run_loadCells (P := E.P) (w := w) (b := b.1) (off := off) (n := len) (vs := (ys.drop off).take len) (by
          intro k hk
          rw [cell_at ho, List.getElem?_take, if_pos hk, List.getElem?_drop]
          have : off + k < ys.length := by omega
          simp [List.getElem?_append_left this]) (by simp; omega)
        rw [bytesOf_ok hbs ((hvl.drop off).take len)] at hcells
        refine ⟨rfl, GoodV.now hr ?_ (VR.v_iff.2 rfl)⟩
        rw [run_convert_bytes_string w src dst e _ _ _ hs he hd, run_bytesToString w _ _ _ ns hcells, foldl_byteStr]
      · cases h
    · cases h
  · -- bytes to bytes
    rename_i sd e i off len cap hs hd
    have main : ∀ {xs : List SV} {el : TypeId} {fz : Nat × Nat} {ext : Option Nat}, (fz = (0, 0) ∨ fz = (1, 0)) → (src == dst) = true → tdesc E e = some (.int .u8) → s.look i = some (.row xs el fz ext, true) →
        some (SV.sl i off len cap, s.put i (.row xs el (1, 0) ext)) = some (y, s') → s'.ob = s.ob ∧ GoodV E.P (convert src dst xv) ν M w0 w y s' := by
      intro xs el fz ext hfz heq he hl h
      cases h
      obtain ⟨b, hb, hle, rfl⟩ := VR.sl_iff.1 hx
      obtain ⟨_, _, b', o, hb', ho, hor, _⟩ := hr.look hl
      rw [hb] at hb'; cases hb'
      obtain ⟨ys, rest, rfl, hvl, hext⟩ := hor
      have hu : E.P.underlying src = some (.slice sd) := hs
      have hu2 : E.P.underlying dst = some (.slice e) := hd
      have hu3 : E.P.underlying e = some (.int .u8) := he
      have hfr : w.freeze ⟨b.1, (ys ++ rest).toArray.size, none⟩ 1 = { w with heap := w.heap.setIfInBounds b.1 (.cells (ys ++ rest).toArray el (fzReal (1, 0) (ys ++ rest).length)) } := by
        unfold World.freeze
        rw [if_neg (by omega)]
        congr 1
        apply Array.ext_getElem?
        intro j
        rw [Array.getElem?_modify, Array.getElem?_setIfInBounds]
        by_cases ej : b.1 = j
        · subst ej
          have hlt := (Array.getElem?_eq_some_iff.1 ho).1
          rw [if_pos rfl, if_pos rfl, if_pos hlt, ho]
          have f1 : ∀ n, fzReal (1, 0) n = (n, n + 1) := fun _ => rfl
          rcases hfz with rfl | rfl
          · simp [f1]
          · simp [f1]
        · rw [if_neg ej, if_neg ej]
      have hrun : (convert src dst (.slice (some ⟨b.1, off, none⟩) len (cap.getD (b.2 - off)))).run E.P w = .ok (.slice (some ⟨b.1, off, none⟩) len (cap.getD (b.2 - off))) (w.freeze ⟨b.1, (ys ++ rest).toArray.size, none⟩ 1) := by
        simp only [convert, Sem.run_bind, Go.run_underlying hu, Go.run_underlying hu2, Go.run_underlying hu3, Result.andThen_ok, heq, markStringish, run_shape, shape_at ho, Sem.run_pure]
        rfl
      refine ⟨rfl, ν, _, _, Val.Le.refl _, hrun, VR.sl_iff.2 ⟨b, hb, hle, rfl⟩, ?_⟩
      rw [hfr]
      exact hr.put hl hb ⟨ys, rest, rfl, hvl, hext⟩ rfl rfl rfl rfl
    split at h
    · rename_i heq he hl
      exact main (.inl rfl) heq he hl h
    · rename_i heq he hl
      exact main (.inr rfl) heq he hl h
    · cases h
  · -- a text to bytes
    rename_i e b hs hd
    obtain rfl := VR.v_iff.1 hx
    cases he : tdesc E e with
    | none => rw [he] at h; cases h
    | some ed =>
    rw [he] at h
    simp only [Option.bind_eq_bind, Option.bind_some] at h
    split at h
    · cases hn : sNew (.row (b.data.toList.map fun c => SV.v (.int .u8 c.toNat)) e (1, 0) (some 1)) s with
      | none => rw [hn] at h; cases h
      | some p =>
      obtain ⟨i, s1⟩ := p
      rw [hn] at h; cases h
      generalize hcap : (Question.appendCap b.size 0 e).cut (w.tape w.drawn (.appendCap b.size 0 e)) = cap
      have hle : b.size ≤ cap := by rw [← hcap]; simp [Question.cut]
      have hq : (Question.appendCap b.size 0 e).forced = false := rfl
      have hch : (choose (.appendCap b.size 0 e)).run E.P w = .ok cap { w with drawn := w.drawn + 1 } := by
        rw [run_choose, hq, hcap]; rfl
      let ys : List Value := b.data.toList.map fun c => Value.int .u8 c.toNat
      let rest : List Value := List.replicate (cap - b.size) (Value.int .u8 0)
      have hys : (ys ++ rest).length = cap := by simp [ys, rest]; change b.size + _ = _; omega
      have hlits : VRL ν (b.data.toList.map fun c => SV.v (.int .u8 c.toNat)) ys := by
        have := VRL.lits ν ys
        rwa [List.map_map] at this
      obtain ⟨hob, ν', hle', hi, hr'⟩ := sNew_ok hn (hr.drawn (w.drawn + 1)) cap (r := .cells (ys ++ rest).toArray e (cap, cap + 1))
        (fun ν' hle' hi' => ⟨ys, rest, by rw [hys]; rfl, hlits.mono hle', by
          refine ⟨by rw [hys]; simpa using hle, _, hi', by rw [hys]; simp⟩⟩)
      refine ⟨hob, ν', _, _, hle', ?_, VR.sl_iff.2 ⟨_, hi, by simpa using hle, rfl⟩, hr'⟩
      have hconv : (convert src dst (.string b)).run E.P w = (Conv.stringToBytes e b).run E.P w := by
        have h1 : E.P.underlying src = some .string := hs
        have h2 : E.P.underlying dst = some (.slice e) := hd
        have h3 : E.P.underlying e = some (.int .u8) := he
        simp [convert, Go.run_underlying h1, Go.run_underlying h2, Go.run_underlying h3]
      have harr : (b.data.map fun c => Value.int .u8 c.toNat) ++ Array.replicate (cap - b.size) (Value.int .u8 0) = (ys ++ rest).toArray := by
        apply Array.ext'; simp [ys, rest]
      rw [hconv]
      simp only [Conv.stringToBytes, Sem.run_bind, hch, Result.andThen_ok, newRow, run_newObj, Sem.run_pure, markStringish, harr]
      rw [run_shape]
      have hsh : ({ w with drawn := w.drawn + 1, heap := w.heap.push (.cells (ys ++ rest).toArray e) } : World).shape? w.heap.size = some (e, cap) := by
        rw [shape_at (c := (ys ++ rest).toArray) (e := e) (fz := (0, 0)) (by simp)]
        simp only [List.size_toArray, hys]
      simp only [Result.andThen_ok, hsh, run_freeze]
      have := freeze_push { w with drawn := w.drawn + 1 } (ys ++ rest).toArray e cap 1 (by omega)
      simp only at this
      rw [this]; rfl
    · cases h
  · -- a pointer to a bare one
    rename_i t i off hs hd
    obtain ⟨b, hb, rfl⟩ := VR.ptr_iff.1 hx
    split at h
    · rename_i xs el fz ext own info hl hi
      cases hc : (Nat.blt off xs.length && !(info.size == 0))
      · rw [hc] at h; cases h
      rw [hc] at h; cases h
      rw [Bool.and_eq_true] at hc
      have h1 := blt_iff.1 hc.1
      have h2 : info.size ≠ 0 := by simpa using hc.2
      obtain ⟨_, _, b', o, hb', ho, hor, _⟩ := hr.look hl
      rw [hb] at hb'; cases hb'
      obtain ⟨ys, rest, rfl, hvl, _⟩ := hor
      have hlen := hvl.length
      refine ⟨rfl, GoodV.now hr ?_ hx⟩
      have hsz : ¬ (ys ++ rest).toArray.size ≤ off := by simp; omega
      have hu : E.P.underlying src = some (.pointer t) := hs
      have hu2 : E.P.underlying dst = some .unsafePointer := hd
      simp only [convert, Sem.run_bind, Go.run_underlying hu, Go.run_underlying hu2, Result.andThen_ok, Conv.unsafePointer, run_seenAt ho, cellsIn, run_shape, shape_at ho, Sem.run_pure, run_sizeOf hi]
      simp [h2, hsz]
      omega
    · cases h
  · -- a bare pointer to another
    rename_i u i off hs hd
    obtain ⟨b, hb, rfl⟩ := VR.ptr_iff.1 hx
    split at h
    · rename_i xs el fz own info hl hi
      cases hc : liesAt E.P E.P.depth el (xs.length / E.P.cellsOf el) off u 1
      · rw [hc] at h; cases h
      rw [hc] at h; cases h
      obtain ⟨_, _, b', o, hb', ho, hor, _⟩ := hr.look hl
      rw [hb] at hb'; cases hb'
      obtain ⟨ys, rest, rfl, hvl, hext⟩ := hor
      have hext : (ys ++ rest).length = xs.length := hext
      refine ⟨rfl, GoodV.now hr ?_ hx⟩
      have hu : E.P.underlying src = some .unsafePointer := hs
      have hu2 : E.P.underlying dst = some (.pointer u) := hd
      have hva : (variablesAt ⟨b.1, off, none⟩ u 1).run E.P w = .ok true w := by
        simp only [variablesAt, Sem.run_bind, run_program, Result.andThen_ok, run_shape, shape_at ho, Sem.run_pure, List.size_toArray, hext, hc]
      simp only [convert, Sem.run_bind, Go.run_underlying hu, Go.run_underlying hu2, Result.andThen_ok, Conv.unsafePointer, run_seenAt ho, run_sizeOf hi, hva]
      simp
    · cases h
  · cases h

theorem byteStr_bytes (b : ByteArray) : byteStr (b.data.toList.map fun c => (c.toNat : Int)) = b := by
  unfold byteStr
  rw [List.map_map]
  have : ((fun n : Int => UInt8.ofNat n.toNat) ∘ fun c : UInt8 => (c.toNat : Int)) = id := by
    funext c; simp
  rw [this, List.map_id]

theorem bytes_VRL {b : ByteArray} {ys : List Value} (h : VRL ν (b.data.toList.map fun c => SV.v (.int .u8 c.toNat)) ys) : ys = (b.data.toList.map fun c => (c.toNat : Int)).map (Value.int .u8) := by
  generalize b.data.toList = l at h
  induction l generalizing ys with
  | nil => exact h.nil_inv
  | cons c l ih =>
    obtain ⟨z, zs, rfl, hz, hs⟩ := h.cons_inv
    rw [VR.v_iff.1 hz, ih hs]; rfl

theorem sConvertQ_ok {src dst : TypeId} {x y : SV} {b : ByteArray} {xv : Value} (h : sConvertQ E src dst x b s = some (y, s')) (hr : HR ν M w0 s w) (hx : VR ν x xv) :
    s'.ob → s.ob ∧ GoodV E.P (convert src dst xv) ν M w0 w y s' := by
  unfold sConvertQ at h
  split at h
  · rename_i e i off len cap hs hd
    split at h
    · rename_i xs he hl
      cases h
      intro ob
      obtain ⟨ob0, hcells, hlen⟩ := ob
      obtain ⟨c, hc, _, rfl⟩ := VR.sl_iff.1 hx
      obtain ⟨ys, hrun, hv, hyl⟩ := told_cells (E := E) hl hr hc hcells (by rw [← hlen]; simp)
      have hrun := hrun w.drawn
      rw [bytes_VRL hv] at hrun
      refine ⟨ob0, GoodV.now (hr.same (SH.owe_same _ _)) ?_ (VR.v_iff.2 rfl)⟩
      rw [run_convert_bytes_string w src dst e _ _ _ hs he hd, run_bytesToString w _ _ _ _ hrun, foldl_byteStr, byteStr_bytes]
    · cases h
  · cases h

theorem sConvert_ok {src dst : TypeId} {x y : SV} {xv : Value} (h : sConvert E src dst x s = some (y, s')) (hr : HR ν M w0 s w) (hx : VR ν x xv) :
    s'.ob → s.ob ∧ GoodV E.P (convert src dst xv) ν M w0 w y s' := by
  unfold sConvert at h
  split at h
  · exact sConvertQ_ok h hr hx
  · exact fun ob => let ⟨h1, h2⟩ := sConvert0_ok h hr hx; ⟨h1 ▸ ob, h2⟩

end
end Go.Rx
set_option linter.unusedVariables false
set_option linter.unusedSimpArgs false
namespace Go.Rx
section
variable {ν : Val} {M : Own} {w0 w : World} {s s' : SH} {E : Env}

/-- What an operation comes to. 'enter f args': to a call of f. -/
def OpGood (E : Env) (g : Sem Next) (ν : Val) (M : Own) (w0 w : World) (n : SNext) (s' : SH) : Prop :=
  match n with
  | .val x => ∃ ν' w' y, ν.Le ν' ∧ (g.run E.P w = .ok (.value y) w' ∨ (g.run E.P w = .ok .skip w' ∧ y = undef)) ∧ VR ν' x y ∧ HR ν' M w0 s' w'
  | .enter f args => ∃ a : List Value, VRL ν args a ∧ HR ν M w0 s' w ∧ g.run E.P w = (callFunc f a.toArray).run E.P w
  | .round i args => ∃ (a : List Value) (b : Nat × Nat), ν i = some b ∧ VRL ν args a ∧ HR ν M w0 s' w ∧ g.run E.P w = (Instr.yield b.1 a.toArray).run E.P w
  | .defer d => ∃ dv, DefR ν d dv ∧ HR ν M w0 s' w ∧ g.run E.P w = .ok (.defer dv) w

theorem OpGood.ofV {g : Sem Value} {x : SV} (h : GoodV E.P g ν M w0 w x s') : OpGood E (do pure (.value (← g))) ν M w0 w (.val x) s' := by
  obtain ⟨ν', w', y, hle, hrun, hx, hr⟩ := h
  exact ⟨ν', w', y, hle, .inl (by simp [hrun]), hx, hr⟩

theorem OpGood.ofU {g : Sem Unit} (h : GoodU E.P g ν M w0 w s') : OpGood E (do g; pure .skip) ν M w0 w (.val (.v undef)) s' := by
  obtain ⟨ν', w', hle, hrun, hr⟩ := h
  exact ⟨ν', w', undef, hle, .inr ⟨by simp [hrun], rfl⟩, VR.v_iff.2 rfl, hr⟩

/-- Values of operands. -/
def OpdR (E : Env) (ν : Val) (tm : STm) (ρ : Operand → Value) : Prop := ∀ x, VR ν (evalOpd E tm x) (ρ x)

theorem plain_of {tm : STm} {ρ : Operand → Value} {l : List Operand} (h : allPlain E tm l = true) (hρ : OpdR E ν tm ρ) : ∀ x ∈ l, ρ x = (plainV (evalOpd E tm x)).getD undef := by
  intro x hx
  have hp := List.all_eq_true.1 h x hx
  have hv := hρ x
  cases hz : plainV (evalOpd E tm x) with
  | none => rw [hz] at hp; cases hp
  | some z => exact plainV_ok hz hv

/-- The kinds of operations that are reckoned as the model does. -/
def pureKind : Op → Bool
  | .binOp .. | .unOp .. | .convert .. | .slice .. | .field .. | .typeAssert .. => true
  | .call { callee := .builtin _, .. } => true
  | _ => false

theorem execOp_congr {o : Oper} (hk : pureKind o.op = true) {ρ ρ' : Operand → Value} (h : ∀ x ∈ o.op.operands.toList, ρ x = ρ' x) : execOp ρ o = execOp ρ' o := by
  obtain ⟨dst, op, type, pos, aft, guard⟩ := o
  cases op <;> try cases hk
  case binOp op t x y yt =>
    have h1 := h x (by simp [Op.operands]); have h2 := h y (by simp [Op.operands])
    simp only [execOp, h1, h2]
  case unOp op t x =>
    have h1 := h x (by simp [Op.operands])
    simp only [execOp, h1]
  case convert a b x =>
    have h1 := h x (by simp [Op.operands])
    simp only [execOp, h1]
  case slice t x lo hi mx =>
    have h1 := h x (by simp [Op.operands])
    have e : ∀ (o : Option Operand), (∀ y ∈ o, ρ y = ρ' y) → o.map ρ = o.map ρ' := by
      intro o ho; cases o with
      | none => rfl
      | some y => simp [ho y rfl]
    have h2 := e lo (fun y hy => h y (by cases hy; simp [Op.operands]))
    have h3 := e hi (fun y hy => h y (by cases hy; simp [Op.operands]))
    have h4 := e mx (fun y hy => h y (by cases hy; simp [Op.operands]))
    simp only [execOp, h1, h2, h3, h4]
  case field t x f =>
    have h1 := h x (by simp [Op.operands])
    simp only [execOp, h1]
  case typeAssert x a b ok =>
    have h1 := h x (by simp [Op.operands])
    simp only [execOp, h1]
  case call c =>
    obtain ⟨callee, args, ats⟩ := c
    cases callee <;> try cases hk
    rename_i b
    have h1 : args.map ρ = args.map ρ' := by
      apply Array.map_congr_left
      intro x hx
      exact h x (by simp [Op.operands, Call.operands]; simpa using hx)
    simp only [execOp, resolve, h1]

theorem sPure_ok {tm : STm} {o : Oper} {x : SV} (hk : pureKind o.op = true) (h : sPure E tm o = some x) {ρ : Operand → Value} (hρ : OpdR E ν tm ρ) (hr : HR ν M w0 s w) :
    OpGood E (execOp ρ o) ν M w0 w (.val x) s := by
  unfold sPure at h
  cases hp : allPlain E tm o.op.operands.toList
  · rw [hp] at h; cases h
  · rw [hp] at h
    simp only [cond_true] at h
    split at h
    · rename_i v hrun
      cases h
      have hc := execOp_congr hk (plain_of hp hρ)
      refine ⟨ν, w, v, Val.Le.refl _, .inl ?_, VR.v_iff.2 rfl, hr⟩
      rw [hc]; exact pureRun_ok hrun w
    · cases h

theorem mapOpd_ok {tm : STm} {ρ : Operand → Value} (hρ : OpdR E ν tm ρ) (l : Array Operand) : VRL ν (mapOpd E tm l) (l.toList.map ρ) := by
  unfold mapOpd
  induction l.toList with
  | nil => exact VRL.nil
  | cons x xs ih => exact VRL.cons (hρ x) ih

/-- A call of a function value. -/
theorem callFn_ok {f : SV} {fv : Value} {args : List SV} {a : List Value} {n : SNext} (h : callFn f args = some n) (hf : VR ν f fv) (ha : VRL ν args a) (hr : HR ν M w0 s w) :
    OpGood E (do let d ← Deferred.ofValue fv a.toArray; invoke d.target d.args) ν M w0 w n s := by
  unfold callFn at h
  split at h
  · rename_i g x y
    cases h
    obtain rfl := VR.v_iff.1 hf
    refine ⟨x.toList ++ a ++ y.toList, ((VRL.toList ν x).append ha).append (VRL.toList ν y), hr, ?_⟩
    simp [Deferred.ofValue, invoke]
    congr 2
    apply Array.ext'; simp
  · rename_i g x y
    cases h
    obtain ⟨x', y', rfl, hx, hy⟩ := VR.func_iff.1 hf
    refine ⟨x' ++ a ++ y', (hx.append ha).append hy, hr, ?_⟩
    simp [Deferred.ofValue, invoke]
  · rename_i i
    cases h
    obtain ⟨b, hb, rfl⟩ := VR.yield_iff.1 hf
    refine ⟨a, b, hb, ha, hr, ?_⟩
    simp [Deferred.ofValue, invoke]
  · cases h

theorem VR.lift : ∀ (x : Value), VR ν (Go.Rx.lift x) x := by
  intro x
  cases x <;> first | exact VR.v_iff.2 rfl | exact VR.iface_iff.2 ⟨_, rfl, VR.v_iff.2 rfl⟩

theorem sInvoke_ok {recv : SV} {rv : Value} {name : String} {args : List SV} {a : List Value} {n : SNext} (h : sInvoke E recv name args = some n) (hf : VR ν recv rv) (ha : VRL ν args a) (hr : HR ν M w0 s w) :
    OpGood E (invoke (.fn (.method name) #[]) (#[rv] ++ a.toArray)) ν M w0 w n s := by
  unfold sInvoke at h
  split at h
  · rename_i t v0
    obtain ⟨v, rfl, hv⟩ := VR.iface_iff.1 hf
    obtain rfl := VR.v_iff.1 hv
    cases hp : pureRun E.P (method (E.P.types.size + Made.depth) t v name) with
    | none => rw [hp] at h; cases h
    | some r =>
    obtain ⟨f, rv⟩ := r
    rw [hp] at h; cases h
    refine ⟨rv :: a, VRL.cons (VR.lift rv) ha, hr, ?_⟩
    have e0 : (#[Value.iface t v] ++ a.toArray)[0]? = some (.iface t v) := by simp
    have e1 : (#[Value.iface t v] ++ a.toArray).extract 1 (#[Value.iface t v] ++ a.toArray).size = a.toArray := by
      apply Array.ext'; simp
    have e2 : #[rv] ++ a.toArray = (rv :: a).toArray := by apply Array.ext'; simp
    simp only [invoke, e0, e1, callMethod, Sem.run_bind, run_program, Result.andThen_ok, pureRun_ok hp w, e2]
  · rename_i t x _
    obtain ⟨v, rfl, hv⟩ := VR.iface_iff.1 hf
    cases hi : tinfo E t with
    | none => rw [hi] at h; cases h
    | some info =>
    rw [hi] at h
    simp only [Option.bind_eq_bind, Option.bind_some] at h
    cases hm : info.methods.find? (·.name == name) with
    | none => rw [hm] at h; cases h
    | some m =>
    rw [hm] at h
    simp only [Option.bind_some] at h
    have hgo : ∀ (f : FuncId) (pr : Bool) (d : TypeDesc), m.path.isEmpty = true → m.func = some (f, pr) → tdesc E t = some d → (match d, pr with | .pointer _, true => true | .pointer _, false => false | _, false => true | _, true => false) = true →
        (invoke (.fn (.method name) #[]) (#[.iface t v] ++ a.toArray)).run E.P w = (callFunc f (v :: a).toArray).run E.P w := by
      intro f pr d hpath hfunc hd hok
      have hp : m.path = #[] := by simpa using hpath
      have e0 : (#[Value.iface t v] ++ a.toArray)[0]? = some (.iface t v) := by simp
      have e1 : (#[Value.iface t v] ++ a.toArray).extract 1 (#[Value.iface t v] ++ a.toArray).size = a.toArray := by
        apply Array.ext'; simp
      have e2 : #[v] ++ a.toArray = (v :: a).toArray := by apply Array.ext'; simp
      simp only [invoke, e0, e1, callMethod, Sem.run_bind, run_program, Result.andThen_ok]
      rw [show E.P.types.size + Made.depth = (E.P.types.size + (Made.depth - 1)) + 1 from by simp [Made.depth]]
      simp only [method, Sem.run_bind, run_typeInfo hi, Result.andThen_ok, hm, hp, follow, Sem.run_pure, hfunc, receiverAt, run_underlying hd]
      cases d <;> cases pr <;> first | (cases hok; done) | (simp [Place.get, e2]; done)
    split at h
    · rename_i f e hpath hfunc hd
      cases h
      exact ⟨v :: a, VRL.cons hv ha, hr, hgo f true _ hpath hfunc hd rfl⟩
    · cases h
    · rename_i f d hnp hpath hfunc hd
      cases h
      refine ⟨v :: a, VRL.cons hv ha, hr, hgo f false d hpath hfunc hd ?_⟩
      cases d <;> first | rfl | exact (hnp _ rfl).elim
    · cases h
  · cases h

end
end Go.Rx
set_option linter.unusedVariables false
set_option linter.unusedSimpArgs false
namespace Go.Rx
section
variable {ν : Val} {M : Own} {w0 w : World} {s s' : SH} {E : Env}

theorem run_unsafeString_ints {P : Program} (pt it ty e : TypeId) (hp : P.underlying pt = some (.pointer e)) (hc : P.cellsOf e = 1) (g cells : Nat) (hsh : w.shape? g = some (e, cells)) (l : List Int) (h0 : l ≠ []) (hn : l.length ≤ cells) (h63 : l.length ≤ 9223372036854775807)
    (hcell : ∀ j x, l[j]? = some x → w.cell? ((⟨g, 0, none⟩ : Addr).add j) = some (.int .u8 x)) :
    (Builtin.unsafeString_ #[pt, it] ty #[.pointer (some ⟨g, 0, none⟩), .int .i64 l.length]).run P w = .ok (.string (byteStr l)) (w.freeze ⟨g, 0, none⟩ l.length) := by
  have hl : l.length ≠ 0 := by simpa using h0
  have hlb : (loadBytes ⟨g, 0, none⟩ .empty l.length).run P w = .ok (byteStr l) w := by
    have key : ∀ (l : List Int) (off : Nat) (acc : ByteArray), (∀ j x, l[j]? = some x → w.cell? ⟨g, off + j, none⟩ = some (.int .u8 x)) →
        (loadBytes ⟨g, off, none⟩ acc l.length).run P w = .ok ⟨acc.data ++ (l.map fun n => UInt8.ofNat n.toNat).toArray⟩ w := by
      intro l
      induction l with
      | nil => intro off acc _; simp [loadBytes]
      | cons x l ih =>
        intro off acc h
        have h1 := h 0 x rfl
        rw [Nat.add_zero] at h1
        simp only [List.length_cons, loadBytes, Sem.run_bind]
        rw [run_load_cell h1]
        simp only [Result.andThen_ok, addr_add]
        rw [ih (off + 1) _ (fun j y hy => by
          have := h (j + 1) y (by simpa using hy)
          rw [← this]; congr 2; omega)]
        simp only [ByteArray.push, List.map_cons]
        congr 2
        apply Array.ext'; simp [Nat.toUInt8]
    rw [key l 0 .empty (fun j x hx => by rw [Nat.zero_add]; have := hcell j x hx; rwa [addr_add, Nat.zero_add] at this)]
    have : ByteArray.empty.data = #[] := rfl
    simp [byteStr, this]
  have hlies := Go.Lib.liesAt_bytes (P := P) hc (cells / P.cellsOf e) l.length (by rw [hc]; simpa using hn)
  have h63' : ¬ (9223372036854775807 : Int) < (l.length : Int) := by omega
  obtain ⟨pn, hdef⟩ : ∃ pn : Sem PUnit, Builtin.unsafeString_ #[pt, it] ty #[.pointer (some ⟨g, 0, none⟩), .int .i64 l.length] =
      (do
        let n ← asInt (.int .i64 l.length)
        if n < 0 then pn
        if n > IntKind.i64.max then unsupported (.unsafePointer "String: a length above the largest int")
        if n = 0 then pure (.string .empty)
        else if ← variablesAt ⟨g, 0, none⟩ (← elemOf pt) n.toNat then do
          let s ← loadBytes ⟨g, 0, none⟩ .empty n.toNat
          freeze ⟨g, 0, none⟩ n.toNat
          pure (.string s)
        else unsupported (.unsafePointer "String: not so many bytes at ptr")) := ⟨_, rfl⟩
  rw [hdef]
  have hmax : IntKind.i64.max = 9223372036854775807 := rfl
  have hneg : ¬ (l.length : Int) < 0 := by omega
  simp [asInt, asIntOf, hmax, h63', hneg, hl, variablesAt, hsh, elemOf, Go.run_underlying hp, hlies, hlb]

theorem run_unsafeSliceData {P : Program} {ats : Array TypeId} {ty : TypeId} {a : Addr} {l c : Nat} (hc : c ≠ 0) : (Builtin.unsafeSliceData_ ats ty #[.slice (some a) l c]).run P w = .ok (.pointer (some a)) w := by
  have hdef : Builtin.unsafeSliceData_ ats ty #[.slice (some a) l c] = (if c ≠ 0 then pure (.pointer (some a)) else do
      if (← viewAt a.block).isSome then pure (.pointer (some a))
      else pure (.pointer (some ⟨← newObj (.view a (← elemOf ty)), 0, none⟩))) := rfl
  rw [hdef, if_pos hc]; rfl

theorem ats_eq {ats : Array TypeId} {l : List TypeId} (h : ats.toList = l) : ats = l.toArray := by
  apply Array.ext'; simpa using h

theorem sLen1_ok {t : TypeId} {ats : Array TypeId} {ty : TypeId} {x y : SV} {xv : Value} (h : sLen1 E t x s = some y) (a0 : ats[0]? = some t) (hx : VR ν x xv) (hr : HR ν M w0 s w) :
    ∃ yv, (Builtin.len_ ats ty #[xv]).run E.P w = .ok yv w ∧ VR ν y yv := by
  have b0 : (#[xv] : Array Value)[0]? = some xv := rfl
  unfold sLen1 at h
  split at h
  · rename_i e i off n cap hd
    cases h
    obtain ⟨c, _, _, rfl⟩ := VR.sl_iff.1 hx
    refine ⟨.int .i64 n, ?_, VR.v_iff.2 rfl⟩
    simp only [Builtin.len_, a0, b0, Sem.run_bind, run_underlying hd, Result.andThen_ok, Sem.run_pure, goInt]
  · rename_i e i off n adv hd
    cases h
    obtain ⟨c, _, rfl⟩ := VR.fin_iff.1 hx
    refine ⟨.int .i64 0, ?_, VR.v_iff.2 rfl⟩
    simp only [Builtin.len_, a0, b0, Sem.run_bind, run_underlying hd, Result.andThen_ok, Sem.run_pure, goInt]
    rfl
  · rename_i k e i hd
    obtain ⟨c, hc, rfl⟩ := VR.map_iff.1 hx
    split at h
    · rename_i es clock own hl
      cases h
      obtain ⟨_, _, c', o, hc', ho, hor, _⟩ := hr.look hl
      rw [hc] at hc'; cases hc'
      obtain ⟨l, rfl, hent⟩ := hor
      refine ⟨.int .i64 es.length, ?_, VR.v_iff.2 rfl⟩
      simp only [Builtin.len_, a0, b0, Sem.run_bind, run_underlying hd, Result.andThen_ok, run_getObj_map ho, Sem.run_pure, goInt, List.size_toArray, hent.length]
    · cases h
  · cases h

theorem sCap1_ok {t : TypeId} {ats : Array TypeId} {ty : TypeId} {x y : SV} {xv : Value} (h : sCap1 E t x = some y) (a0 : ats[0]? = some t) (hx : VR ν x xv) :
    ∃ yv, (Builtin.cap_ ats ty #[xv]).run E.P w = .ok yv w ∧ VR ν y yv := by
  have b0 : (#[xv] : Array Value)[0]? = some xv := rfl
  unfold sCap1 at h
  split at h
  · rename_i e i off len n hd
    cases h
    obtain ⟨c, _, _, rfl⟩ := VR.sl_iff.1 hx
    refine ⟨.int .i64 n, ?_, VR.v_iff.2 rfl⟩
    simp only [Option.getD_some] at b0 ⊢
    simp only [Builtin.cap_, a0, b0, Sem.run_bind, run_underlying hd, Result.andThen_ok, Sem.run_pure, goInt]
  · cases h

theorem sUnsafeStringQ_ok {pt it ty : TypeId} {x n y : SV} {b : ByteArray} {xv nv : Value} (h : sUnsafeStringQ E pt x n b s = some (y, s')) (hr : HR ν M w0 s w) (hx : VR ν x xv) (hn : VR ν n nv) :
    s'.ob → s.ob ∧ GoodV E.P (Builtin.unsafeString_ #[pt, it] ty #[xv, nv]) ν M w0 w y s' := by
  unfold sUnsafeStringQ at h
  split at h
  · rename_i i n
    obtain ⟨c, hc, rfl⟩ := VR.ptr_iff.1 hx
    obtain rfl := VR.v_iff.1 hn
    split at h
    · rename_i e xs el ext hd hl
      cases hg : (e == el && Nat.beq (E.P.cellsOf e) 1)
      · rw [hg] at h; cases h
      rw [hg] at h; cases h
      rw [Bool.and_eq_true] at hg
      obtain rfl : e = el := by simpa using hg.1
      have g4 := Nat.eq_of_beq_eq_true hg.2
      intro ob
      have ob : (s.owe ((0 < n ∧ n ≤ 2 ^ 40) ∧ n.toNat ≤ xs.length ∧ xs.take n.toNat = b.data.toList.map fun c => SV.v (.int .u8 c.toNat))).ob := ob
      obtain ⟨ob0, g1, g2, htk⟩ := ob
      have hr1 := hr.same (SH.owe_same s ((0 < n ∧ n ≤ 2 ^ 40) ∧ n.toNat ≤ xs.length ∧ xs.take n.toNat = b.data.toList.map fun c => SV.v (.int .u8 c.toNat)))
      obtain ⟨_, _, c', o, hc', ho, hor, _⟩ := hr.look hl
      rw [hc] at hc'; cases hc'
      obtain ⟨ys, rest, rfl, hvl, hext⟩ := hor
      have hlen := hvl.length
      have hv := hvl.take n.toNat
      rw [htk] at hv
      have hns := bytes_VRL hv
      generalize hnsdef : (b.data.toList.map fun c => (c.toNat : Int)) = ns at hns
      have hnl : ns.length = n.toNat := by
        have := congrArg List.length hns
        simp at this; omega
      refine ⟨ob0, ν, (w.freeze ⟨c.1, 0, none⟩ ns.length), .string b, Val.Le.refl _, ?_, VR.v_iff.2 rfl, ?_⟩
      · have hrun := run_unsafeString_ints (P := E.P) (w := w) pt it ty e hd g4 c.1 (ys ++ rest).toArray.size (shape_at ho) ns (by intro e; rw [e] at hnl; simp at hnl; omega) (by simp; omega) (by omega) (by
          intro j x hj
          rw [addr_add, Nat.zero_add, cell_at ho]
          have hj' : (ns.map (Value.int .u8))[j]? = some (.int .u8 x) := by simp [hj]
          rw [← hns, List.getElem?_take] at hj'
          split at hj'
          · simpa using getElem?_append_left' hj'
          · cases hj')
        have hnn : (n : Int) = (ns.length : Int) := by omega
        rw [hnn]
        have e : byteStr ns = b := by rw [← hnsdef, byteStr_bytes]
        rw [e] at hrun; exact hrun
      · refine hr1.put hl hc (o := .row xs e (0, n.toNat) ext) (r := .cells (ys ++ rest).toArray e (0, n.toNat)) ⟨ys, rest, ?_, hvl, hext⟩ ?_ ?_ ?_ ?_
        · have : fzReal (0, n.toNat) (ys ++ rest).length = (0, n.toNat) := rfl
          rw [this]
        · have hn0 : ns.length ≠ 0 := by omega
          unfold World.freeze
          rw [if_neg hn0]
          apply Array.ext_getElem?
          intro j
          rw [Array.getElem?_modify, Array.getElem?_setIfInBounds]
          have h1 := (Array.getElem?_eq_some_iff.1 ho).1
          have h2 := (Array.getElem?_eq_some_iff.1 ho).2
          split
          · rename_i ej
            subst ej
            simp [h1, h2, hnl]
          · rfl
        all_goals (unfold World.freeze; split <;> rfl)
    · cases h
  · cases h

theorem sBuiltin_ok {b : Builtin} {ats : Array TypeId} {args : List SV} {a : List Value} {x : SV} {ty : TypeId} {cs : Array Bool} (h : sBuiltin E b ats args s = some (x, s')) (ha : VRL ν args a) (hr : HR ν M w0 s w) :
    s'.ob → s.ob ∧ OpGood E (builtin b ats ty cs a.toArray) ν M w0 w (.val x) s' := by
  have one : ∀ {z : SV}, VRL ν [z] a → ∃ y, a = [y] ∧ VR ν z y := by
    intro z ha
    obtain ⟨y, ys, rfl, hy, hys⟩ := ha.cons_inv
    rw [hys.nil_inv]; exact ⟨y, rfl, hy⟩
  have two : ∀ {z u : SV}, VRL ν [z, u] a → ∃ y v, a = [y, v] ∧ VR ν z y ∧ VR ν u v := by
    intro z u ha
    obtain ⟨y, ys, rfl, hy, hys⟩ := ha.cons_inv
    obtain ⟨v, vs, rfl, hv, hvs⟩ := hys.cons_inv
    rw [hvs.nil_inv]; exact ⟨y, v, rfl, hy, hv⟩
  unfold sBuiltin at h
  split at h
  · -- len
    split at h
    · rename_i t ts z hats
      cases hz : sLen1 E t z s with
      | none => rw [hz] at h; cases h
      | some y0 =>
      rw [hz] at h; cases h
      obtain ⟨y, rfl, hy⟩ := one ha
      obtain ⟨yv, hrun, hv⟩ := sLen1_ok (ats := ats) (ty := ty) hz (by rw [ats_eq hats]; simp) hy hr
      exact fun ob => ⟨ob, OpGood.ofV (GoodV.now hr hrun hv)⟩
    · cases h
  · -- cap
    split at h
    · rename_i t ts z hats
      cases hz : sCap1 E t z with
      | none => rw [hz] at h; cases h
      | some y0 =>
      rw [hz] at h; cases h
      obtain ⟨y, rfl, hy⟩ := one ha
      obtain ⟨yv, hrun, hv⟩ := sCap1_ok (w := w) (ats := ats) (ty := ty) hz (by rw [ats_eq hats]; simp) hy
      exact fun ob => ⟨ob, OpGood.ofV (GoodV.now hr hrun hv)⟩
    · cases h
  · -- append
    split at h
    · rename_i st xt x0 y0 hats
      obtain ⟨y, z, rfl, hy, hz⟩ := two ha
      intro ob
      obtain ⟨ob0, hg⟩ := sAppend_ok (ty := ty) h hr hy hz ob
      rw [ats_eq hats]
      exact ⟨ob0, OpGood.ofV hg⟩
    · cases h
  · -- copy
    split at h
    · rename_i dt ts x0 y0 hats
      obtain ⟨y, z, rfl, hy, hz⟩ := two ha
      intro ob
      obtain ⟨hob, hg⟩ := sCopy_ok (ty := ty) (rest := ts) h hr hy hz
      rw [ats_eq hats]
      exact ⟨hob ▸ ob, OpGood.ofV hg⟩
    · cases h
  · -- delete
    split at h
    · rename_i t t' m k hats
      obtain ⟨y, z, rfl, hy, hz⟩ := two ha
      intro ob
      obtain ⟨ob0, hg⟩ := sDelete_ok (ty := ty) (rest := [t']) h hr hy hz ob
      rw [ats_eq hats]
      exact ⟨ob0, OpGood.ofV hg⟩
    · cases h
  · -- a slice's data
    split at h
    · rename_i z
      obtain ⟨y, rfl, hy⟩ := one ha
      unfold sUnsafeData at h
      split at h
      · rename_i i off len c
        obtain ⟨d, hd, _, rfl⟩ := VR.sl_iff.1 hy
        cases hask : s.ask E (!(c == 0)) with
        | none => rw [hask] at h; cases h
        | some s1 =>
        rw [hask] at h; cases h
        obtain ⟨hsame, hob⟩ := SH.ask_ok hask
        intro ob
        have hc : c ≠ 0 := by simpa using (hob ob).2
        exact ⟨(hob ob).1, OpGood.ofV (GoodV.now (hr.same hsame) (y := .pointer (some ⟨d.1, off, none⟩)) (run_unsafeSliceData hc) (VR.ptr_iff.2 ⟨d, hd, rfl⟩))⟩
      · rename_i i len
        obtain ⟨d, hd, hle, rfl⟩ := VR.sl_iff.1 hy
        cases hask : s.ask E (!(len == 0)) with
        | none => rw [hask] at h; cases h
        | some s1 =>
        rw [hask] at h; cases h
        obtain ⟨hsame, hob⟩ := SH.ask_ok hask
        intro ob
        have hc : len ≠ 0 := by simpa using (hob ob).2
        simp only [Option.getD_none] at hle
        have hd2 : d.2 ≠ 0 := by omega
        exact ⟨(hob ob).1, OpGood.ofV (GoodV.now (hr.same hsame) (y := .pointer (some ⟨d.1, 0, none⟩)) (run_unsafeSliceData hd2) (VR.ptr_iff.2 ⟨d, hd, rfl⟩))⟩
      · cases h
    · cases h
  · -- a text of bytes
    split at h
    · rename_i pt it x0 n0 hats
      obtain ⟨y, z, rfl, hy, hz⟩ := two ha
      unfold sUnsafeString at h
      split at h
      · intro ob
        obtain ⟨ob0, hg⟩ := sUnsafeStringQ_ok (ty := ty) (it := it) h hr hy hz ob
        rw [ats_eq hats]
        exact ⟨ob0, OpGood.ofV hg⟩
      unfold sUnsafeString0 at h
      split at h
      · rename_i i n
        obtain ⟨c, hc, rfl⟩ := VR.ptr_iff.1 hy
        obtain rfl := VR.v_iff.1 hz
        split at h
        · rename_i e xs el ext hd hl
          cases hg : guard' (decide (0 < n ∧ n ≤ 2 ^ 40) && Nat.ble n.toNat xs.length && e == el && Nat.beq (E.P.cellsOf e) 1) with
          | none => rw [hg] at h; cases h
          | some u =>
          rw [hg] at h
          simp only [Option.bind_eq_bind, Option.bind_some] at h
          cases hb : bytesOf (xs.take n.toNat) with
          | none => rw [hb] at h; cases h
          | some ns =>
          rw [hb] at h; cases h
          have hg := guard_ok hg
          rw [Bool.and_eq_true, Bool.and_eq_true, Bool.and_eq_true] at hg
          obtain ⟨⟨⟨g1, g2⟩, g3⟩, g4⟩ := hg
          have g1 := of_decide_eq_true g1
          have g2 := Nat.le_of_ble_eq_true g2
          obtain rfl : e = el := by simpa using g3
          have g4 := Nat.eq_of_beq_eq_true g4
          obtain ⟨_, _, c', o, hc', ho, hor, _⟩ := hr.look hl
          rw [hc] at hc'; cases hc'
          obtain ⟨ys, rest, rfl, hvl, hext⟩ := hor
          have hlen := hvl.length
          have hns := bytesOf_ok hb (hvl.take n.toNat)
          have hnl : ns.length = n.toNat := by
            have := congrArg List.length hns
            simp at this; omega
          intro ob
          refine ⟨ob, OpGood.ofV ⟨ν, (w.freeze ⟨c.1, 0, none⟩ ns.length), .string (byteStr ns), Val.Le.refl _, ?_, VR.v_iff.2 rfl, ?_⟩⟩
          · have hrun := run_unsafeString_ints (P := E.P) (w := w) pt it ty e hd g4 c.1 (ys ++ rest).toArray.size (shape_at ho) ns (by intro e; rw [e] at hnl; simp at hnl; omega) (by simp; omega) (by omega) (by
              intro j x hj
              rw [addr_add, Nat.zero_add, cell_at ho]
              have hj' : (ns.map (Value.int .u8))[j]? = some (.int .u8 x) := by simp [hj]
              rw [← hns, List.getElem?_take] at hj'
              split at hj'
              · simpa using getElem?_append_left' hj'
              · cases hj')
            rw [ats_eq hats]
            have hnn : (n : Int) = (ns.length : Int) := by omega
            rw [hnn]; exact hrun
          · refine hr.put hl hc (o := .row xs e (0, n.toNat) ext) (r := .cells (ys ++ rest).toArray e (0, n.toNat)) ⟨ys, rest, ?_, hvl, hext⟩ ?_ ?_ ?_ ?_
            · have : fzReal (0, n.toNat) (ys ++ rest).length = (0, n.toNat) := rfl
              rw [this]
            · have hn0 : ns.length ≠ 0 := by omega
              unfold World.freeze
              rw [if_neg hn0]
              apply Array.ext_getElem?
              intro j
              rw [Array.getElem?_modify, Array.getElem?_setIfInBounds]
              have h1 := (Array.getElem?_eq_some_iff.1 ho).1
              have h2 := (Array.getElem?_eq_some_iff.1 ho).2
              split
              · rename_i ej
                subst ej
                simp [h1, h2, hnl]
              · rfl
            all_goals (unfold World.freeze; split <;> rfl)
        · cases h
      · cases h
    · cases h
  · cases h

end
end Go.Rx
set_option linter.unusedVariables false
set_option linter.unusedSimpArgs false
namespace Go.Rx
section
variable {ν : Val} {M : Own} {w0 w : World} {s s' : SH} {E : Env}

/-- One of the ways that are told is the one that is gone. -/
def OpOut (E : Env) (g : Sem Next) (ν : Val) (M : Own) (w0 w : World) (s : SH) (L : List (SNext × SH)) : Prop :=
  ∃ p ∈ L, p.2.ob → s.ob ∧ OpGood E g ν M w0 w p.1 p.2

theorem OpOut.one {g : Sem Next} {n : SNext} (h : s'.ob → s.ob ∧ OpGood E g ν M w0 w n s') : OpOut E g ν M w0 w s [(n, s')] := ⟨_, List.mem_singleton.2 rfl, h⟩

theorem OpGood.nowV {g : Sem Value} {x : SV} {y : Value} (hr : HR ν M w0 s' w) (h : g.run E.P w = .ok y w) (hx : VR ν x y) : OpGood E (do pure (.value (← g))) ν M w0 w (.val x) s' :=
  OpGood.ofV (GoodV.now hr h hx)

theorem OpGood.value {x : SV} {y : Value} (hr : HR ν M w0 s' w) (hx : VR ν x y) : OpGood E (pure (.value y)) ν M w0 w (.val x) s' :=
  ⟨ν, w, y, Val.Le.refl _, .inl rfl, hx, hr⟩

theorem parts_ok {tm : STm} {ρ : Operand → Value} (hρ : OpdR E ν tm ρ) : ∀ (l : List (Nat × Operand)), PartsR ν (l.map fun (i, x) => (i, evalOpd E tm x)) (l.map fun (i, x) => (i, ρ x))
  | [] => .nil
  | (_, x) :: l => .cons (hρ x) (parts_ok hρ l)

theorem opt_ok {tm : STm} {ρ : Operand → Value} (hρ : OpdR E ν tm ρ) : ∀ (o : Option Operand), OptR ν (o.map (evalOpd E tm)) (o.map ρ)
  | none => .none
  | some x => .some (hρ x)

theorem SV.tuple_ok {x : SV} {l : List SV} {y : Value} (h : x.tuple = some l) (hv : VR ν x y) : ∃ a : List Value, y = .tuple a.toArray ∧ VRL ν l a := by
  unfold SV.tuple at h
  split at h
  · cases h; exact VR.tup_iff.1 hv
  · rename_i vs
    cases h; obtain rfl := VR.v_iff.1 hv; exact ⟨vs.toList, by simp, VRL.lits ν _⟩
  · cases h

theorem arr_map {α β : Type} (l : Array α) (f : α → β) : l.map f = (l.toList.map f).toArray := by
  apply Array.ext'; simp

theorem deferFn_ok {f : SV} {fv : Value} {args : List SV} {a : List Value} {d : SDef} (h : deferFn f args = some d) (hf : VR ν f fv) (ha : VRL ν args a) :
    ∃ dv, DefR ν d dv ∧ Deferred.ofValue fv a.toArray = pure dv := by
  unfold deferFn at h
  split at h
  · rename_i g x y
    cases h
    obtain rfl := VR.v_iff.1 hf
    refine ⟨_, ⟨y.toList, x.toList ++ a, rfl, VRL.toList ν y, (VRL.toList ν x).append ha⟩, ?_⟩
    simp only [Deferred.ofValue]
    congr 2
    · apply Array.ext'; simp
  · rename_i g x y
    cases h
    obtain ⟨x', y', rfl, hx, hy⟩ := VR.func_iff.1 hf
    refine ⟨_, ⟨y', x' ++ a, rfl, hy, hx.append ha⟩, ?_⟩
    simp only [Deferred.ofValue]
    congr 2
    · apply Array.ext'; simp
  · cases h

theorem strAdd_ok {x y : SV} {xv yv : Value} {op : BinOp} {soft : Bool} {a b : ByteArray} (h : strAdd x y op soft = some (a, b)) (hx : VR ν x xv) (hy : VR ν y yv) : xv = .string a ∧ yv = .string b ∧ op = .add := by
  unfold strAdd at h
  split at h
  · cases h
    exact ⟨VR.v_iff.1 hx, VR.v_iff.1 hy, rfl⟩
  · cases h

theorem strAdd_run {P : Program} (w : World) (t : TypeId) (x y : Operand) {a b : ByteArray} (h : a.size + b.size ≤ 9223372036854775807) :
    (do eqGuard .add t x y (.string a) (.string b); binOp .add t (.string a) (.string b)).run P w = .ok (.string (a ++ b)) w := by
  have hn : ¬ (((a.size + b.size : Nat) : Int) > IntKind.i64.max) := by
    have : IntKind.i64.max = 9223372036854775807 := rfl
    rw [this]; omega
  simp [eqGuard, binOp, Op.stringOp, hn]
  omega

theorem sOp_ok {tm : STm} {o : Oper} {L : List (SNext × SH)} {ρ : Operand → Value} (h : sOp E tm o s = some L) (hr : HR ν M w0 s w) (hρ : OpdR E ν tm ρ) :
    OpOut E (execOp ρ o) ν M w0 w s L := by
  have vV : ∀ {x : Option SV} {g : Sem Value}, (x.map fun x => [(SNext.val x, s)]) = some L → (∀ x0, x = some x0 → ∃ y, g.run E.P w = .ok y w ∧ VR ν x0 y) → OpOut E (do pure (.value (← g))) ν M w0 w s L := by
    intro x g h hg
    cases x with
    | none => cases h
    | some x0 =>
      cases h
      obtain ⟨y, hrun, hy⟩ := hg x0 rfl
      exact .one fun ob => ⟨ob, .nowV hr hrun hy⟩
  have vsV : ∀ {x : Option (SV × SH)} {g : Sem Value}, (x.map fun x => [(SNext.val x.1, x.2)]) = some L → (∀ x0 s', x = some (x0, s') → s'.ob → s.ob ∧ GoodV E.P g ν M w0 w x0 s') → OpOut E (do pure (.value (← g))) ν M w0 w s L := by
    intro x g h hg
    cases x with
    | none => cases h
    | some p =>
      obtain ⟨x0, s'⟩ := p
      cases h
      exact .one fun ob => ⟨(hg x0 s' rfl ob).1, .ofV (hg x0 s' rfl ob).2⟩
  have uV : ∀ {x : Option SH} {g : Sem Unit}, (x.map fun s => [(SNext.val (.v undef), s)]) = some L → (∀ s', x = some s' → s'.ob → s.ob ∧ GoodU E.P g ν M w0 w s') → OpOut E (do g; pure .skip) ν M w0 w s L := by
    intro x g h hg
    cases x with
    | none => cases h
    | some s' => cases h; exact .one fun ob => ⟨(hg s' rfl ob).1, .ofU (hg s' rfl ob).2⟩
  have pureV : ∀ (hk : pureKind o.op = true), ((sPure E tm o).map fun x => [(SNext.val x, s)]) = some L → OpOut E (execOp ρ o) ν M w0 w s L := by
    intro hk h
    cases hp : sPure E tm o with
    | none => rw [hp] at h; cases h
    | some x => rw [hp] at h; cases h; exact .one fun ob => ⟨ob, sPure_ok hk hp hρ hr⟩
  obtain ⟨dst, op, type, pos, aft, guard⟩ := o
  cases op with
  | move x => cases h; exact .one fun ob => ⟨ob, .value hr (hρ x)⟩
  | assign x => cases h; exact .one fun ob => ⟨ob, .value hr (hρ x)⟩
  | pick c a b =>
    simp only [sOp] at h
    split at h
    · rename_i t hc
      have hcv := hρ c
      rw [hc] at hcv
      have hcv := VR.v_iff.1 hcv
      cases hdec : s.dec E t with
      | mk u s1 =>
      rw [hdec] at h
      cases h
      obtain ⟨hsame, hob⟩ := SH.dec_ok hdec
      refine .one fun ob => ⟨(hob ob).1, ν, w, if u = true then ρ a else ρ b, Val.Le.refl _, .inl ?_, ?_, hr.same hsame⟩
      · have := (hob ob).2
        simp [execOp, hcv, asBool, this]
      · cases u
        · exact hρ b
        · exact hρ a
    · cases h
  | alloc t =>
    exact vsV h fun x0 s' e ob => by
      obtain ⟨h1, h2⟩ := sAlloc_ok (E := E) e hr
      exact ⟨h1 ▸ ob, h2⟩
  | box t x =>
    exact vsV h fun x0 s' e ob => by
      obtain ⟨h1, h2⟩ := sBox_ok (E := E) e hr (hρ x)
      exact ⟨h1 ▸ ob, h2⟩
  | build t ps =>
    refine vV h fun x0 e => ?_
    have := sBuild_ok (w := w) e (parts_ok hρ ps.toList)
    rw [arr_map]; exact this
  | buildSlice t n ps =>
    refine vsV h fun x0 s' e ob => ?_
    obtain ⟨h1, h2⟩ := sBuildSlice_ok e hr (parts_ok hρ ps.toList)
    refine ⟨h1 ▸ ob, ?_⟩
    rw [arr_map]; exact h2
  | insert t m k x => exact uV h fun s' e ob => sMapUpdate_ok e hr (hρ m) (hρ k) (hρ x) ob
  | load t a =>
    refine vsV h fun x0 s' e ob => ?_
    obtain ⟨hsame, hg⟩ := sLoad_ok e hr (hρ a)
    obtain ⟨ob0, y, hrun, hy⟩ := hg ob
    exact ⟨ob0, GoodV.now (hr.same hsame) hrun hy⟩
  | store t a x =>
    refine uV h fun s' e ob => ?_
    exact sStore_ok e hr (hρ a) (hρ x) ob
  | ready g => cases h
  | waits g => cases h
  | nilCheck x =>
    have hx := hρ x
    simp only [sOp] at h
    split at h
    · rename_i i off hc
      rw [hc] at hx
      cases h
      obtain ⟨b, hb, he⟩ := VR.ptr_iff.1 hx
      refine .one fun ob => ⟨ob, ν, w, ρ x, Val.Le.refl _, .inl ?_, hx, hr⟩
      simp only [execOp, he, Sem.run_pure]
    · rename_i t y hc
      rw [hc] at hx
      cases h
      obtain ⟨b, he, hb⟩ := VR.iface_iff.1 hx
      refine .one fun ob => ⟨ob, ν, w, ρ x, Val.Le.refl _, .inl ?_, hx, hr⟩
      simp only [execOp, he, Sem.run_pure]
    · rename_i f a b hc
      rw [hc] at hx
      cases h
      obtain ⟨a', b', he, _⟩ := VR.func_iff.1 hx
      refine .one fun ob => ⟨ob, ν, w, ρ x, Val.Le.refl _, .inl ?_, hx, hr⟩
      simp only [execOp, he, Sem.run_pure]
    · rename_i i hc
      rw [hc] at hx
      cases h
      obtain ⟨b, hb, he⟩ := VR.yield_iff.1 hx
      refine .one fun ob => ⟨ob, ν, w, ρ x, Val.Le.refl _, .inl ?_, hx, hr⟩
      simp only [execOp, he, Sem.run_pure]
    · rename_i f a b hc
      rw [hc] at hx
      cases h
      have he := VR.v_iff.1 hx
      refine .one fun ob => ⟨ob, ν, w, ρ x, Val.Le.refl _, .inl ?_, hx, hr⟩
      simp only [execOp, he, Sem.run_pure]
    · cases h
  | binOp op t x y yt =>
    simp only [sOp] at h
    split at h
    · rename_i r he
      cases h
      obtain ⟨p, hs, hrun⟩ := sEqS_ok (r := r.1) (s' := r.2) he (hρ x) (hρ y)
      refine .one fun ob => ?_
      rw [hs] at ob
      obtain ⟨ob0, hp⟩ := ob
      refine ⟨ob0, ?_⟩
      rw [hs]
      exact .nowV (hr.same (SH.owe_same _ _)) (y := .bool r.1) (hrun _ _ _ hp) (VR.v_iff.2 rfl)
    split at h
    · rename_i a b hab
      cases h
      refine .one fun ob => ?_
      obtain ⟨ob0, hle⟩ := ob
      obtain ⟨hx, hy, rfl⟩ := strAdd_ok hab (hρ x) (hρ y)
      refine ⟨ob0, .nowV (hr.same (SH.owe_same _ _)) (y := .string (a ++ b)) ?_ (VR.v_iff.2 rfl)⟩
      rw [hx, hy]; exact strAdd_run w t x y hle
    split at h
    · exact pureV rfl h
    · have ef : ∀ (r : Bool) (s' : SH), sEql E t (evalOpd E tm x) (evalOpd E tm y) s = some (r, s') → _ := fun r s' e => sEql_ok (w := w) e (hρ x) (hρ y)
      split at h
      · cases he : sEql E t (evalOpd E tm x) (evalOpd E tm y) s with
        | none =>
          rw [he] at h
          cases hfar : sEqlFar E t (evalOpd E tm x) (evalOpd E tm y) s
          · rw [hfar] at h; exact pureV rfl h
          · rw [hfar] at h
            simp only [cond_true] at h
            cases h
            obtain ⟨h1, h2, h3, _⟩ := sEqlFar_ok hfar hr (hρ x) (hρ y)
            refine .one fun ob => ⟨ob, .nowV hr (y := .bool false) ?_ (VR.v_iff.2 rfl)⟩
            simp only [Sem.run_bind, h2, Result.andThen_ok, h3, h1, Sem.run_pure]
        | some p =>
          obtain ⟨r, s1⟩ := p
          rw [he] at h; cases h
          obtain ⟨rfl, h1, h2, h3, _⟩ := ef r s1 he
          refine .one fun ob => ⟨ob, .nowV hr (y := .bool r) ?_ (VR.v_iff.2 rfl)⟩
          simp only [Sem.run_bind, h2, Result.andThen_ok, h3, h1, Sem.run_pure]
      · cases he : sEql E t (evalOpd E tm x) (evalOpd E tm y) s with
        | none =>
          rw [he] at h
          cases hfar : sEqlFar E t (evalOpd E tm x) (evalOpd E tm y) s
          · rw [hfar] at h; exact pureV rfl h
          · rw [hfar] at h
            simp only [cond_true] at h
            cases h
            obtain ⟨h1, h2, _, h3⟩ := sEqlFar_ok hfar hr (hρ x) (hρ y)
            refine .one fun ob => ⟨ob, .nowV hr (y := .bool true) ?_ (VR.v_iff.2 rfl)⟩
            simp only [Sem.run_bind, h2, Result.andThen_ok, h3, h1, Sem.run_pure, Bool.not_false]
        | some p =>
          obtain ⟨r, s1⟩ := p
          rw [he] at h; cases h
          obtain ⟨rfl, h1, h2, _, h3⟩ := ef r s1 he
          refine .one fun ob => ⟨ob, .nowV hr (y := .bool !r) ?_ (VR.v_iff.2 rfl)⟩
          simp only [Sem.run_bind, h2, Result.andThen_ok, h3, h1, Sem.run_pure]
      · cases h
  | unOp op t x => exact pureV rfl h
  | convert src dst x =>
    simp only [sOp] at h
    split at h
    · rename_i r hc
      refine vsV (x := some r) h fun x0 s' e ob => ?_
      cases e
      exact sConvert_ok hc hr (hρ x) ob
    · split at h
      · exact pureV rfl h
      · cases h
  | sliceToArrayPointer dst x => cases h
  | makeInterface t x =>
    simp only [sOp] at h
    split at h
    · cases h
    · rename_i d hnd hd
      refine vV (x := some _) h fun x0 e => ?_
      cases e
      refine ⟨.iface t (ρ x), ?_, VR.iface_iff.2 ⟨_, rfl, hρ x⟩⟩
      simp only [Instr.makeInterface, Sem.run_bind, run_underlying (by assumption), Result.andThen_ok]
      cases d <;> first | rfl | exact (hnd _ rfl).elim
    · cases h
  | makeFunc fn a b =>
    simp only [sOp] at h
    split at h
    · refine vV (x := some _) h fun x0 e => ?_
      cases e
      refine ⟨_, rfl, VR.func_iff.2 ⟨_, _, ?_, mapOpd_ok hρ a, mapOpd_ok hρ b⟩⟩
      rw [arr_map a, arr_map b]
    · cases h
  | makeMap t r =>
    cases r with
    | some r => cases h
    | none =>
      simp only [sOp] at h
      cases hn : sNew (.map [] 0) s with
      | none => rw [hn] at h; cases h
      | some p =>
        obtain ⟨i, s1⟩ := p
        rw [hn] at h; cases h
        obtain ⟨hob, ν', hle, hi, hr'⟩ := sNew_ok hn hr 0 (r := .map #[] 0) (fun _ _ _ => ⟨[], rfl, rfl⟩)
        refine .one fun ob => ⟨hob ▸ ob, .ofV ⟨ν', _, _, hle, ?_, VR.map_iff.2 ⟨_, hi, rfl⟩, hr'⟩⟩
        simp only [Instr.makeMap, Option.map_none, Sem.run_bind, run_newObj, Result.andThen_ok, Sem.run_pure]
  | makeChan t x => cases h
  | makeSlice t l c =>
    exact vsV h fun x0 s' e ob => by
      obtain ⟨h1, h2⟩ := sMakeSlice_ok e hr (hρ l) (hρ c)
      exact ⟨h1 ▸ ob, h2⟩
  | slice t x lo hi mx =>
    simp only [sOp] at h
    split at h
    · rename_i r hc
      refine vsV (x := some r) h fun x0 s' e ob => ?_
      cases e
      obtain ⟨hsame, hg⟩ := sSlice_ok (w := w) hc (hρ x) (opt_ok hρ lo) (opt_ok hρ hi) (opt_ok hρ mx)
      obtain ⟨ob0, y, hrun, hy⟩ := hg ob
      exact ⟨ob0, GoodV.now (hr.same hsame) hrun hy⟩
    · split at h
      · rename_i l hl
        cases h
        obtain ⟨p, hp, hsame, hg⟩ := sSliceB_ok (w := w) hl (hρ x) (opt_ok hρ lo) (opt_ok hρ hi) (opt_ok hρ mx)
        refine ⟨_, List.mem_map.2 ⟨p, hp, rfl⟩, fun ob => ?_⟩
        obtain ⟨ob0, y, hrun, hy⟩ := hg ob
        exact ⟨ob0, .ofV (GoodV.now (hr.same hsame) hrun hy)⟩
      split at h
      · exact pureV rfl h
      · cases h
  | fieldAddr t x f => exact vV h fun x0 e => sFieldAddr_ok e (hρ x)
  | field t x f =>
    simp only [sOp] at h
    split at h
    · exact pureV rfl h
    · exact vV h fun x0 e => sField_ok e (hρ x)
  | indexAddr t x i =>
    refine vsV h fun x0 s' e ob => ?_
    obtain ⟨hsame, hg⟩ := sIndexAddr_ok (w := w) e (hρ x) (hρ i)
    obtain ⟨ob0, y, hrun, hy⟩ := hg ob
    exact ⟨ob0, GoodV.now (hr.same hsame) hrun hy⟩
  | index t x i =>
    refine vsV h fun x0 s' e ob => ?_
    obtain ⟨hsame, hg⟩ := sIndex_ok (w := w) e (hρ x) (hρ i)
    obtain ⟨ob0, y, hrun, hy⟩ := hg ob
    exact ⟨ob0, GoodV.now (hr.same hsame) hrun hy⟩
  | lookup t m k ok =>
    refine vsV h fun x0 s' e ob => ?_
    obtain ⟨hsame, hg⟩ := sLookup_ok e hr (hρ m) (hρ k)
    obtain ⟨ob0, y, hrun, hy⟩ := hg ob
    exact ⟨ob0, GoodV.now (hr.same hsame) hrun hy⟩
  | mapUpdate t m k x => exact uV h fun s' e ob => sMapUpdate_ok e hr (hρ m) (hρ k) (hρ x) ob
  | mapEntry t m k => exact vsV h fun x0 s' e ob => sMapEntry_ok e hr (hρ m) (hρ k) ob
  | entryStore t m st x =>
    refine uV h fun s' e ob => ?_
    obtain ⟨h1, h2⟩ := sEntryStore_ok (t := t) e hr (hρ m) (hρ st) (hρ x)
    exact ⟨h1 ▸ ob, h2⟩
  | range t x =>
    refine vsV h fun x0 s' e ob => ?_
    obtain ⟨h1, h2⟩ := sRange_ok e hr (hρ x)
    exact ⟨h1 ▸ ob, h2⟩
  | next it b =>
    simp only [sOp] at h
    cases hn : sNextIt (evalOpd E tm it) b s with
    | none => rw [hn] at h; cases h
    | some l =>
      rw [hn] at h; cases h
      obtain ⟨p, hp, hob, hg⟩ := sNextIt_ok (ty := type) hn hr (hρ it)
      exact ⟨_, List.mem_map.2 ⟨p, hp, rfl⟩, fun ob => ⟨hob ▸ ob, .ofV hg⟩⟩
  | typeAssert x xt at_ ok =>
    simp only [sOp] at h
    split at h
    · exact pureV rfl h
    · exact vV h fun x0 e => sTypeAssert_ok (xt := xt) e (hρ x)
  | entry it =>
    simp only [sOp] at h
    split at h
    · rename_i r he
      cases h
      obtain ⟨hsame, hq⟩ := sEntryQ_ok (y := r.1) (s' := r.2) he
      refine .one fun ob => ?_
      obtain ⟨ob0, hx⟩ := hq ob
      obtain ⟨v, hrun, hv⟩ := sEntry_ok (E := E) hx hr (hρ it)
      exact ⟨ob0, .nowV (hr.same hsame) hrun hv⟩
    · exact vV h fun x0 e => sEntry_ok e hr (hρ it)
  | extract t i =>
    simp only [sOp] at h
    split at h
    · rename_i l hl
      refine vV h fun x0 e => ?_
      obtain ⟨a, he, ha⟩ := SV.tuple_ok hl (hρ t)
      obtain ⟨y, hy, hv⟩ := ha.get e
      refine ⟨y, ?_, hv⟩
      rw [he]
      simp [Instr.extract, hy]
    · cases h
  | call c =>
    obtain ⟨callee, args, ats⟩ := c
    have ha := mapOpd_ok hρ args
    have harr : args.map ρ = (args.toList.map ρ).toArray := by apply Array.ext'; simp
    cases callee with
    | value f =>
      simp only [sOp] at h
      cases hc : callFn (evalOpd E tm f) (mapOpd E tm args) with
      | none => rw [hc] at h; cases h
      | some n =>
        rw [hc] at h; cases h
        refine .one fun ob => ⟨ob, ?_⟩
        have := callFn_ok (E := E) hc (hρ f) ha hr
        simpa only [execOp, resolve, harr] using this
    | invoke r name =>
      simp only [sOp] at h
      cases hc : sInvoke E (evalOpd E tm r) name (mapOpd E tm args) with
      | none => rw [hc] at h; cases h
      | some n =>
        rw [hc] at h; cases h
        refine .one fun ob => ⟨ob, ?_⟩
        have := sInvoke_ok (E := E) hc (hρ r) ha hr
        simp only [execOp, resolve, harr]; exact this
    | builtin b =>
      simp only [sOp] at h
      split at h
      · rename_i r hc
        obtain ⟨x0, s1⟩ := r
        cases h
        refine .one fun ob => ?_
        have := sBuiltin_ok (ty := type) (cs := args.map fun | .const _ => true | _ => false) hc ha hr ob
        refine ⟨this.1, ?_⟩
        simp only [execOp, resolve, harr]; exact this.2
      · exact pureV rfl h
  | go c => cases h
  | defer c =>
    obtain ⟨callee, args, ats⟩ := c
    have ha := mapOpd_ok hρ args
    have harr : args.map ρ = (args.toList.map ρ).toArray := by apply Array.ext'; simp
    cases callee with
    | value f =>
      simp only [sOp] at h
      cases hc : deferFn (evalOpd E tm f) (mapOpd E tm args) with
      | none => rw [hc] at h; cases h
      | some d =>
        rw [hc] at h; cases h
        obtain ⟨dv, hd, hrun⟩ := deferFn_ok hc (hρ f) ha
        refine .one fun ob => ⟨ob, dv, hd, hr, ?_⟩
        simp only [execOp, resolve, harr, hrun]; rfl
    | invoke r name => cases h
    | builtin b => cases h
  | panic x => cases h
  | send c x => cases h
  | recv t c ok => cases h
  | select cs b => cases h

end
end Go.Rx
set_option linter.unusedVariables false
set_option linter.unusedSimpArgs false
namespace Go.Rx

/-- What comes ahead of an operation, as bits: one step of 'Region.before'. -/
def bitsOf (acc : Array Nat) (o : Oper) : Nat := o.after.toList.foldl (fun s e => if Region.binds .any e then s ||| 2 ^ e.on ||| acc.getD e.on 0 else s) 0

theorem before_eq (ops : Array Oper) : Region.before ops = ops.toList.foldl (fun acc o => acc.push (bitsOf acc o)) #[] := by
  unfold Region.before
  rw [← Array.foldl_toList]
  congr 1
  funext acc o
  rw [bitsOf, ← Array.foldl_toList]

theorem before_go (l : List Oper) : ∀ (acc : Array Nat), (l.foldl (fun acc o => acc.push (bitsOf acc o)) acc).size = acc.size + l.length ∧
    ∀ i, i < acc.size → (l.foldl (fun acc o => acc.push (bitsOf acc o)) acc).getD i 0 = acc.getD i 0 := by
  induction l with
  | nil => intro acc; exact ⟨rfl, fun _ _ => rfl⟩
  | cons o l ih =>
    intro acc
    obtain ⟨h1, h2⟩ := ih (acc.push (bitsOf acc o))
    refine ⟨by simp only [List.foldl_cons, h1, Array.size_push, List.length_cons]; omega, fun i hi => ?_⟩
    simp only [List.foldl_cons]
    rw [h2 i (by simp; omega)]
    rw [Array.getD_eq_getD_getElem?, Array.getD_eq_getD_getElem?, Array.getElem?_push, if_neg (by omega)]

theorem bitsOf_test (acc : Array Nat) (o : Oper) (j : Nat) : (bitsOf acc o).testBit j = true ↔ ∃ e ∈ o.after.toList, Region.binds .any e = true ∧ (e.on = j ∨ (acc.getD e.on 0).testBit j = true) := by
  unfold bitsOf
  have key : ∀ (l : List Edge) (s : Nat), (l.foldl (fun s e => if Region.binds .any e then s ||| 2 ^ e.on ||| acc.getD e.on 0 else s) s).testBit j = true ↔
      s.testBit j = true ∨ ∃ e ∈ l, Region.binds .any e = true ∧ (e.on = j ∨ (acc.getD e.on 0).testBit j = true) := by
    intro l
    induction l with
    | nil => intro s; simp
    | cons e l ih =>
      intro s
      simp only [List.foldl_cons]
      rw [ih]
      by_cases hb : Region.binds .any e = true
      · rw [if_pos hb]
        simp only [Nat.testBit_or, Bool.or_eq_true, Nat.testBit_two_pow, decide_eq_true_eq, List.mem_cons, exists_eq_or_imp, hb, true_and]
        constructor
        · rintro ((h | h) | h)
          · rcases h with h | h
            · exact .inl h
            · exact .inr (.inl (.inl h))
          · exact .inr (.inl (.inr h))
          · exact .inr (.inr h)
        · rintro (h | (h | h) | h)
          · exact .inl (.inl (.inl h))
          · exact .inl (.inl (.inr h))
          · exact .inl (.inr h)
          · exact .inr h
      · rw [if_neg hb]
        simp only [List.mem_cons, exists_eq_or_imp, Bool.not_eq_true] at hb ⊢
        simp only [hb, Bool.false_eq_true, false_and, false_or]
  rw [key]
  simp

/-- The bits of operation i. -/
theorem before_test {ops : Array Oper} {i j : Nat} {o : Oper} (ho : ops[i]? = some o) (hok : edgesOk ops = true) :
    ((Region.before ops).getD i 0).testBit j = true ↔ ∃ e ∈ o.after.toList, Region.binds .any e = true ∧ (e.on = j ∨ ((Region.before ops).getD e.on 0).testBit j = true) := by
  obtain ⟨hi, hoi⟩ := Array.getElem?_eq_some_iff.1 ho
  have hsplit : ops.toList = ops.toList.take i ++ o :: ops.toList.drop (i + 1) := by
    have h1 : ops.toList.drop i = o :: ops.toList.drop (i + 1) := by
      rw [List.drop_eq_getElem_cons (by simpa using hi)]
      simp [hoi]
    rw [← h1, List.take_append_drop]
  let pre := (ops.toList.take i).foldl (fun acc o => acc.push (bitsOf acc o)) (#[] : Array Nat)
  have hpre : pre.size = i := by
    have := (before_go (ops.toList.take i) #[]).1
    simp only [pre]; rw [this]; simp; omega
  have hbf : Region.before ops = (ops.toList.drop (i + 1)).foldl (fun acc o => acc.push (bitsOf acc o)) (pre.push (bitsOf pre o)) := by
    rw [before_eq]
    conv => lhs; rw [hsplit]
    rw [List.foldl_append, List.foldl_cons]
  have hgi : (Region.before ops).getD i 0 = bitsOf pre o := by
    rw [hbf, (before_go _ _).2 i (by simp [hpre])]
    rw [Array.getD_eq_getD_getElem?, Array.getElem?_push, if_pos hpre.symm]
    rfl
  have hlow : ∀ k, k < i → (Region.before ops).getD k 0 = pre.getD k 0 := by
    intro k hk
    rw [hbf, (before_go _ _).2 k (by simp [hpre]; omega)]
    rw [Array.getD_eq_getD_getElem?, Array.getD_eq_getD_getElem?, Array.getElem?_push, if_neg (by omega)]
  have hedge : ∀ e ∈ o.after.toList, Region.binds .any e = true → e.on < i := by
    intro e he hb
    have h1 := List.all_eq_true.1 hok i (by simpa using hi)
    rw [ho] at h1
    have h2 := List.all_eq_true.1 h1 e he
    rw [hb] at h2
    exact blt_iff.1 (by simpa using h2)
  rw [hgi, bitsOf_test]
  constructor
  · rintro ⟨e, he, hb, h⟩
    refine ⟨e, he, hb, h.imp id fun h => ?_⟩
    rwa [hlow e.on (hedge e he hb)]
  · rintro ⟨e, he, hb, h⟩
    refine ⟨e, he, hb, h.imp id fun h => ?_⟩
    rwa [← hlow e.on (hedge e he hb)]

/-- What comes ahead of an operation has a lower number. -/
theorem before_lt {ops : Array Oper} (hok : edgesOk ops = true) : ∀ {i j : Nat}, i < ops.size → ((Region.before ops).getD i 0).testBit j = true → j < i := by
  intro i
  induction i using Nat.strongRecOn with
  | _ i ih =>
    intro j hi hb
    have ho : ops[i]? = some ops[i] := Array.getElem?_eq_getElem hi
    obtain ⟨e, he, hbd, h⟩ := (before_test ho hok).1 hb
    have h1 := List.all_eq_true.1 hok i (by simpa using hi)
    rw [ho] at h1
    have h2 := List.all_eq_true.1 h1 e he
    rw [hbd] at h2
    have hlt : e.on < i := blt_iff.1 (by simpa using h2)
    rcases h with h | h
    · omega
    · have := ih e.on hlt (by omega) h
      omega

/-- What is asked of an order: each operation once, and what binds it ahead of it. -/
structure Order (ops : Array Oper) (L : List Nat) : Prop where
  nodup : L.Nodup
  all : ∀ i, i ∈ L ↔ i < ops.size
  ord : L.Pairwise fun a b => ((Region.before ops).getD a 0).testBit b = false
  irr : ∀ i ∈ L, ((Region.before ops).getD i 0).testBit i = false


/-- The state of the listing: what is listed, and that all that comes ahead of it is listed. -/
structure Listing (ops : Array Oper) (listed : Array Bool) (acc : List Nat) : Prop where
  size : listed.size = ops.size
  mem : ∀ i, i < ops.size → (listed.getD i true = true ↔ i ∈ acc)
  lt : ∀ i ∈ acc, i < ops.size
  nodup : acc.Nodup
  closed : ∀ i ∈ acc, ∀ j, ((Region.before ops).getD i 0).testBit j = true → j ∈ acc
  ord : acc.Pairwise fun b a => ((Region.before ops).getD a 0).testBit b = false
  irr : ∀ i ∈ acc, ((Region.before ops).getD i 0).testBit i = false

theorem getD_true_false {l : Array Bool} {i : Nat} (h : i < l.size) : l.getD i true = l.getD i false := by
  simp [Array.getD, h]

theorem least_out (acc : List Nat) : ∀ i, i ∉ acc → ∃ k, k ≤ i ∧ k ∉ acc ∧ ∀ j, j < k → j ∈ acc := by
  intro i
  induction i using Nat.strongRecOn with
  | _ i ih =>
    intro hi
    by_cases h : ∃ j, j < i ∧ j ∉ acc
    · obtain ⟨j, hj, hn⟩ := h
      obtain ⟨k, hk, h1, h2⟩ := ih j hj hn
      exact ⟨k, by omega, h1, h2⟩
    · exact ⟨i, Nat.le_refl _, hi, fun j hj => Classical.byContradiction fun hn => h ⟨j, hj, hn⟩⟩

theorem linearise_ok {ops : Array Oper} (hok : edgesOk ops = true) : ∀ (fuel t : Nat) (listed : Array Bool) (acc : List Nat), Listing ops listed acc → acc.length + fuel = ops.size →
    ∃ L, Region.linearise.go .any ops fuel t listed acc = L.reverse ∧ Listing ops (Array.replicate ops.size true) L := by
  have hlen_le : ∀ (l : List Nat), l.Nodup → (∀ i ∈ l, i < ops.size) → l.length ≤ ops.size := by
    intro l h1 h2
    have := List.Nodup.length_le_of_subset (l₂ := List.range ops.size) h1 (fun i hi => List.mem_range.2 (h2 i hi))
    simpa using this
  intro fuel
  induction fuel with
  | zero =>
    intro t listed acc h hlen
    refine ⟨acc, rfl, by simp, fun i hi => ?_, h.lt, h.nodup, h.closed, h.ord, h.irr⟩
    have h1 : (Array.replicate ops.size true).getD i true = true := by
      rw [Array.getD_eq_getD_getElem?]; simp [hi]
    simp only [h1, true_iff]
    refine Classical.byContradiction fun hn => ?_
    have := hlen_le (i :: acc) (List.nodup_cons.2 ⟨hn, h.nodup⟩) (fun j hj => by
      rcases List.mem_cons.1 hj with rfl | hj
      · exact hi
      · exact h.lt j hj)
    simp at this; omega
  | succ fuel ih =>
    intro t listed acc h hlen
    unfold Region.linearise.go
    generalize hrs : ((List.range ops.size).filter fun i => !listed.getD i true && ((ops[i]?).map (·.after.all fun e => !Region.binds .any e || listed.getD e.on false)).getD false) = rs
    have hmem : ∀ i, i ∈ rs → i < ops.size ∧ i ∉ acc ∧ ∃ o, ops[i]? = some o ∧ ∀ e ∈ o.after.toList, Region.binds .any e = true → e.on ∈ acc := by
      intro i hi
      rw [← hrs, List.mem_filter] at hi
      obtain ⟨h1, h2⟩ := hi
      have h1 := List.mem_range.1 h1
      rw [Bool.and_eq_true] at h2
      obtain ⟨h2, h3⟩ := h2
      refine ⟨h1, fun hc => ?_, ?_⟩
      · rw [(h.mem i h1).2 hc] at h2; cases h2
      · obtain ⟨o, ho⟩ : ∃ o, ops[i]? = some o := ⟨_, Array.getElem?_eq_getElem h1⟩
        refine ⟨o, ho, fun e he hb => ?_⟩
        rw [ho] at h3
        simp only [Option.map_some, Option.getD_some] at h3
        have h4 := Array.all_eq_true'.1 h3 e (by simpa using he)
        rw [hb] at h4
        have h4 : listed.getD e.on false = true := by simpa using h4
        have hlt : e.on < listed.size := by
          refine Classical.byContradiction fun hn => ?_
          rw [Array.getD_eq_getD_getElem?, Array.getElem?_eq_none (by omega)] at h4
          cases h4
        exact (h.mem e.on (by rw [← h.size]; exact hlt)).1 (by rw [getD_true_false hlt]; exact h4)
    have hne : 0 < rs.length := by
      obtain ⟨i, hi, hn⟩ : ∃ i, i < ops.size ∧ i ∉ acc := by
        refine Classical.byContradiction fun hc => ?_
        have hall : ∀ i, i < ops.size → i ∈ acc := fun i hi => Classical.byContradiction fun hn => hc ⟨i, hi, hn⟩
        have := List.Nodup.length_le_of_subset (l₁ := List.range ops.size) (l₂ := acc) List.nodup_range (fun i hi => hall i (List.mem_range.1 hi))
        simp at this; omega
      obtain ⟨k, hk, hkn, hall⟩ := least_out acc i hn
      have hks : k < ops.size := by omega
      obtain ⟨o, ho⟩ : ∃ o, ops[k]? = some o := ⟨_, Array.getElem?_eq_getElem hks⟩
      have : k ∈ rs := by
        rw [← hrs, List.mem_filter]
        refine ⟨List.mem_range.2 hks, ?_⟩
        rw [Bool.and_eq_true]
        refine ⟨?_, ?_⟩
        · cases hl : listed.getD k true
          · rfl
          · exact absurd ((h.mem k hks).1 hl) hkn
        · rw [ho]
          simp only [Option.map_some, Option.getD_some]
          rw [Array.all_eq_true']
          intro e he
          cases hb : Region.binds .any e
          · rfl
          · have hlt : e.on < k := by
              have h1 := List.all_eq_true.1 hok k (by simpa using hks)
              rw [ho] at h1
              have h2 := List.all_eq_true.1 h1 e (by simpa using he)
              rw [hb] at h2
              exact blt_iff.1 (by simpa using h2)
            have hin := hall e.on hlt
            have := (h.mem e.on (by omega)).2 hin
            rw [getD_true_false (by rw [h.size]; omega)] at this
            simpa using this
      exact List.length_pos_of_mem this
    have hlt : t % rs.length < rs.length := Nat.mod_lt _ hne
    dsimp only
    rw [List.getElem?_eq_getElem hlt]
    dsimp only
    generalize hk : rs[t % rs.length] = k
    obtain ⟨hks, hkn, o, ho, hed⟩ := hmem k (by rw [← hk]; exact List.getElem_mem hlt)
    have hbits : ∀ j, ((Region.before ops).getD k 0).testBit j = true → j ∈ acc := by
      intro j hj
      obtain ⟨e, he, hb, h1⟩ := (before_test ho hok).1 hj
      have hin := hed e he hb
      rcases h1 with rfl | h1
      · exact hin
      · exact h.closed e.on hin j h1
    refine ih _ _ _ ⟨by simp [h.size], fun i hi => ?_, fun i hi => ?_, List.nodup_cons.2 ⟨hkn, h.nodup⟩, fun i hi j hj => ?_, List.pairwise_cons.2 ⟨fun a ha => ?_, h.ord⟩, fun i hi => ?_⟩ (by simp; omega)
    · rw [Array.getD_eq_getD_getElem?, Array.getElem?_setIfInBounds]
      by_cases e : k = i
      · subst e; simp [h.size, hks]
      · rw [if_neg e, ← Array.getD_eq_getD_getElem?, h.mem i hi]
        simp [Ne.symm e]
    · rcases List.mem_cons.1 hi with rfl | hi
      · exact hks
      · exact h.lt i hi
    · rcases List.mem_cons.1 hi with rfl | hi
      · exact List.mem_cons_of_mem _ (hbits j hj)
      · exact List.mem_cons_of_mem _ (h.closed i hi j hj)
    · cases hb : ((Region.before ops).getD a 0).testBit k
      · rfl
      · exact absurd (h.closed a ha k hb) hkn
    · rcases List.mem_cons.1 hi with rfl | hi
      · cases hb : ((Region.before ops).getD i 0).testBit i
        · rfl
        · exact absurd (hbits i hb) hkn
      · exact h.irr i hi

theorem schedule_ok {ops : Array Oper} (hok : edgesOk ops = true) (t : Nat) : Order ops (Region.schedule true ops t) := by
  have : Region.schedule true ops t = Region.linearise .any ops t := by simp [Region.schedule]
  rw [this]
  unfold Region.linearise
  obtain ⟨L, hL, h⟩ := linearise_ok hok ops.size t (Array.replicate ops.size false) [] ⟨by simp, fun i hi => by
    rw [Array.getD_eq_getD_getElem?]; simp [hi], by simp, List.nodup_nil, by simp, List.Pairwise.nil, by simp⟩ (by simp)
  rw [hL]
  refine ⟨?_, fun i => ?_, ?_, fun i hi => h.irr i (by simpa using hi)⟩
  · have := h.nodup
    unfold List.Nodup at this ⊢
    rw [List.pairwise_reverse]
    exact this.imp fun e => e.symm
  · rw [List.mem_reverse]
    constructor
    · exact h.lt i
    · intro hi
      exact (h.mem i hi).1 (by rw [Array.getD_eq_getD_getElem?]; simp [hi])
  · rw [List.pairwise_reverse]; exact h.ord

end Go.Rx
set_option linter.unusedVariables false
set_option linter.unusedSimpArgs false
namespace Go.Rx
section
variable {ν : Val} {M : Own} {w0 w : World} {s s' : SH} {E : Env}

mutual
theorem VR.func1 {ν : Val} : ∀ (s : SV) (x y : Value), s.solid = true → VR ν s x → VR ν s y → x = y
  | .junk, _, _, h, _, _ => by cases h
  | .v _, _, _, _, hx, hy => by rw [VR.v_iff.1 hx, VR.v_iff.1 hy]
  | .ptr _ _, _, _, _, hx, hy => by
    obtain ⟨b, hb, rfl⟩ := VR.ptr_iff.1 hx; obtain ⟨c, hc, rfl⟩ := VR.ptr_iff.1 hy; rw [hb] at hc; cases hc; rfl
  | .sl _ _ _ _, _, _, _, hx, hy => by
    obtain ⟨b, hb, _, rfl⟩ := VR.sl_iff.1 hx; obtain ⟨c, hc, _, rfl⟩ := VR.sl_iff.1 hy; rw [hb] at hc; cases hc; rfl
  | .map _, _, _, _, hx, hy => by
    obtain ⟨b, hb, rfl⟩ := VR.map_iff.1 hx; obtain ⟨c, hc, rfl⟩ := VR.map_iff.1 hy; rw [hb] at hc; cases hc; rfl
  | .agg l, _, _, h, hx, hy => by
    obtain ⟨a, rfl, ha⟩ := VR.agg_iff.1 hx; obtain ⟨b, rfl, hb⟩ := VR.agg_iff.1 hy
    rw [VRL.func1 l a b h ha hb]
  | .tup l, _, _, h, hx, hy => by
    obtain ⟨a, rfl, ha⟩ := VR.tup_iff.1 hx; obtain ⟨b, rfl, hb⟩ := VR.tup_iff.1 hy
    rw [VRL.func1 l a b h ha hb]
  | .iface _ x, _, _, h, hx, hy => by
    obtain ⟨a, rfl, ha⟩ := VR.iface_iff.1 hx; obtain ⟨b, rfl, hb⟩ := VR.iface_iff.1 hy
    rw [VR.func1 x a b h ha hb]
  | .func _ p q, _, _, h, hx, hy => by
    obtain ⟨a, a', rfl, ha, ha'⟩ := VR.func_iff.1 hx; obtain ⟨b, b', rfl, hb, hb'⟩ := VR.func_iff.1 hy
    rw [SV.solid, Bool.and_eq_true] at h
    rw [VRL.func1 p a b h.1 ha hb, VRL.func1 q a' b' h.2 ha' hb']
  | .yield _, _, _, _, hx, hy => by
    obtain ⟨b, hb, rfl⟩ := VR.yield_iff.1 hx; obtain ⟨c, hc, rfl⟩ := VR.yield_iff.1 hy; rw [hb] at hc; cases hc; rfl
  | .fin _ _ _ _, _, _, _, hx, hy => by
    obtain ⟨b, hb, rfl⟩ := VR.fin_iff.1 hx; obtain ⟨c, hc, rfl⟩ := VR.fin_iff.1 hy; rw [hb] at hc; cases hc; rfl
theorem VRL.func1 {ν : Val} : ∀ (l : List SV) (a b : List Value), solidL l = true → VRL ν l a → VRL ν l b → a = b
  | [], _, _, _, ha, hb => by rw [ha.nil_inv, hb.nil_inv]
  | x :: xs, _, _, h, ha, hb => by
    obtain ⟨y, ys, rfl, hy, hys⟩ := ha.cons_inv; obtain ⟨z, zs, rfl, hz, hzs⟩ := hb.cons_inv
    rw [solidL, Bool.and_eq_true] at h
    rw [VR.func1 x y z h.1 hy hz, VRL.func1 xs ys zs h.2 hys hzs]
end

theorem cellEq_ok {x y : Value} {s s' : SH} (h : cellEq E x y s = some s') : s.Same s' ∧ (s'.ob → s.ob ∧ x = y) := by
  unfold cellEq at h
  split at h
  · rename_i k x k' y
    cases hb : (k == k')
    · rw [hb] at h; cases h
    · rw [hb] at h
      obtain ⟨hsame, hob⟩ := SH.ask_ok h
      have hb : k = k' := by simpa using hb
      exact ⟨hsame, fun ob => ⟨(hob ob).1, by have := (hob ob).2; have : x = y := by simpa using this
                                              rw [hb, this]⟩⟩
  · rename_i x y
    obtain ⟨hsame, hob⟩ := SH.ask_ok h
    exact ⟨hsame, fun ob => ⟨(hob ob).1, by rw [(ba_beq _ _).1 (hob ob).2]⟩⟩
  · rename_i x y
    obtain ⟨hsame, hob⟩ := SH.ask_ok h
    exact ⟨hsame, fun ob => ⟨(hob ob).1, by have := (hob ob).2; have : x = y := by simpa using this
                                            rw [this]⟩⟩
  · cases h; exact ⟨.refl _, fun ob => ⟨ob, rfl⟩⟩
  · cases h; exact ⟨.refl _, fun ob => ⟨ob, rfl⟩⟩
  · cases h; exact ⟨.refl _, fun ob => ⟨ob, rfl⟩⟩
  · rename_i a l c b m d
    obtain ⟨hsame, hob⟩ := SH.ask_ok h
    refine ⟨hsame, fun ob => ⟨(hob ob).1, ?_⟩⟩
    obtain ⟨rfl, rfl, rfl⟩ := of_decide_eq_true (hob ob).2
    rfl
  · cases h; exact ⟨.refl _, fun ob => ⟨ob, rfl⟩⟩
  · rename_i f a b g c d
    cases hb : (f == g && (a.size == 0 && b.size == 0) && (c.size == 0 && d.size == 0))
    · rw [hb] at h; cases h
    · rw [hb] at h; cases h
      simp only [Bool.and_eq_true] at hb
      obtain ⟨⟨h1, h2, h3⟩, h4, h5⟩ := hb
      have h1 : f = g := by simpa using h1
      have h2 : a = #[] := by simpa using h2
      have h3 : b = #[] := by simpa using h3
      have h4 : c = #[] := by simpa using h4
      have h5 : d = #[] := by simpa using h5
      exact ⟨.refl _, fun ob => ⟨ob, by rw [h1, h2, h3, h4, h5]⟩⟩
  · cases h

theorem cellsEq_ok : ∀ {a b : List Value} {s s' : SH}, cellsEq E a b s = some s' → s.Same s' ∧ (s'.ob → s.ob ∧ a = b)
  | [], [], _, _, h => by cases h; exact ⟨.refl _, fun ob => ⟨ob, rfl⟩⟩
  | [], _ :: _, _, _, h => by cases h
  | _ :: _, [], _, _, h => by cases h
  | x :: xs, y :: ys, s, s', h => by
    simp only [cellsEq] at h
    obtain ⟨s1, h1, h2⟩ := Option.bind_eq_some_iff.1 h
    obtain ⟨e1, e2⟩ := cellEq_ok h1
    obtain ⟨e3, e4⟩ := cellsEq_ok h2
    exact ⟨e1.trans e3, fun ob => ⟨(e2 (e4 ob).1).1, by rw [(e4 ob).2, (e2 (e4 ob).1).2]⟩⟩

theorem plainEq_ok {x y : Value} {s s' : SH} (h : plainEq E x y s = some s') : s.Same s' ∧ (s'.ob → s.ob ∧ x = y) := by
  unfold plainEq at h
  split at h
  · obtain ⟨e1, e2⟩ := cellsEq_ok h
    exact ⟨e1, fun ob => ⟨(e2 ob).1, by rw [Array.toList_inj.1 (e2 ob).2]⟩⟩
  · obtain ⟨e1, e2⟩ := cellsEq_ok h
    exact ⟨e1, fun ob => ⟨(e2 ob).1, by rw [Array.toList_inj.1 (e2 ob).2]⟩⟩
  · exact cellEq_ok h

theorem eqN_ok {b : Bool} {p : Prop} (hp : b = true → p) (h : s.eqN b p = some s') : s.Same s' ∧ (s'.ob → s.ob ∧ p) := by
  unfold SH.eqN at h
  cases hs : s.soft
  · rw [hs] at h
    cases b
    · cases h
    · cases h; exact ⟨.refl _, fun ob => ⟨ob, hp rfl⟩⟩
  · rw [hs] at h; cases h; exact ⟨SH.owe_same _ _, fun ob => ob⟩

mutual
theorem svEq_ok : ∀ {x y : SV} {s s' : SH}, svEq E x y s = some s' → s.Same s' ∧ (s'.ob → s.ob ∧ x = y)
  | .ptr i o, y, s, s', h => by
    simp only [svEq] at h
    split at h
    · rename_i j p
      cases hb : (i == j)
      · rw [hb] at h; cases h
      · rw [hb] at h
        have hb : i = j := by simpa using hb
        obtain ⟨e1, e2⟩ := eqN_ok (fun hp => by simpa using hp) h
        exact ⟨e1, fun ob => ⟨(e2 ob).1, by rw [hb, (e2 ob).2]⟩⟩
    · cases h
  | .map i, y, s, s', h => by
    simp only [svEq] at h
    split at h
    · rename_i j
      cases hb : (i == j)
      · rw [hb] at h; cases h
      · rw [hb] at h; cases h
        exact ⟨.refl _, fun ob => ⟨ob, by simpa using hb⟩⟩
    · cases h
  | .sl i o l c, y, s, s', h => by
    simp only [svEq] at h
    split at h
    · rename_i j p m d
      cases hb : (i == j)
      · rw [hb] at h; cases h
      · rw [hb] at h
        have hb : i = j := by simpa using hb
        obtain ⟨e1, e2⟩ := eqN_ok (fun hp => by
          rw [Bool.and_eq_true, Bool.and_eq_true] at hp
          obtain ⟨⟨h2, h3⟩, h4⟩ := hp
          have h2 : o = p := by simpa using h2
          have h3 : l = m := by simpa using h3
          have h4 : c = d := by simpa using h4
          exact ⟨h2, h3, h4⟩) h
        exact ⟨e1, fun ob => ⟨(e2 ob).1, by obtain ⟨h2, h3, h4⟩ := (e2 ob).2; rw [hb, h2, h3, h4]⟩⟩
    · cases h
  | .fin i o l a, y, s, s', h => by
    simp only [svEq] at h
    split at h
    · rename_i j p m b
      cases hb : (i == j)
      · rw [hb] at h; cases h
      · rw [hb] at h
        have hb : i = j := by simpa using hb
        obtain ⟨e1, e2⟩ := eqN_ok (fun hp => by
          rw [Bool.and_eq_true, Bool.and_eq_true] at hp
          obtain ⟨⟨h2, h3⟩, h4⟩ := hp
          have h2 : o = p := by simpa using h2
          have h3 : l = m := by simpa using h3
          have h4 : a = b := by simpa using h4
          exact ⟨h2, h3, h4⟩) h
        exact ⟨e1, fun ob => ⟨(e2 ob).1, by obtain ⟨h2, h3, h4⟩ := (e2 ob).2; rw [hb, h2, h3, h4]⟩⟩
    · cases h
  | .yield i, y, s, s', h => by
    simp only [svEq] at h
    split at h
    · rename_i j
      cases hb : (i == j)
      · rw [hb] at h; cases h
      · rw [hb] at h; cases h
        exact ⟨.refl _, fun ob => ⟨ob, by simpa using hb⟩⟩
    · cases h
  | .iface t x, y, s, s', h => by
    simp only [svEq] at h
    split at h
    · rename_i u y
      cases hb : (t == u)
      · rw [hb] at h; cases h
      · rw [hb] at h
        obtain ⟨h1, h2⟩ := svEq_ok (x := x) (y := y) h
        have hb : t = u := by simpa using hb
        exact ⟨h1, fun ob => ⟨(h2 ob).1, by rw [hb, (h2 ob).2]⟩⟩
    · cases h
  | .agg l, y, s, s', h => by
    simp only [svEq] at h
    split at h
    · rename_i m
      obtain ⟨h1, h2⟩ := svEqL_ok (l := l) (m := m) h
      exact ⟨h1, fun ob => ⟨(h2 ob).1, by rw [(h2 ob).2]⟩⟩
    · cases h
  | .tup l, y, s, s', h => by
    simp only [svEq] at h
    split at h
    · rename_i m
      obtain ⟨h1, h2⟩ := svEqL_ok (l := l) (m := m) h
      exact ⟨h1, fun ob => ⟨(h2 ob).1, by rw [(h2 ob).2]⟩⟩
    · cases h
  | .func f a b, y, s, s', h => by
    simp only [svEq] at h
    split at h
    · rename_i f g c d
      cases hb : (f == g)
      · rw [hb] at h; cases h
      · rw [hb] at h
        have hb : f = g := by simpa using hb
        obtain ⟨s1, h1, h2⟩ := Option.bind_eq_some_iff.1 h
        obtain ⟨e1, e2⟩ := svEqL_ok (l := a) (m := c) h1
        obtain ⟨e3, e4⟩ := svEqL_ok (l := b) (m := d) h2
        exact ⟨e1.trans e3, fun ob => ⟨(e2 (e4 ob).1).1, by rw [hb, (e4 ob).2, (e2 (e4 ob).1).2]⟩⟩
    · cases h
  | .junk, y, s, s', h => by simp [svEq] at h
  | .v x, y, s, s', h => by
    simp only [svEq] at h
    split at h
    · rename_i y
      obtain ⟨h1, h2⟩ := plainEq_ok h
      exact ⟨h1, fun ob => ⟨(h2 ob).1, by rw [(h2 ob).2]⟩⟩
    · cases h
theorem svEqL_ok : ∀ {l m : List SV} {s s' : SH}, svEqL E l m s = some s' → s.Same s' ∧ (s'.ob → s.ob ∧ l = m)
  | [], m, s, s', h => by
    simp only [svEqL] at h
    split at h
    · cases h; exact ⟨.refl _, fun ob => ⟨ob, rfl⟩⟩
    · cases h
  | x :: xs, m, s, s', h => by
    simp only [svEqL] at h
    split at h
    · rename_i y ys
      obtain ⟨s1, h1, h2⟩ := Option.bind_eq_some_iff.1 h
      obtain ⟨e1, e2⟩ := svEq_ok (x := x) (y := y) h1
      obtain ⟨e3, e4⟩ := svEqL_ok (l := xs) (m := ys) h2
      exact ⟨e1.trans e3, fun ob => ⟨(e2 (e4 ob).1).1, by rw [(e4 ob).2, (e2 (e4 ob).1).2]⟩⟩
    · cases h
end

/-- What is known of a value that went ahead. -/
def QuietOut (E : Env) (g : Sem Next) (ν : Val) (w : World) (x : SV) (looksIn : Bool) : Prop :=
  (∃ y, g.run E.P w = .ok (.value y) w ∧ VR ν x y) ∧ (looksIn = false → ∀ w, ∃ y, g.run E.P w = .ok (.value y) w ∧ VR ν x y)

theorem QuietOut.ofV {g : Sem Value} {x : SV} {b : Bool} (h : ∀ w, ∃ y, g.run E.P w = .ok y w ∧ VR ν x y) : QuietOut E (do pure (.value (← g))) ν w x b := by
  have : ∀ w, ∃ y, ((do pure (.value (← g)) : Sem Next)).run E.P w = .ok (.value y) w ∧ VR ν x y := by
    intro w
    obtain ⟨y, hy, hv⟩ := h w
    exact ⟨y, by simp [hy], hv⟩
  exact ⟨this w, fun _ => this⟩

theorem QuietOut.ofLook {g : Sem Value} {x : SV} (h : ∃ y, g.run E.P w = .ok y w ∧ VR ν x y) : QuietOut E (do pure (.value (← g))) ν w x true := by
  obtain ⟨y, hy, hv⟩ := h
  exact ⟨⟨y, by simp [hy], hv⟩, by intro h; cases h⟩

theorem sPure_quiet {tm : STm} {o : Oper} {x : SV} (hk : pureKind o.op = true) (h : sPure E tm o = some x) {ρ : Operand → Value} (hρ : OpdR E ν tm ρ) (b : Bool) :
    QuietOut E (execOp ρ o) ν w x b := by
  unfold sPure at h
  cases hp : allPlain E tm o.op.operands.toList
  · rw [hp] at h; cases h
  · rw [hp] at h
    simp only [cond_true] at h
    split at h
    · rename_i v hrun
      cases h
      have hc := Go.Rx.execOp_congr hk (plain_of hp hρ)
      have : ∀ w, ∃ y, (execOp ρ o).run E.P w = .ok (.value y) w ∧ VR ν (.v v) y := fun w => ⟨v, by rw [hc]; exact pureRun_ok hrun w, VR.v_iff.2 rfl⟩
      exact ⟨this w, fun _ => this⟩
    · cases h

theorem sQuiet_ok0 {tm : STm} {o : Oper} {x : SV} {ρ : Operand → Value} (hf : floats o.op = true) (hnc : ∀ a b c, o.op ≠ .convert a b c) (hnf : ∀ op t a b yt, o.op = .binOp op t a b yt → sEqlFar E t (evalOpd E tm a) (evalOpd E tm b) s = false) (h : sOp E tm o s = some [(.val x, s')]) (hr : HR ν M w0 s w) (hρ : OpdR E ν tm ρ) :
    s.Same s' ∧ (s'.ob → s.ob ∧ QuietOut E (execOp ρ o) ν w x (looks o.op)) := by
  obtain ⟨dst, op, type, pos, aft, guard⟩ := o
  have hval : ∀ (z : Operand), QuietOut E (pure (.value (ρ z))) ν w (evalOpd E tm z) false := fun z =>
    ⟨⟨_, rfl, hρ z⟩, fun _ w => ⟨_, rfl, hρ z⟩⟩
  have vV : ∀ {z : Option SV} {g : Sem Value} {b : Bool}, (z.map fun x => [(SNext.val x, s)]) = some [(.val x, s')] → (∀ x0, z = some x0 → ∀ w, ∃ y, g.run E.P w = .ok y w ∧ VR ν x0 y) →
      s.Same s' ∧ (s'.ob → s.ob ∧ QuietOut E (do pure (.value (← g))) ν w x b) := by
    intro z g b h hg
    cases z with
    | none => cases h
    | some x0 => cases h; exact ⟨.refl _, fun ob => ⟨ob, .ofV (hg x rfl)⟩⟩
  have pureV : ∀ {o : Oper} (hk : pureKind o.op = true) (b : Bool), ((sPure E tm o).map fun x => [(SNext.val x, s)]) = some [(.val x, s')] → s.Same s' ∧ (s'.ob → s.ob ∧ QuietOut E (execOp ρ o) ν w x b) := by
    intro o hk b h
    cases hp : sPure E tm o with
    | none => rw [hp] at h; cases h
    | some x0 => rw [hp] at h; cases h; exact ⟨.refl _, fun ob => ⟨ob, sPure_quiet hk hp hρ b⟩⟩
  have vsV : ∀ {z : Option (SV × SH)} {g : Sem Value} {b : Bool}, (z.map fun x => [(SNext.val x.1, x.2)]) = some [(.val x, s')] →
      (∀ x0 s1, z = some (x0, s1) → s.Same s1 ∧ (s1.ob → s.ob ∧ ∀ w, ∃ y, g.run E.P w = .ok y w ∧ VR ν x0 y)) → s.Same s' ∧ (s'.ob → s.ob ∧ QuietOut E (do pure (.value (← g))) ν w x b) := by
    intro z g b h hg
    cases z with
    | none => cases h
    | some p =>
      obtain ⟨x0, s1⟩ := p
      cases h
      obtain ⟨h1, h2⟩ := hg _ _ rfl
      exact ⟨h1, fun ob => ⟨(h2 ob).1, .ofV (h2 ob).2⟩⟩
  have lsV : ∀ {z : Option (SV × SH)} {g : Sem Value}, (z.map fun x => [(SNext.val x.1, x.2)]) = some [(.val x, s')] →
      (∀ x0 s1, z = some (x0, s1) → s.Same s1 ∧ (s1.ob → s.ob ∧ ∃ y, g.run E.P w = .ok y w ∧ VR ν x0 y)) → s.Same s' ∧ (s'.ob → s.ob ∧ QuietOut E (do pure (.value (← g))) ν w x true) := by
    intro z g h hg
    cases z with
    | none => cases h
    | some p =>
      obtain ⟨x0, s1⟩ := p
      cases h
      obtain ⟨h1, h2⟩ := hg _ _ rfl
      exact ⟨h1, fun ob => ⟨(h2 ob).1, .ofLook (h2 ob).2⟩⟩
  cases op <;> try cases hf
  case convert a b c => exact (hnc a b c rfl).elim
  case move z => cases h; exact ⟨.refl _, fun ob => ⟨ob, hval z⟩⟩
  case pick c a b =>
    simp only [sOp] at h
    split at h
    · rename_i t hc
      have hcv := hρ c
      rw [hc] at hcv
      have hcv := VR.v_iff.1 hcv
      cases hdec : s.dec E t with
      | mk u s1 =>
      rw [hdec] at h
      cases h
      obtain ⟨hsame, hob⟩ := SH.dec_ok hdec
      refine ⟨hsame, fun ob => ⟨(hob ob).1, ?_⟩⟩
      have hu := (hob ob).2
      have : ∀ w, ∃ y, (execOp ρ { dst := dst, op := .pick c a b, type := type, pos := pos, after := aft, guard := guard }).run E.P w = .ok (.value y) w ∧ VR ν (bif u then evalOpd E tm a else evalOpd E tm b) y := by
        intro w
        refine ⟨if u = true then ρ a else ρ b, by simp [execOp, hcv, asBool, hu], ?_⟩
        cases u
        · exact hρ b
        · exact hρ a
      exact ⟨this w, fun _ => this⟩
    · cases h
  case build t ps =>
    refine vV h fun x0 e w => ?_
    have := sBuild_ok (w := w) e (parts_ok hρ ps.toList)
    rw [arr_map]; exact this
  case load t a =>
    exact lsV h fun x0 s1 e => sLoad_ok e hr (hρ a)
  case nilCheck z =>
    have hx := hρ z
    have go : ∀ {y : SV}, evalOpd E tm z = y → (execOp ρ { dst := dst, op := .nilCheck z, type := type, pos := pos, after := aft, guard := guard } = pure (.value (ρ z))) → [(SNext.val y, s)] = [(SNext.val x, s')] →
        s.Same s' ∧ (s'.ob → s.ob ∧ QuietOut E (execOp ρ { dst := dst, op := .nilCheck z, type := type, pos := pos, after := aft, guard := guard }) ν w x false) := by
      intro y hy he h
      cases h
      rw [he, ← hy]
      exact ⟨.refl _, fun ob => ⟨ob, hval z⟩⟩
    simp only [sOp] at h
    split at h
    · rename_i i off hc
      rw [hc] at hx
      obtain ⟨b, hb, he⟩ := VR.ptr_iff.1 hx
      exact go hc (by simp only [execOp, he]) (Option.some.inj h)
    · rename_i t y hc
      rw [hc] at hx
      obtain ⟨b, he, hb⟩ := VR.iface_iff.1 hx
      exact go hc (by simp only [execOp, he]) (Option.some.inj h)
    · rename_i f a b hc
      rw [hc] at hx
      obtain ⟨a', b', he, _⟩ := VR.func_iff.1 hx
      exact go hc (by simp only [execOp, he]) (Option.some.inj h)
    · rename_i i hc
      rw [hc] at hx
      obtain ⟨b, hb, he⟩ := VR.yield_iff.1 hx
      exact go hc (by simp only [execOp, he]) (Option.some.inj h)
    · rename_i f a b hc
      rw [hc] at hx
      have he := VR.v_iff.1 hx
      exact go hc (by simp only [execOp, he]) (Option.some.inj h)
    · cases h
  case binOp op t a b yt =>
    simp only [sOp] at h
    split at h
    · rename_i r he
      obtain ⟨p, hs, hrun⟩ := sEqS_ok (r := r.1) (s' := r.2) he (hρ a) (hρ b)
      obtain ⟨r1, r2⟩ := r
      dsimp only at hs hrun h
      subst hs
      cases h
      refine ⟨SH.owe_same _ _, fun ob => ?_⟩
      obtain ⟨ob0, hp⟩ := ob
      exact ⟨ob0, .ofV fun w => ⟨.bool r1, hrun _ _ _ hp, VR.v_iff.2 rfl⟩⟩
    split at h
    · rename_i p q hab
      cases h
      refine ⟨SH.owe_same _ _, fun ob => ?_⟩
      obtain ⟨ob0, hle⟩ := ob
      obtain ⟨hx, hy, rfl⟩ := strAdd_ok hab (hρ a) (hρ b)
      refine ⟨ob0, .ofV fun w => ⟨.string (p ++ q), ?_, VR.v_iff.2 rfl⟩⟩
      rw [hx, hy]; exact strAdd_run w t a b hle
    split at h
    · exact pureV (o := { dst := dst, op := .binOp op t a b yt, type := type, pos := pos, after := aft, guard := guard }) rfl _ h
    · split at h
      · cases he : sEql E t (evalOpd E tm a) (evalOpd E tm b) s with
        | none =>
          rw [he] at h
          rw [hnf _ _ _ _ _ rfl] at h
          simp only [cond_false] at h
          exact pureV (o := { dst := dst, op := .binOp _ t a b yt, type := type, pos := pos, after := aft, guard := guard }) rfl _ h
        | some p =>
          obtain ⟨r, s1⟩ := p
          rw [he] at h; cases h
          have hs := (sEql_ok (w := w) he (hρ a) (hρ b)).1
          subst hs
          refine ⟨.refl _, fun ob => ⟨ob, .ofV fun w => ⟨.bool r, ?_, VR.v_iff.2 rfl⟩⟩⟩
          obtain ⟨_, h1, h2, h3, _⟩ := sEql_ok (w := w) he (hρ a) (hρ b)
          simp only [Sem.run_bind, h2, Result.andThen_ok, h3, h1, Sem.run_pure]
      · cases he : sEql E t (evalOpd E tm a) (evalOpd E tm b) s with
        | none =>
          rw [he] at h
          rw [hnf _ _ _ _ _ rfl] at h
          simp only [cond_false] at h
          exact pureV (o := { dst := dst, op := .binOp _ t a b yt, type := type, pos := pos, after := aft, guard := guard }) rfl _ h
        | some p =>
          obtain ⟨r, s1⟩ := p
          rw [he] at h; cases h
          have hs := (sEql_ok (w := w) he (hρ a) (hρ b)).1
          subst hs
          refine ⟨.refl _, fun ob => ⟨ob, .ofV fun w => ⟨.bool !r, ?_, VR.v_iff.2 rfl⟩⟩⟩
          obtain ⟨_, h1, h2, _, h3⟩ := sEql_ok (w := w) he (hρ a) (hρ b)
          simp only [Sem.run_bind, h2, Result.andThen_ok, h3, h1, Sem.run_pure]
      · cases h
  case unOp op t a => exact pureV (o := { dst := dst, op := .unOp op t a, type := type, pos := pos, after := aft, guard := guard }) rfl _ h
  case makeInterface t a =>
    simp only [sOp] at h
    split at h
    · cases h
    · rename_i d hnd hd
      refine vV (z := some _) h fun x0 e w => ?_
      cases e
      refine ⟨.iface t (ρ a), ?_, VR.iface_iff.2 ⟨_, rfl, hρ a⟩⟩
      simp only [Instr.makeInterface, Sem.run_bind, run_underlying (by assumption), Result.andThen_ok]
      cases d <;> first | rfl | exact (hnd _ rfl).elim
    · cases h
  case makeFunc fn a b =>
    simp only [sOp] at h
    split at h
    · refine vV (z := some _) h fun x0 e w => ?_
      cases e
      refine ⟨_, rfl, VR.func_iff.2 ⟨_, _, ?_, mapOpd_ok hρ a, mapOpd_ok hρ b⟩⟩
      rw [arr_map a, arr_map b]
    · cases h
  case slice t a lo hi mx =>
    simp only [sOp] at h
    split at h
    · rename_i r hc
      refine vsV (z := some r) h fun x0 s1 e => ?_
      cases e
      have h1 := (sSlice_ok (w := w) hc (hρ a) (opt_ok hρ lo) (opt_ok hρ hi) (opt_ok hρ mx)).1
      refine ⟨h1, fun ob => ⟨((sSlice_ok (w := w) hc (hρ a) (opt_ok hρ lo) (opt_ok hρ hi) (opt_ok hρ mx)).2 ob).1, fun w => ((sSlice_ok (w := w) hc (hρ a) (opt_ok hρ lo) (opt_ok hρ hi) (opt_ok hρ mx)).2 ob).2⟩⟩
    · split at h
      · rename_i l hl
        obtain ⟨p0, _, _, _, _, rfl, _⟩ := sSliceB_len hl
        cases h
        have key : ∀ w, s.Same p0.2 ∧ (p0.2.ob → s.ob ∧ ∃ yv, (Instr.sliceAt t (ρ a) (lo.map ρ) (hi.map ρ) (mx.map ρ)).run E.P w = .ok yv w ∧ VR ν p0.1 yv) := fun w => by
          obtain ⟨p, hp, h1, h2⟩ := sSliceB_ok (w := w) hl (hρ a) (opt_ok hρ lo) (opt_ok hρ hi) (opt_ok hρ mx)
          rw [List.mem_singleton.1 hp] at h1 h2; exact ⟨h1, h2⟩
        exact ⟨(key w).1, fun ob => ⟨((key w).2 ob).1, .ofV fun w => ((key w).2 ob).2⟩⟩
      split at h
      · exact pureV (o := { dst := dst, op := .slice t a lo hi mx, type := type, pos := pos, after := aft, guard := guard }) rfl _ h
      · cases h
  case fieldAddr t a f => exact vV h fun x0 e w => sFieldAddr_ok e (hρ a)
  case field t a f =>
    simp only [sOp] at h
    split at h
    · exact pureV (o := { dst := dst, op := .field t a f, type := type, pos := pos, after := aft, guard := guard }) rfl _ h
    · exact vV h fun x0 e w => sField_ok e (hρ a)
  case indexAddr t a i =>
    refine vsV h fun x0 s1 e => ?_
    exact ⟨(sIndexAddr_ok (w := w) e (hρ a) (hρ i)).1, fun ob => ⟨((sIndexAddr_ok (w := w) e (hρ a) (hρ i)).2 ob).1, fun w => ((sIndexAddr_ok (w := w) e (hρ a) (hρ i)).2 ob).2⟩⟩
  case index t a i =>
    refine vsV h fun x0 s1 e => ?_
    exact ⟨(sIndex_ok (w := w) e (hρ a) (hρ i)).1, fun ob => ⟨((sIndex_ok (w := w) e (hρ a) (hρ i)).2 ob).1, fun w => ((sIndex_ok (w := w) e (hρ a) (hρ i)).2 ob).2⟩⟩
  case lookup t m k ok => exact lsV h fun x0 s1 e => sLookup_ok e hr (hρ m) (hρ k)
  case typeAssert a xt at_ ok =>
    simp only [sOp] at h
    split at h
    · exact pureV (o := { dst := dst, op := .typeAssert a xt at_ ok, type := type, pos := pos, after := aft, guard := guard }) rfl _ h
    · exact vV h fun x0 e w => sTypeAssert_ok (xt := xt) e (hρ a)
  case extract t i =>
    simp only [sOp] at h
    split at h
    · rename_i l hl
      refine vV h fun x0 e w => ?_
      obtain ⟨a, he, ha⟩ := SV.tuple_ok hl (hρ t)
      obtain ⟨y, hy, hv⟩ := ha.get e
      refine ⟨y, ?_, hv⟩
      rw [he]
      simp [Instr.extract, hy]
    · cases h
  case call c =>
    obtain ⟨callee, args, ats⟩ := c
    cases callee with
    | value f => cases hf
    | invoke r n => cases hf
    | builtin b =>
      simp only [sOp] at h
      split at h
      · rename_i r hc
        obtain ⟨x0, s1⟩ := r
        have hx : x0 = x ∧ s1 = s' := by
          have := Option.some.inj h
          simpa using this
        obtain ⟨rfl, rfl⟩ := hx
        have harr : args.map ρ = (args.toList.map ρ).toArray := by apply Array.ext'; simp
        have ha := mapOpd_ok hρ args
        have look : ∀ {y : Value}, (builtin b ats type (args.map fun | .const _ => true | _ => false) (args.toList.map ρ).toArray).run E.P w = .ok (.value y) w → VR ν x0 y →
            QuietOut E (execOp ρ { dst := dst, op := .call { callee := .builtin b, args := args, argTypes := ats }, type := type, pos := pos, after := aft, guard := guard }) ν w x0 true := by
          intro y h1 h2
          refine ⟨⟨y, ?_, h2⟩, by intro h; cases h⟩
          simp only [execOp, resolve, harr]; exact h1
        cases b <;> try cases hf
        case h_1.cap.refl =>
          simp only [sBuiltin] at hc
          split at hc
          · rename_i t ts z hats hargs
            cases hz : sCap1 E t z with
            | none => rw [hz] at hc; cases hc
            | some y0 =>
            rw [hz] at hc; cases hc
            rw [hargs] at ha
            obtain ⟨y, ys, hl, hy, hys⟩ := ha.cons_inv
            obtain rfl := hys.nil_inv
            obtain ⟨yv, hrun, hv⟩ := sCap1_ok (w := w) (ats := ats) (ty := type) hz (by rw [ats_eq hats]; simp) hy
            refine ⟨.refl _, fun ob => ⟨ob, look (y := yv) ?_ hv⟩⟩
            rw [hl]; simp only [builtin, Sem.run_bind, hrun, Result.andThen_ok, Sem.run_pure]
          · cases hc
        case h_1.len.refl =>
          simp only [sBuiltin] at hc
          split at hc
          · rename_i t ts z hats hargs
            cases hz : sLen1 E t z s with
            | none => rw [hz] at hc; cases hc
            | some y0 =>
            rw [hz] at hc; cases hc
            rw [hargs] at ha
            obtain ⟨y, ys, hl, hy, hys⟩ := ha.cons_inv
            obtain rfl := hys.nil_inv
            obtain ⟨yv, hrun, hv⟩ := sLen1_ok (ats := ats) (ty := type) hz (by rw [ats_eq hats]; simp) hy hr
            refine ⟨.refl _, fun ob => ⟨ob, look (y := yv) ?_ hv⟩⟩
            rw [hl]; simp only [builtin, Sem.run_bind, hrun, Result.andThen_ok, Sem.run_pure]
          · cases hc
        all_goals (simp only [sBuiltin] at hc; cases hc)
      · exact pureV (o := { dst := dst, op := .call { callee := .builtin b, args := args, argTypes := ats }, type := type, pos := pos, after := aft, guard := guard }) rfl _ h

/-- The text of a row's bytes. -/
theorem sReadText_ok {src dst : TypeId} {a x : SV} {xv : Value} (h : sReadText E src dst a s = some x) (hr : HR ν M w0 s w) (ha : VR ν a xv) : ∃ y, (convert src dst xv).run E.P w = .ok y w ∧ VR ν x y := by
  unfold sReadText at h
  split at h
  · rename_i e i off len cap hs hd
    split at h
    · rename_i xs el fz ext mk he hl
      revert h
      cases hb : Nat.ble (off + len) xs.length
      · intro h; cases h
      · intro h
        simp only [cond_true] at h
        obtain ⟨ns, hbs, rfl⟩ := Option.map_eq_some_iff.1 h
        have hg := Nat.le_of_ble_eq_true hb
        obtain ⟨b, hb, _, rfl⟩ := VR.sl_iff.1 ha
        obtain ⟨_, _, b', o, hb', ho, hor, _⟩ := hr.look hl
        rw [hb] at hb'; cases hb'
        obtain ⟨ys, rest, rfl, hvl, _⟩ := hor
        have hlen := hvl.length
        have hcells := run_loadCells (P := E.P) (w := w) (b := b.1) (off := off) (n := len) (vs := (ys.drop off).take len) (by
          intro k hk
          rw [cell_at ho, List.getElem?_take, if_pos hk, List.getElem?_drop]
          have : off + k < ys.length := by omega
          simp [List.getElem?_append_left this]) (by simp; omega)
        rw [bytesOf_ok hbs ((hvl.drop off).take len)] at hcells
        refine ⟨_, ?_, VR.v_iff.2 rfl⟩
        rw [run_convert_bytes_string w src dst e _ _ _ hs he hd, run_bytesToString w _ _ _ ns hcells, foldl_byteStr]
    · cases h
  · cases h

theorem sQuiet_ok {tm : STm} {o : Oper} {x : SV} {ρ : Operand → Value} (hf : floats o.op = true) (h : sOpF E tm o s = some [(.val x, s')]) (hr : HR ν M w0 s w) (hρ : OpdR E ν tm ρ) :
    s.Same s' ∧ (s'.ob → s.ob ∧ QuietOut E (execOp ρ o) ν w x (looks o.op)) := by
  unfold sOpF at h
  split at h
  · rename_i a b c hop
    split at h
    · rename_i r hr'
      cases h
      obtain ⟨y, hy, hv⟩ := sReadText_ok hr' hr (hρ c)
      refine ⟨.refl _, fun ob => ⟨ob, ?_⟩⟩
      have hl : looks o.op = true := by rw [hop]; rfl
      have : execOp ρ o = (do pure (.value (← convert a b (ρ c)))) := by
        obtain ⟨dst, op, type, pos, aft, guard⟩ := o
        subst hop; rfl
      rw [hl, this]
      exact .ofLook ⟨y, hy, hv⟩
    cases hp : sPure E tm o with
    | none => rw [hp] at h; cases h
    | some x0 => rw [hp] at h; cases h; exact ⟨.refl _, fun ob => ⟨ob, sPure_quiet (by rw [hop]; rfl) hp hρ _⟩⟩
  · rename_i op t a b yt hop
    cases hfar : sEqlFar E t (evalOpd E tm a) (evalOpd E tm b) s
    · rw [hfar] at h
      simp only [cond_false] at h
      exact sQuiet_ok0 hf (fun a b c e => by rw [hop] at e; cases e) (fun _ _ _ _ _ e => by rw [hop] at e; cases e; exact hfar) h hr hρ
    · rw [hfar] at h; cases h
  · rename_i hn hn2
    exact sQuiet_ok0 hf (fun a b c e => hn a b c e) (fun _ _ _ _ _ e => (hn2 _ _ _ _ _ e).elim) h hr hρ

end
end Go.Rx
