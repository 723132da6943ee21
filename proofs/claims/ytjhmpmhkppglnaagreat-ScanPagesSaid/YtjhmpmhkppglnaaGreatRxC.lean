/- The symbolic executor 'Rx', part C: the executor itself (no proofs). By an AI agent. -/
import Derived.Test.YtjhmpmhkppglnaaGreatRxB
import GoSem.Extern.ReflectliteValue
set_option linter.unusedVariables false
set_option linter.unusedSimpArgs false
namespace Go.Rx

inductive SI where
  | code (c : Code)
  | inBlock (id : Nat)
  | inLoop (body : Code)
  | inScope (body : Code)
  | reg (ops : Array Oper) (todo : List Nat)
  | drw (ops : Array Oper) (rem pend : List Nat)
  | inRF (i : Nat)
  | endRF (i : Nat)
  | beginRound

structure SF where
  fn : FuncId
  tm : STm
  todo : List SI
  defers : List SDef
  ret : Bool
  kind : CallKind
  ro : Option Nat

structure SM where
  top : SF
  callers : List SF
  mem : SH

inductive SNext where
  | val (x : SV)
  | enter (f : FuncId) (args : List SV)
  | round (i : Nat) (args : List SV)
  | defer (d : SDef)

/-- A function without a body: what the model does in its place. -/
inductive ExtK where
  | same
  | pure (f : Array Value → Sem Value)
  | makeNoZero (params : Array TypeId) (t : TypeId)
  | mapsClone
  | typeOf
  | valueOf
  | valType
  | valIsNil
  | valElem
  | valSet

structure Env where
  P : Program
  ext : FuncId → Option ExtK
  G : List (Nat × Nat)
  orc : Nat → Option Bool
  sums : FuncId → Option (List SV → SH → Option (SV × SH))
  qs : FuncId → Option (List SV → Option (List SV))

def SH.says (s : SH) (E : Env) : Option Bool := match s.orc s.dc with | some (.b t) => some t | _ => E.orc s.dc

/-- A choice: as the oracle says (and then it is owed), or as it is reckoned. -/
def SH.dec (s : SH) (E : Env) (b : Bool) : Bool × SH :=
  match s.says E with
  | some t => (t, { s with obl := (b = t) :: s.obl, dc := s.dc + 1 })
  | none => (b, { s with dc := s.dc + 1 })

/-- What must hold. -/
def SH.ask (s : SH) (E : Env) (b : Bool) : Option SH :=
  match s.says E with
  | some _ => some { s with obl := (b = true) :: s.obl, dc := s.dc + 1 }
  | none => bif s.soft then some { s with obl := (b = true) :: s.obl, dc := s.dc + 1 } else bif b then some { s with dc := s.dc + 1 } else none

def guard' (b : Bool) : Option Unit := bif b then some () else none

/-! ### values -/

def SV.flat : SV → Bool
  | .agg _ | .tup _ | .junk => false
  | .v (.agg _) | .v (.tuple _) => false
  | _ => true

def SV.cells : SV → Option (List SV)
  | .agg l => some l
  | .v (.agg cs) => some (cs.toList.map .v)
  | .junk => none
  | x => some [x]

def SV.tuple : SV → Option (List SV)
  | .tup l => some l
  | .v (.tuple vs) => some (vs.toList.map .v)
  | _ => none

def evalOpd (E : Env) (tm : STm) : Operand → SV
  | .tmp t => tm.get t
  | .const v => .v v
  | .global g => match E.G.lookup g with | some i => .ptr i 0 | none => .v (.pointer (some ⟨g, 0, none⟩))
  | .func f => .v (.func (.func f) #[] #[])

mutual
def plainV : SV → Option Value
  | .v x => some x
  | .agg l => (plainVs l).map fun vs => .agg vs.toArray
  | .tup l => (plainVs l).map fun vs => .tuple vs.toArray
  | .iface t x => (plainV x).map (.iface t ·)
  | .junk => none
  | .ptr _ _ => none
  | .sl _ _ _ _ => none
  | .map _ => none
  | .func _ _ _ => none
  | .yield _ => none
  | .fin _ _ _ _ => none
def plainVs : List SV → Option (List Value)
  | [] => some []
  | x :: xs => match plainV x, plainVs xs with
    | some v, some vs => some (v :: vs)
    | _, _ => none
end

def pureRun {α : Type} (P : Program) : Sem α → Option α
  | .pure a => some a
  | .program k => pureRun P (k P)
  | _ => none

def allPlain (E : Env) (tm : STm) (l : List Operand) : Bool := l.all fun x => (plainV (evalOpd E tm x)).isSome

/-- An operation over plain values, by the model's own meaning, where that looks at no memory. -/
def sPure (E : Env) (tm : STm) (o : Oper) : Option SV :=
  bif allPlain E tm o.op.operands.toList then
  match pureRun E.P (execOp (fun x => (plainV (evalOpd E tm x)).getD undef) o) with
  | some (.value x) => some (.v x)
  | _ => none
  else none

def tdesc (E : Env) (t : TypeId) : Option TypeDesc := E.P.underlying t
def tinfo (E : Env) (t : TypeId) : Option TypeInfo := E.P.info? t

def aggType (E : Env) (t : TypeId) : Option Bool :=
  match tdesc E t with
  | some (.struct _) | some (.array _ _) => some true
  | some _ => some false
  | none => none

/-! ### memory -/

def fzOk (fz : Nat × Nat) (off n : Nat) : Bool := Nat.ble fz.2 fz.1 || Nat.ble (off + n) fz.1 || Nat.ble fz.2 off

/-- Something is owed. -/
def SH.owe (s : SH) (p : Prop) : SH := { s with obl := p :: s.obl, dc := s.dc + 1 }

/-- The cells of a row that are told. -/
def SO.told : SO → Option (List SV)
  | .row xs _ _ _ => some xs
  | .look xs => some xs
  | _ => none

/-- Cells that lie where it is told only by letters. -/
def sLoadQ (E : Env) (t : TypeId) (a : SV) (l : List SV) (s : SH) : Option (SV × SH) :=
  match a, aggType E t, tinfo E t with
  | .ptr i off, some ag, some info =>
    match (s.look i).bind (·.1.told) with
    | some xs =>
      bif ag then some (.agg l, s.owe ((xs.drop off).take info.size = l ∧ l.length = info.size))
      else match l with
        | [x] => some (x, s.owe (xs[off]? = some x))
        | _ => none
    | none => none
  | _, _, _ => none

def sLoad0 (E : Env) (t : TypeId) (a : SV) (s : SH) : Option (SV × SH) :=
  match a, aggType E t, tinfo E t with
  | .ptr i off, some false, _ =>
    match s.look i with
    | some (.row xs _ _ _, _) => (xs[off]?).map (·, s)
    | some (.look xs, _) => (xs[off]?).map (·, s)
    | some (.rowO n f _ _ _, _) => (s.ask E (Nat.blt off n)).map (SV.v (f off), ·)
    | _ => none
  | .ptr i off, some true, some info =>
    match s.look i with
    | some (.row xs _ _ _, _) => bif Nat.ble (off + info.size) xs.length then some (.agg ((xs.drop off).take info.size), s) else none
    | some (.rowO n f _ _ _, _) => (s.ask E (Nat.ble (off + info.size) n)).map (SV.agg ((List.range info.size).map fun k => .v (f (off + k))), ·)
    | _ => none
  | _, _, _ => none

def sLoad (E : Env) (t : TypeId) (a : SV) (s : SH) : Option (SV × SH) :=
  match s.orc s.dc with
  | some (.cells l) => sLoadQ E t a l s
  | _ => sLoad0 E t a s

/-- A row with the cells from 'off' on overwritten: in one go (a row may be long). -/
def splice : List SV → Nat → List SV → List SV
  | [], _, _ => []
  | x :: xs, 0, ys => match ys with | [] => x :: xs | y :: zs => y :: splice xs 0 zs
  | x :: xs, k + 1, ys => x :: splice xs k ys
theorem splice_nil : ∀ (xs : List SV) (off : Nat), splice xs off [] = xs
  | [], _ => rfl
  | x :: xs, 0 => rfl
  | x :: xs, k + 1 => by rw [splice, splice_nil xs k]
theorem splice_cons : ∀ (xs : List SV) (off : Nat) (y : SV) (ys : List SV), splice xs off (y :: ys) = splice (xs.set off y) (off + 1) ys
  | [], _, _, _ => rfl
  | x :: xs, 0, _, _ => rfl
  | x :: xs, k + 1, y, ys => by rw [splice, splice_cons xs k y ys, List.set_cons_succ, splice]

def sStoreQ (E : Env) (t : TypeId) (a x : SV) (s : SH) : Option SH :=
  match a, x.cells, tinfo E t with
  | .ptr i off, some l, some info =>
    bif l.length == info.size && l.all SV.flat then
      match s.look i with
      | some (.row xs e fz ext, true) => some ((s.owe (off + l.length ≤ xs.length ∧ fzOk fz off l.length = true)).put i (.row (splice xs off l) e fz ext))
      | _ => none
    else none
  | _, _, _ => none

def sStore0 (E : Env) (t : TypeId) (a x : SV) (s : SH) : Option SH :=
  match a, x.cells, tinfo E t with
  | .ptr i off, some l, some info =>
    bif l.length == info.size && l.all SV.flat then
      match s.look i with
      | some (.row xs e fz ext, true) =>
        bif Nat.ble (off + l.length) xs.length && fzOk fz off l.length then some (s.put i (.row (splice xs off l) e fz ext)) else none
      | _ => none
    else none
  | _, _, _ => none

def sStore (E : Env) (t : TypeId) (a x : SV) (s : SH) : Option SH :=
  match s.orc s.dc with
  | some .put => sStoreQ E t a x s
  | _ => sStore0 E t a x s

def sNew (o : SO) (s : SH) : Option (Nat × SH) := bif s.room then some (s.nx, s.new o) else none

def sBox (t : TypeId) (x : SV) (s : SH) : Option (SV × SH) := do
  let l ← x.cells
  let (i, s) ← sNew (.row l t (0, 0) none) s
  some (.ptr i 0, s)

def sAlloc (E : Env) (t : TypeId) (s : SH) : Option (SV × SH) := do
  let info ← tinfo E t
  let z ← info.zero
  sBox t (.v z) s

def sFieldAddr (E : Env) (t : TypeId) (x : SV) (f : Nat) : Option SV :=
  match x, tdesc E t with
  | .ptr i off, some (.struct fields) =>
    match fields[f]? with
    | some fd => match tinfo E fd.type with
      | some info => bif info.size == 0 then none else some (.ptr i (off + fd.offset))
      | none => none
    | none => none
  | _, _ => none

def sField (E : Env) (t : TypeId) (x : SV) (f : Nat) : Option SV :=
  match x, tdesc E t with
  | .agg l, some (.struct fields) =>
    match fields[f]? with
    | some fd => match aggType E fd.type, tinfo E fd.type with
      | some false, _ => l[fd.offset]?
      | some true, some info => bif Nat.ble (fd.offset + info.size) l.length then some (.agg ((l.drop fd.offset).take info.size)) else none
      | _, _ => none
    | none => none
  | _, _ => none

def SV.int : SV → Option (IntKind × Int)
  | .v (.int k n) => some (k, n)
  | _ => none

def inRange (i : Int) (n : Nat) : Bool := decide (0 ≤ i ∧ i < n)

def sIndexAddr (E : Env) (t : TypeId) (x i : SV) (s : SH) : Option (SV × SH) :=
  match i.int, tdesc E t, x with
  | some (_, n), some (.array len elem), .ptr b off => do
    let s ← s.ask E (inRange n len)
    let info ← tinfo E elem
    some (.ptr b (off + n.toNat * info.size), s)
  | some (_, n), some (.slice elem), .sl b off len _ => do
    let s ← s.ask E (inRange n len)
    let info ← tinfo E elem
    some (.ptr b (off + n.toNat * info.size), s)
  | _, _, _ => none

def sIndex (E : Env) (t : TypeId) (x i : SV) (s : SH) : Option (SV × SH) :=
  match i.int, tdesc E t, x with
  | some (_, n), some (.array len elem), .agg l => do
    let s ← s.ask E (inRange n len)
    let info ← tinfo E elem
    match aggType E elem with
    | some false => (l[n.toNat * info.size]?).map (·, s)
    | some true => bif Nat.ble (n.toNat * info.size + info.size) l.length then some (.agg ((l.drop (n.toNat * info.size)).take info.size), s) else none
    | none => none
  | some (_, n), some (.array len elem), .v (.agg cs) => do
    let s ← s.ask E (inRange n len)
    let info ← tinfo E elem
    match aggType E elem with
    | some false => (cs[n.toNat * info.size]?).map (SV.v ·, s)
    | _ => none
  | some (_, n), some .string, .v (.string b) => do
    let s ← s.ask E (inRange n b.size)
    some (.v (.int .u8 ((b.data.getD n.toNat 0).toNat)), s)
  | _, _, _ => none

def optInt : Option SV → Option (Option Int)
  | none => some none
  | some x => match x.int with | some (_, n) => some (some n) | none => none

/-- The bounds of a slice expression: low, high. -/
def sBounds (E : Env) (len cap : Nat) (lo hi : Option Int) (s : SH) : Option (Nat × Nat × SH) := do
  let (h, s) ← match hi with
    | none => some (len, s)
    | some n => (s.ask E (decide (0 ≤ n ∧ n ≤ cap))).map (n.toNat, ·)
  let (l, s) ← match lo with
    | none => some (0, s)
    | some n => (s.ask E (decide (0 ≤ n ∧ n ≤ h))).map (n.toNat, ·)
  some (l, h, s)

def sBounds3 (E : Env) (m : Nat) (lo hi : Option Int) (s : SH) : Option (Nat × Nat × SH) := do
  let n ← hi
  let s ← s.ask E (decide (0 ≤ n ∧ n ≤ m))
  let (l, s) ← match lo with
    | none => some (0, s)
    | some k => (s.ask E (decide (0 ≤ k ∧ k ≤ n.toNat))).map (k.toNat, ·)
  some (l, n.toNat, s)

def sSlice (E : Env) (t : TypeId) (x : SV) (lo hi mx : Option SV) (s : SH) : Option (SV × SH) := do
  let lo ← optInt lo
  let hi ← optInt hi
  match tdesc E t, x, mx with
  | some .string, .v (.string b), none => do
    let (l, h, s) ← sBounds E b.size b.size lo hi s
    some (.v (.string (b.extract l h)), s)
  | some (.array n elem), .ptr b off, none => do
    let (l, h, s) ← sBounds E n n lo hi s
    let info ← tinfo E elem
    bif n == l then none else some (.sl b (off + l * info.size) (h - l) (some (n - l)), s)
  | some (.slice elem), .sl b off len (some cap), none => do
    let (l, h, s) ← sBounds E len cap lo hi s
    let info ← tinfo E elem
    let (e, s) := s.dec E (decide (cap = l))
    bif e then some (.sl b off (h - l) (some (cap - l)), s) else some (.sl b (off + l * info.size) (h - l) (some (cap - l)), s)
  | some (.slice elem), .sl b off len none, none => do
    let (l, h, s) ← sBounds E len len lo hi s
    let info ← tinfo E elem
    let (e, s) := s.dec E (l == 0)
    bif e then some (.sl b off h none, s) else
    (s.ask E (info.size == 1 && Nat.blt l len)).map fun s => (.sl b (off + l) (h - l) none, s)
  | some (.slice elem), .fin b off len adv, none => do
    let (_, _, s) ← sBounds E 0 0 lo hi s
    let _ ← tinfo E elem
    some (.fin b off len adv, s)
  | some (.slice elem), .sl b off len cap, some mx => do
    let m ← mx.int
    guard' hi.isSome
    let s ← s.ask E (decide (0 ≤ m.2 ∧ m.2 ≤ cap.getD len))
    let (l, h, s) ← sBounds3 E m.2.toNat lo hi s
    let info ← tinfo E elem
    let (e, s) := s.dec E (decide (m.2.toNat = l))
    bif e then some (.sl b off (h - l) (some (m.2.toNat - l)), s) else some (.sl b (off + l * info.size) (h - l) (some (m.2.toNat - l)), s)
  | _, _, _ => none

/-- The end of a slice of which it is not told whether it has room. -/
def sSliceB (E : Env) (t : TypeId) (x : SV) (lo hi mx : Option SV) (s : SH) : Option (List (SV × SH)) := do
  let lo ← optInt lo
  let hi ← optInt hi
  match tdesc E t, x, mx with
  | some (.slice elem), .sl b off len none, none => do
    let (l, h, s) ← sBounds E len len lo hi s
    let info ← tinfo E elem
    bif (info.size == 1 || off == 0) && Nat.beq l len && Nat.beq h len then some [(.fin b off l (l * info.size), s)] else none
  | _, _, _ => none

def zeros (info : TypeInfo) (n : Nat) : Option (List SV) :=
  match info.zero with
  | some z => bif z.cells.size == info.size then some ((List.replicate n (z.cells.toList.map SV.v)).flatten) else none
  | none => none

def sMakeSlice (E : Env) (t : TypeId) (len cap : SV) (s : SH) : Option (SV × SH) := do
  let (_, l) ← len.int
  let (_, c) ← cap.int
  match tdesc E t with
  | some (.slice elem) =>
    let info ← tinfo E elem
    guard' (decide (0 ≤ l ∧ l ≤ c ∧ info.bytes * c ≤ 2 ^ 40 ∧ c ≤ 2 ^ 40))
    let zs ← zeros info c.toNat
    let (i, s) ← sNew (.row zs elem (0, 0) none) s
    some (.sl i 0 l.toNat (some c.toNat), s)
  | _ => none

def fillS (place : Nat → Option (Nat × Nat)) (cells : List SV) : List (Nat × SV) → Option (List SV)
  | [] => some cells
  | (i, x) :: rest =>
    match place i, x.cells with
    | some (off, size), some l => bif l.length == size && Nat.ble (off + l.length) cells.length then fillS place (splice cells off l) rest else none
    | _, _ => none

def placesOf (E : Env) (fields : List Field) : Option (List (Nat × Nat)) :=
  match fields with
  | [] => some []
  | f :: fs => match tinfo E f.type, placesOf E fs with
    | some info, some l => some ((f.offset, info.size) :: l)
    | _, _ => none

def sBuild (E : Env) (t : TypeId) (parts : List (Nat × SV)) : Option SV := do
  let info ← tinfo E t
  let z ← info.zero
  match tdesc E t with
  | some (.struct fields) =>
    let pl ← placesOf E fields.toList
    (fillS (pl[·]?) (z.cells.toList.map .v) parts).map .agg
  | some (.array _ elem) =>
    let ei ← tinfo E elem
    (fillS (fun i => some (i * ei.size, ei.size)) (z.cells.toList.map .v) parts).map .agg
  | _ => none

def sBuildSlice (E : Env) (t : TypeId) (len : Nat) (parts : List (Nat × SV)) (s : SH) : Option (SV × SH) := do
  match tdesc E t with
  | some (.slice elem) =>
    let info ← tinfo E elem
    guard' (Nat.ble (len * info.size) 16777216)
    let zs ← zeros info len
    let l ← fillS (fun i => some (i * info.size, info.size)) zs parts
    let (i, s) ← sNew (.row l elem (0, 0) none) s
    some (.sl i 0 len (some len), s)
  | _ => none

/-- The first n elements' cells. -/
def sFirst (size n : Nat) (x : SV) (s : SH) : Option (List SV) :=
  match x with
  | .v (.slice none _ _) => some []
  | .v (.string b) => some ((b.extract 0 n).data.toList.map fun c => .v (.int .u8 c.toNat))
  | .fin _ _ _ _ => bif n == 0 then some [] else none
  | .sl i off _ _ => match s.look i with
    | some (.row xs _ _ _, _) => bif Nat.ble (off + n * size) xs.length then some ((xs.drop off).take (n * size)) else none
    | _ => none
  | _ => none

def sLen : SV → Option Nat
  | .v (.slice _ n _) => some n
  | .v (.string b) => some b.size
  | .sl _ _ n _ => some n
  | .fin _ _ _ _ => some 0
  | _ => none

/-- An append that grows. -/
def sGrow (info : TypeInfo) (elem : TypeId) (old new : List SV) (need : Nat) (s : SH) : Option (SV × SH) := do
  let z ← info.zero
  guard' (z.cells.size == info.size && Nat.ble ((2 * need + 1024) * info.bytes) (2 ^ 47) && !(info.bytes == 0))
  let (i, s) ← sNew (.row (old ++ new) elem (0, 0) (some info.size)) s
  some (.sl i 0 need none, s)

/-- What is appended: how many elements, and their cells. -/
def sAppended (E : Env) (xt : TypeId) (info : TypeInfo) (y : SV) (s : SH) : Option (Nat × List SV) :=
  match tdesc E xt with
  | some (.int _) => match y with
    | .v (.int _ m) => bif decide (0 ≤ m ∧ m ≤ 2 ^ 40) && Nat.ble (m.toNat * info.bytes) (2 ^ 47) then (zeros info m.toNat).map (m.toNat, ·) else none
    | _ => none
  | some _ => (sLen y).bind fun n => (sFirst info.size n y s).bind fun new => bif new.length == n * info.size then some (n, new) else none
  | none => none

/-- An append that grows, where it is owed that it may. -/
def sGrowQ (info : TypeInfo) (elem : TypeId) (old new : List SV) (need : Nat) (s : SH) : Option (SV × SH) :=
  (sNew (.row (old ++ new) elem (0, 0) (some info.size)) s).map fun p => (.sl p.1 0 need none, p.2)

/-- What is appended, by letters: how many elements, and what is owed for their cells to be 'new'. -/
def appendedQ (E : Env) (xt : TypeId) (info : TypeInfo) (y : SV) (new : List SV) (s : SH) : Option (Nat × Prop) :=
  match tdesc E xt with
  | some (.int _) => none
  | some _ => match y with
    | .v (.string b) => some (b.size, (b.data.toList.map fun c => SV.v (.int .u8 c.toNat)) = new)
    | .v (.slice none m _) => some (m, [] = new)
    | .sl i off len _ => ((s.look i).bind (·.1.told)).map fun xs => (len, (xs.drop off).take (len * info.size) = new)
    | _ => none
  | none => none

/-- An append to a row of which it is told by letters alone what it has. -/
def sAppendQ (E : Env) (st xt : TypeId) (x y : SV) (old new : List SV) (s : SH) : Option (SV × SH) :=
  match tdesc E st with
  | some (.slice elem) =>
    (tinfo E elem).bind fun info => info.zero.bind fun z => (appendedQ E xt info y new s).bind fun q =>
      bif z.cells.size == info.size && !(info.bytes == 0) && !(info.size == 0) then
        match x with
        | .v (.slice none 0 0) => sGrowQ info elem [] new q.1 (s.owe (((q.2 ∧ new.length = q.1 * info.size) ∧ q.1 ≠ 0 ∧ (2 * q.1 + 1024) * info.bytes ≤ 2 ^ 47) ∧ old = []))
        | .sl i off len (some cap) => ((s.look i).bind (·.1.told)).bind fun xs =>
          sGrowQ info elem old new (len + q.1) (s.owe (((q.2 ∧ new.length = q.1 * info.size) ∧ q.1 ≠ 0 ∧ (2 * (len + q.1) + 1024) * info.bytes ≤ 2 ^ 47) ∧ (xs.drop off).take (len * info.size) = old ∧ old.length = len * info.size ∧ cap < len + q.1))
        | .sl i 0 len none =>
          match s.look i with
          | some (.row xs el (0, 0) (some es), true) =>
            bif es == info.size && el == elem then
              sGrowQ info elem old new (len + q.1) ((s.owe (((q.2 ∧ new.length = q.1 * info.size) ∧ q.1 ≠ 0 ∧ (2 * (len + q.1) + 1024) * info.bytes ≤ 2 ^ 47) ∧ xs.take (len * info.size) = old ∧ old.length = len * info.size ∧ new.all SV.flat = true)).drop i)
            else none
          | _ => none
        | _ => none
      else none
  | _ => none

/-- An append of nothing, by letters. -/
def sAppend1 (E : Env) (st xt : TypeId) (x y : SV) (s : SH) : Option (SV × SH) :=
  match tdesc E st with
  | some (.slice elem) =>
    (tinfo E elem).bind fun info => (appendedQ E xt info y [] s).bind fun q =>
      match x with
      | .v (.slice none 0 0) | .sl _ _ _ _ => some (x, s.owe (q.2 ∧ q.1 = 0))
      | _ => none
  | _ => none

def sAppend0 (E : Env) (st xt : TypeId) (x y : SV) (s : SH) : Option (SV × SH) := do
  match tdesc E st with
  | some (.slice elem) =>
    let info ← tinfo E elem
    let (n, new) ← sAppended E xt info y s
    match x with
    | .v (.slice none 0 0) =>
      let (e, s) := s.dec E (decide (n = 0))
      bif e then some (.v (.slice none 0 0), s) else sGrow info elem [] new n s
    | .sl i off len (some cap) =>
      let (e, s) := s.dec E (decide (len + n ≤ cap))
      bif e then
        match s.look i with
        | some (.row xs el fz ext, true) =>
          bif Nat.ble (off + len * info.size + new.length) xs.length && fzOk fz (off + len * info.size) new.length && new.all SV.flat then
            some (.sl i off (len + n) (some cap), s.put i (.row (splice xs (off + len * info.size) new) el fz ext))
          else none
        | _ => none
      else do
        let old ← sFirst info.size len x s
        sGrow info elem old new (len + n) s
    | .sl i 0 len none =>
      let (e, s) := s.dec E (decide (n = 0))
      bif e then some (x, s) else
      match s.look i with
      | some (.row xs el (0, 0) (some es), true) =>
        bif (es == info.size && !(info.size == 0)) && Nat.ble (len * info.size) xs.length && new.all SV.flat && el == elem then
          bif Nat.ble ((len + n) * info.size) xs.length then
            some (.sl i 0 (len + n) none, s.put i (.row (splice xs (len * info.size) new) el (0, 0) (some es)))
          else do
            let z ← info.zero
            guard' (z.cells.size == info.size && Nat.ble ((2 * (len + n) + 1024) * info.bytes) (2 ^ 47) && !(info.bytes == 0))
            let (j, s) ← sNew (.row (xs.take (len * info.size) ++ new) elem (0, 0) (some es)) (s.drop i)
            some (.sl j 0 (len + n) none, s)
        else none
      | _ => none
    | _ => none
  | _ => none

def sAppend (E : Env) (st xt : TypeId) (x y : SV) (s : SH) : Option (SV × SH) :=
  match s.orc s.dc with
  | some (.app old new) => sAppendQ E st xt x y old new s
  | some .app0 => sAppend1 E st xt x y s
  | _ => sAppend0 E st xt x y s

def sCopy (E : Env) (dt : TypeId) (x y : SV) (s : SH) : Option (SV × SH) := do
  match tdesc E dt with
  | some (.slice elem) =>
    let info ← tinfo E elem
    let m ← sLen y
    match x with
    | .v (.slice none 0 0) => (sFirst info.size (Nat.min m 0) y s).map fun _ => (.v (.int .i64 0), s)
    | .sl i off len _ =>
      let n := Nat.min m len
      let l ← sFirst info.size n y s
      match s.look i with
      | some (.row xs e fz ext, true) =>
        bif Nat.ble (off + l.length) xs.length && fzOk fz off l.length && l.all SV.flat then
          some (.v (.int .i64 n), s.put i (.row (splice xs off l) e fz ext))
        else none
      | _ => none
    | _ => none
  | _ => none

/-! ### maps -/

/-- Is a key this one? (Keys that are numbers, texts, truths.) -/
def keyIs (E : Env) (kd : TypeDesc) (k k' : SV) (s : SH) : Option (Bool × SH) :=
  match kd, k, k' with
  | .int _, .v (.int a x), .v (.int b y) => bif a == b then some (s.dec E (x == y)) else none
  | .string, .v (.string x), .v (.string y) => some (s.dec E (x == y))
  | .bool, .v (.bool x), .v (.bool y) => some (s.dec E (x == y))
  | _, _, _ => none

def findS (E : Env) (kd : TypeDesc) (k : SV) : List (SV × SV × Nat) → Nat → SH → Option (Option (Nat × SV × Nat) × SH)
  | [], _, s => some (none, s)
  | e :: es, i, s =>
    match keyIs E kd k e.1 s with
    | some (true, s) => some (some (i, e.2.1, e.2.2), s)
    | some (false, s) => findS E kd k es (i + 1) s
    | none => none

def keyDesc (E : Env) (t : TypeId) : Option TypeDesc :=
  match tdesc E t with
  | some (.int k) => some (.int k)
  | some .string => some .string
  | some .bool => some .bool
  | _ => none

def sLookup (E : Env) (t : TypeId) (m k : SV) (ok : Bool) (s : SH) : Option (SV × SH) := do
  match tdesc E t with
  | some (.map kt et) =>
    let kd ← keyDesc E kt
    let zi ← tinfo E et
    let z ← zi.zero
    let es ← match m with
      | .v (.map none) => some []
      | .map i => match s.look i with | some (.map es _, _) => some es | _ => none
      | _ => none
    let (r, s) ← findS E kd k es 0 s
    match r with
    | some (_, x, _) => some (bif ok then .tup [x, .v (.bool true)] else x, s)
    | none => some (bif ok then .tup [.v z, .v (.bool false)] else .v z, s)
  | _ => none

def sMapUpdate (E : Env) (t : TypeId) (m k x : SV) (s : SH) : Option SH := do
  match tdesc E t, m with
  | some (.map kt _), .map i =>
    let kd ← keyDesc E kt
    match s.look i with
    | some (.map es clock, true) =>
      let (r, s) ← findS E kd k es 0 s
      match r with
      | some (j, _, _) => some (s.put i (.map (es.modify j fun e => (k, x, e.2.2)) clock))
      | none => some (s.put i (.map (es ++ [(k, x, clock)]) (clock + 1)))
    | _ => none
  | _, _ => none

def sMapEntry (E : Env) (t : TypeId) (m k : SV) (s : SH) : Option (SV × SH) := do
  match tdesc E t, m with
  | some (.map kt et), .map i =>
    let kd ← keyDesc E kt
    match s.look i with
    | some (.map es clock, true) =>
      let (r, s) ← findS E kd k es 0 s
      match r with
      | some (j, x, born) => some (.tup [x, .v (.int .i64 born)], s.put i (.map (es.modify j fun e => (k, e.2.1, e.2.2)) clock))
      | none =>
        let zi ← tinfo E et
        let z ← zi.zero
        some (.tup [.v z, .v (.int .i64 clock)], s.put i (.map (es ++ [(k, .v z, clock)]) (clock + 1)))
    | _ => none
  | _, _ => none

def findBorn (born : Int) : List (SV × SV × Nat) → Nat → Option Nat
  | [], _ => none
  | e :: es, i => bif decide ((e.2.2 : Int) = born) then some i else findBorn born es (i + 1)

def sEntryStore (m st x : SV) (s : SH) : Option SH := do
  match m, st.int with
  | .map i, some (_, born) =>
    match s.look i with
    | some (.map es clock, true) =>
      let j ← findBorn born es 0
      some (s.put i (.map (es.modify j fun e => (e.1, x, e.2.2)) clock))
    | _ => none
  | _, _ => none

def sDelete (E : Env) (t : TypeId) (m k : SV) (s : SH) : Option (SV × SH) := do
  match tdesc E t with
  | some (.map kt _) =>
    let kd ← keyDesc E kt
    match m with
    | .v (.map none) => some (.v (.tuple #[]), s)
    | .map i => match s.look i with
      | some (.map es clock, true) =>
        let (r, s) ← findS E kd k es 0 s
        match r with
        | some (j, _, _) => some (.v (.tuple #[]), s.put i (.map (es.eraseIdx j) clock))
        | none => some (.v (.tuple #[]), s)
      | _ => none
    | _ => none
  | _ => none

def sRange (E : Env) (t : TypeId) (x : SV) (s : SH) : Option (SV × SH) := do
  match tdesc E t, x with
  | some .string, .v (.string b) =>
    let (i, s) ← sNew (.siter b 0) s
    some (.ptr i 0, s)
  | some (.map _ _), .v (.map none) =>
    let (i, s) ← sNew (.miter none 0 [] 0) s
    some (.ptr i 0, s)
  | some (.map _ _), .map m =>
    match s.look m with
    | some (.map _ clock, _) =>
      let (i, s) ← sNew (.miter (some m) clock [] clock) s
      some (.ptr i 0, s)
    | _ => none
  | _, _ => none

/-- One step of an iterator: all that may come. -/
def sNextIt (x : SV) (isString : Bool) (s : SH) : Option (List (SV × SH)) :=
  match x, isString with
  | .ptr i 0, true =>
    match s.look i with
    | some (.siter b pos, true) =>
      bif Nat.blt pos b.size then
        some [(.tup [.v (.bool true), .v (.int .i64 pos), .v (.int .i32 (Utf8.decode b pos).1)], s.put i (.siter b (pos + (Utf8.decode b pos).2)))]
      else some [(.v (.tuple #[.bool false]), s)]
    | _ => none
  | .ptr i 0, false =>
    match s.look i with
    | some (.miter none _ _ _, _) => some [(.v (.tuple #[.bool false]), s)]
    | some (.miter (some m) since seen last, true) =>
      match s.look m with
      | some (.map es clock, _) =>
        bif !seen.isEmpty && !es.isEmpty && es.all (fun e => Nat.ble last e.2.2) then none else
        let left := es.filter fun e => !seen.contains e.2.2
        let old := left.filter fun e => Nat.blt e.2.2 since
        let new := left.filter fun e => Nat.ble since e.2.2
        let go := (old ++ new).map fun e => (SV.tup [.v (.bool true), e.1, e.2.1], s.put i (.miter (some m) since (seen ++ [e.2.2]) clock))
        some (bif old.isEmpty then (.v (.tuple #[.bool false]), s) :: go else go)
      | _ => none
    | _ => none
  | _, _ => none

/-- The entry at which an iterator stands. -/
def sEntry (x : SV) (s : SH) : Option SV :=
  match x with
  | .ptr i 0 =>
    match s.look i with
    | some (.miter (some m) _ seen stepped, _) =>
      match s.look m, seen.getLast? with
      | some (.map es clock, _), some stamp =>
        bif Nat.beq clock stepped then (es.find? fun e => Nat.beq e.2.2 stamp).map fun e => .tup [e.1, e.2.1] else none
      | _, _ => none
    | _ => none
  | _ => none

/-! ### interfaces, functions -/

def methodsMiss (want : Array (String × TypeId)) (got : Array Method) : Bool := want.toList.any fun x => !got.any fun m => m.name == x.1 && m.sig == x.2

def sTypeAssert (E : Env) (x : SV) (asserted : TypeId) (ok : Bool) : Option SV :=
  match tdesc E asserted, tinfo E asserted with
  | some (.interface want), some ai =>
    match x with
    | .iface t y => match tinfo E t with
      | some ti => bif methodsMiss want ti.methods then (bif ok then ai.zero.map fun z => .tup [.v z, .v (.bool false)] else none)
        else some (bif ok then .tup [.iface t y, .v (.bool true)] else .iface t y)
      | none => none
    | _ => none
  | some _, some ai =>
    match x with
    | .iface t y => bif t == asserted then some (bif ok then .tup [y, .v (.bool true)] else y)
      else bif ok then ai.zero.map fun z => .tup [.v z, .v (.bool false)] else none
    | _ => none
  | _, _ => none

def sNil : SV → Option Bool
  | .v (.pointer none) | .v .nilIface | .v .nilFunc | .v (.map none) | .v (.slice none _ _) => some true
  | .ptr _ _ | .sl _ _ _ _ | .map _ | .iface _ _ | .func _ _ _ | .yield _ | .fin _ _ _ _ => some false
  | _ => none

/-- '==' of what two interface values of one type hold. -/
def sEqI (E : Env) (t : TypeId) (x y : SV) (s : SH) : Option (Bool × SH) :=
  match tinfo E t, tdesc E t, x, y with
  | some info, some (.pointer e), .ptr i o, .ptr j p =>
    bif info.comparable && i == j then
      match tinfo E e with
      | some ei => bif ei.size == 0 then none else some (o == p, s)
      | none => none
    else none
  | some info, some _, .v x, .v y => bif info.comparable then (pureRun E.P (Op.equalIn 9999 t x y)).map (·, s) else none
  | _, _, _, _ => none

/-- '==' where an address, an interface value or a function stands at one side and nil at the other; or two places. -/
def sEql (E : Env) (t : TypeId) (x y : SV) (s : SH) : Option (Bool × SH) :=
  match tdesc E t, x, y with
  | some (.pointer e), .ptr i o, .ptr j p =>
    bif i == j then
      match tinfo E e with
      | some info => bif info.size == 0 then none else some (o == p, s)
      | none => none
    else none
  | some (.pointer _), .v (.pointer none), .ptr _ _ | some (.pointer _), .ptr _ _, .v (.pointer none) => some (false, s)
  | some (.slice _), .v (.slice none _ _), .sl _ _ _ _ | some (.slice _), .sl _ _ _ _, .v (.slice none _ _) => some (false, s)
  | some (.slice _), .v (.slice none _ _), .fin _ _ _ _ | some (.slice _), .fin _ _ _ _, .v (.slice none _ _) => some (false, s)
  | some (.map _ _), .v (.map none), .map _ | some (.map _ _), .map _, .v (.map none) => some (false, s)
  | some (.interface _), .v .nilIface, .iface _ _ | some (.interface _), .iface _ _, .v .nilIface => some (false, s)
  | some (.interface _), .iface t x, .iface u y => bif t == u then sEqI E t x y s else some (false, s)
  | some (.func _ _ _), .v .nilFunc, .func _ _ _ | some (.func _ _ _), .func _ _ _, .v .nilFunc => some (false, s)
  | _, _, _ => none

/-- Two places in two objects. -/
def sEqlFar (E : Env) (t : TypeId) (x y : SV) (s : SH) : Bool :=
  match tdesc E t, x, y with
  | some (.pointer e), .ptr i _, .ptr j _ =>
    match tinfo E e, s.look i, s.look j with
    | some info, some (.row _ _ (0, 0) _, _), some (.row _ _ (0, 0) _, _) => !(info.size == 0) && !(i == j)
    | _, _, _ => false
  | _, _, _ => false

def bytesOf : List SV → Option (List Int)
  | [] => some []
  | .v (.int .u8 n) :: r => (bytesOf r).map (n :: ·)
  | _ => none

def byteStr (l : List Int) : ByteArray := ⟨(l.map fun n => UInt8.ofNat n.toNat).toArray⟩

def sConvertQ (E : Env) (src dst : TypeId) (x : SV) (b : ByteArray) (s : SH) : Option (SV × SH) :=
  match tdesc E src, tdesc E dst, x with
  | some (.slice e), some .string, .sl i off len _ =>
    match tdesc E e, (s.look i).bind (·.1.told) with
    | some (.int .u8), some xs => some (.v (.string b), s.owe (((xs.drop off).take len = b.data.toList.map fun c => SV.v (.int .u8 c.toNat)) ∧ b.size = len))
    | _, _ => none
  | _, _, _ => none

def sConvert0 (E : Env) (src dst : TypeId) (x : SV) (s : SH) : Option (SV × SH) := do
  match tdesc E src, tdesc E dst, x with
  | some (.slice e), some .string, .sl i off len _ =>
    let .int .u8 ← tdesc E e | none
    match s.look i with
    | some (.row xs _ _ _, _) =>
      guard' (Nat.ble (off + len) xs.length)
      let b ← bytesOf ((xs.drop off).take len)
      some (.v (.string (byteStr b)), s)
    | _ => none
  | some (.slice _), some (.slice e), .sl i off len cap =>
    match src == dst, tdesc E e, s.look i with
    | true, some (.int .u8), some (.row xs el (0, 0) ext, true) => some (.sl i off len cap, s.put i (.row xs el (1, 0) ext))
    | true, some (.int .u8), some (.row xs el (1, 0) ext, true) => some (.sl i off len cap, s.put i (.row xs el (1, 0) ext))
    | _, _, _ => none
  | some .string, some (.slice e), .v (.string b) =>
    let .int .u8 ← tdesc E e | none
    let xs := b.data.toList.map fun c => SV.v (.int .u8 c.toNat)
    let (i, s) ← sNew (.row xs e (1, 0) (some 1)) s
    some (.sl i 0 b.size none, s)
  | some (.pointer t), some .unsafePointer, .ptr i off =>
    match s.look i, tinfo E t with
    | some (.row xs _ _ _, _), some info => bif Nat.blt off xs.length && !(info.size == 0) then some (.ptr i off, s) else none
    | _, _ => none
  | some .unsafePointer, some (.pointer u), .ptr i off =>
    match s.look i, tinfo E u with
    | some (.row xs e _ none, _), some _ => bif liesAt E.P E.P.depth e (xs.length / E.P.cellsOf e) off u 1 then some (.ptr i off, s) else none
    | _, _ => none
  | _, _, _ => none

def sConvert (E : Env) (src dst : TypeId) (x : SV) (s : SH) : Option (SV × SH) :=
  match s.orc s.dc with
  | some (.str b) => sConvertQ E src dst x b s
  | _ => sConvert0 E src dst x s

def callFn (f : SV) (args : List SV) : Option SNext :=
  match f with
  | .v (.func (.func f) a b) => some (.enter f (a.toList.map .v ++ args ++ b.toList.map .v))
  | .func (.func f) a b => some (.enter f (a ++ args ++ b))
  | .yield i => some (.round i args)
  | _ => none

def deferFn (f : SV) (args : List SV) : Option SDef :=
  match f with
  | .v (.func (.func f) a b) => some (.fn (.func f) (b.toList.map .v) (a.toList.map .v ++ args))
  | .func (.func f) a b => some (.fn (.func f) b (a ++ args))
  | _ => none

/-- A value of an interface type is one of 'iface'. -/
def lift : Value → SV
  | .iface t x => .iface t (.v x)
  | x => .v x

def sInvoke (E : Env) (recv : SV) (name : String) (args : List SV) : Option SNext :=
  match recv with
  | .iface t (.v v) => (pureRun E.P (method (E.P.types.size + Made.depth) t v name)).map fun r => .enter r.1 (lift r.2 :: args)
  | .iface t x => do
    let info ← tinfo E t
    let m ← info.methods.find? (·.name == name)
    match m.path.isEmpty, m.func, tdesc E t with
    | true, some (f, true), some (.pointer _) => some (.enter f (x :: args))
    | true, some (_, _), some (.pointer _) => none
    | true, some (f, false), some _ => some (.enter f (x :: args))
    | _, _, _ => none
  | _ => none

def sLen1 (E : Env) (t : TypeId) (x : SV) (s : SH) : Option SV :=
  match tdesc E t, x with
  | some (.slice _), .sl _ _ n _ => some (.v (.int .i64 n))
  | some (.slice _), .fin _ _ _ _ => some (.v (.int .i64 0))
  | some (.map _ _), .map i => match s.look i with
    | some (.map es _, _) => some (.v (.int .i64 es.length))
    | _ => none
  | _, _ => none

def sCap1 (E : Env) (t : TypeId) (x : SV) : Option SV :=
  match tdesc E t, x with
  | some (.slice _), .sl _ _ _ (some n) => some (.v (.int .i64 n))
  | _, _ => none

def sUnsafeData (E : Env) (x : SV) (s : SH) : Option (SV × SH) :=
  match x with
  | .sl i off _ (some c) => (s.ask E (!(c == 0))).map (.ptr i off, ·)
  | .sl i 0 len none => (s.ask E (!(len == 0))).map (.ptr i 0, ·)
  | _ => none

def sUnsafeStringQ (E : Env) (pt : TypeId) (x n : SV) (b : ByteArray) (s : SH) : Option (SV × SH) :=
  match x, n with
  | .ptr i 0, .v (.int .i64 n) =>
    match tdesc E pt, s.look i with
    | some (.pointer e), some (.row xs el (0, 0) ext, true) =>
      bif e == el && Nat.beq (E.P.cellsOf e) 1 then
        some (.v (.string b), (s.owe ((0 < n ∧ n ≤ 2 ^ 40) ∧ n.toNat ≤ xs.length ∧ xs.take n.toNat = b.data.toList.map fun c => SV.v (.int .u8 c.toNat))).put i (.row xs el (0, n.toNat) ext))
      else none
    | _, _ => none
  | _, _ => none

def sUnsafeString0 (E : Env) (pt : TypeId) (x n : SV) (s : SH) : Option (SV × SH) :=
  match x, n with
  | .ptr i 0, .v (.int .i64 n) =>
    match tdesc E pt, s.look i with
    | some (.pointer e), some (.row xs el (0, 0) ext, true) => do
      guard' (decide (0 < n ∧ n ≤ 2 ^ 40) && Nat.ble n.toNat xs.length && e == el && Nat.beq (E.P.cellsOf e) 1)
      let b ← bytesOf (xs.take n.toNat)
      some (.v (.string (byteStr b)), s.put i (.row xs el (0, n.toNat) ext))
    | _, _ => none
  | _, _ => none

def sUnsafeString (E : Env) (pt : TypeId) (x n : SV) (s : SH) : Option (SV × SH) :=
  match s.orc s.dc with
  | some (.str b) => sUnsafeStringQ E pt x n b s
  | _ => sUnsafeString0 E pt x n s

def sBuiltin (E : Env) (b : Builtin) (ats : Array TypeId) (args : List SV) (s : SH) : Option (SV × SH) :=
  match b with
  | .len => match ats.toList, args with | t :: _, [x] => (sLen1 E t x s).map (·, s) | _, _ => none
  | .cap => match ats.toList, args with | t :: _, [x] => (sCap1 E t x).map (·, s) | _, _ => none
  | .append => match ats.toList, args with | [st, xt], [x, y] => sAppend E st xt x y s | _, _ => none
  | .copy => match ats.toList, args with | dt :: _, [x, y] => sCopy E dt x y s | _, _ => none
  | .delete => match ats.toList, args with | [t, _], [m, k] => sDelete E t m k s | _, _ => none
  | .unsafeSliceData => match args with | [x] => sUnsafeData E x s | _ => none
  | .unsafeString => match ats.toList, args with | [pt, _], [x, n] => sUnsafeString E pt x n s | _, _ => none
  | _ => none

/-- A value that is told whole. -/
def whole : SV → Option Value
  | .v x => some x
  | .iface t x => (whole x).map (.iface t ·)
  | _ => none

def plains : List SV → Option (List Value)
  | [] => some []
  | x :: r => match whole x, plains r with
    | some x, some l => some (x :: l)
    | _, _ => none

/-- The parts of a Value of internal/reflectlite: its type, its place, its flags. -/
def rvParts (E : Env) : SV → Option (TypeId × Nat × Nat × Nat)
  | .agg [.v h, .ptr i off, .v (.int .u64 f)] => bif decide (f = 0) then none else (pureRun E.P (Extern.Rtype.ofHandle h)).map fun t => (t, i, off, f.toNat)
  | _ => none

/-- A Value of internal/reflectlite that is not any pack's. -/
def rvParts' (E : Env) (x : SV) : Option (TypeId × Nat × Nat × Nat) :=
  (rvParts E x).bind fun r => (pureRun E.P (Extern.Rtype.noPack "a Value asked or handed on" r.1)).map fun _ => r

def rvMake (E : Env) (t : TypeId) (i off flags : Nat) : Option SV :=
  (pureRun E.P (Extern.Rtype.handle t)).bind fun h => (pureRun E.P (Extern.Rtype.kind t)).map fun k => .agg [.v h, .ptr i off, .v (.int .u64 (Int.ofNat (k + 128 + flags)))]

def sValueOf (E : Env) (t : TypeId) (x : SV) (s : SH) : Option (SV × SH) :=
  (sBox t x s).bind fun p => match p.1 with
    | .ptr i 0 => (rvMake E t i 0 0).map (·, p.2)
    | _ => none

def sIsNil (E : Env) (r : TypeId × Nat × Nat × Nat) (s : SH) : Option (SV × SH) :=
  bif Nat.beq (r.2.2.2 % 32) 22 then
    (sLoad E r.1 (.ptr r.2.1 r.2.2.1) s).bind fun p => match p.1 with
      | .ptr _ _ => some (.v (.bool false), p.2)
      | .v (.pointer none) => some (.v (.bool true), p.2)
      | _ => none
  else none

def sRElem (E : Env) (r : TypeId × Nat × Nat × Nat) (s : SH) : Option (SV × SH) :=
  bif Nat.beq (r.2.2.2 % 32) 22 then
    (pureRun E.P (Extern.Rtype.elem? r.1)).bind fun e => e.bind fun e =>
    (sLoad E r.1 (.ptr r.2.1 r.2.2.1) s).bind fun p => match p.1 with
      | .ptr j o => (rvMake E e j o 256).map (·, p.2)
      | _ => none
  else none

def sRSet (E : Env) (r q : TypeId × Nat × Nat × Nat) (s : SH) : Option (SV × SH) :=
  bif Nat.beq (r.2.2.2 / 256 % 2) 0 then none else
    (sLoad E q.1 (.ptr q.2.1 q.2.2.1) s).bind fun p => (pureRun E.P (Extern.Rtype.directlyAssignable r.1 q.1)).bind fun b =>
    bif b then (sStore E r.1 (.ptr r.2.1 r.2.2.1) p.1 p.2).map (.v (.tuple #[]), ·) else none

/-- A call of a function without a body. -/
def sExt (E : Env) (k : ExtK) (args : List SV) (s : SH) : Option (SV × SH) :=
  match k, args with
  | .same, [x] => some (x, s)
  | .pure f, args => (plains args).bind fun l => (pureRun E.P (f l.toArray)).map fun x => (lift x, s)
  | .makeNoZero _ t, [.v (.int .i64 n)] =>
    match tdesc E t with
    | some (.slice elem) => bif decide (0 ≤ n ∧ n ≤ 2 ^ 40) then (sNew (.row (List.replicate n.toNat .junk) elem (0, 0) (some 1)) s).map fun p => (.sl p.1 0 n.toNat none, p.2) else none
    | _ => none
  | .mapsClone, [.iface t (.map i)] =>
    match s.look i with
    | some (.map es clock, _) => (sNew (.map es clock) s).map fun (j, s) => (.iface t (.map j), s)
    | _ => none
  | .typeOf, [.iface t _] => (pureRun E.P (Extern.ReflectliteType.toType t)).map fun x => (lift x, s)
  | .typeOf, [.v .nilIface] => some (.v .nilIface, s)
  | .valueOf, [.iface t x] => sValueOf E t x s
  | .valType, [x] => (rvParts E x).bind fun r => (pureRun E.P (Extern.ReflectliteType.toType r.1)).map fun y => (lift y, s)
  | .valIsNil, [x] => (rvParts' E x).bind fun r => sIsNil E r s
  | .valElem, [x] => (rvParts' E x).bind fun r => sRElem E r s
  | .valSet, [x, y] => (rvParts' E x).bind fun r => (rvParts' E y).bind fun q => sRSet E r q s
  | _, _ => none

/-- Two cells are the same. -/
def cellSame (E : Env) (t : TypeId) (x y : Value) : Option Prop :=
  match tdesc E t, x, y with
  | some (.int _), .int k a, .int k' b => bif k == k' then some (a = b) else none
  | some .string, .string a, .string b => some (a = b)
  | some .bool, .bool a, .bool b => some (a = b)
  | _, _, _ => none

/-- All parts of two structs are the same. -/
def cellsSame (E : Env) (xs ys : List Value) : List Field → Option Prop
  | [] => some True
  | f :: fs => bif f.name == "_" then none else
    match xs[f.offset]?, ys[f.offset]? with
    | some x, some y => match cellSame E f.type x y, cellsSame E xs ys fs with
      | some p, some q => some (p ∧ q)
      | _, _ => none
    | _, _ => none

/-- '==' (or its contrary) of two structs, where it is owed that they are the same, or not. -/
def sEqS (E : Env) (op : BinOp) (t : TypeId) (x y : SV) (s : SH) : Option (Bool × SH) :=
  match op, s.orc s.dc with
  | .eql, some (.eqs b) => go x y b b
  | .neq, some (.eqs b) => go x y b !b
  | _, _ => none
where go (x y : SV) (b r : Bool) : Option (Bool × SH) :=
  match plainV x, plainV y, tdesc E t with
  | some (.agg xs), some (.agg ys), some (.struct fs) =>
    bif E.P.stoodInHeld t || E.P.eqGuardType E.P.depth t then none else
      (cellsSame E xs.toList ys.toList fs.toList).map fun p => (r, s.owe (bif b then p else ¬ p))
  | _, _, _ => none

/-- Two texts that are put together, where it is owed that the sum is not too long. -/
def strAdd (x y : SV) (op : BinOp) (soft : Bool) : Option (ByteArray × ByteArray) :=
  match x, y, op, soft with
  | .v (.string a), .v (.string b), .add, true => some (a, b)
  | _, _, _, _ => none

/-! ### an operation -/

def mapOpd (E : Env) (tm : STm) (l : Array Operand) : List SV := l.toList.map (evalOpd E tm)

def sOp (E : Env) (tm : STm) (o : Oper) (s : SH) : Option (List (SNext × SH)) :=
  let ρ := evalOpd E tm
  let v (x : Option SV) : Option (List (SNext × SH)) := x.map fun x => [(.val x, s)]
  let vs (x : Option (SV × SH)) : Option (List (SNext × SH)) := x.map fun x => [(.val x.1, x.2)]
  let u (x : Option SH) : Option (List (SNext × SH)) := x.map fun s => [(.val (.v undef), s)]
  match o.op with
  | .move x | .assign x => some [(.val (ρ x), s)]
  | .pick c a b => match ρ c with
    | .v (.bool t) => let (t, s) := s.dec E t; some [(.val (bif t then ρ a else ρ b), s)]
    | _ => none
  | .alloc t => vs (sAlloc E t s)
  | .box t x => vs (sBox t (ρ x) s)
  | .build t ps => v (sBuild E t (ps.toList.map fun (i, x) => (i, ρ x)))
  | .buildSlice t n ps => vs (sBuildSlice E t n (ps.toList.map fun (i, x) => (i, ρ x)) s)
  | .load t a => vs (sLoad E t (ρ a) s)
  | .store t a x => u (sStore E t (ρ a) (ρ x) s)
  | .nilCheck x => match ρ x with
    | .ptr i off => v (some (.ptr i off))
    | .iface t y => v (some (.iface t y))
    | .func (.func f) a b => v (some (.func (.func f) a b))
    | .yield i => v (some (.yield i))
    | .v (.func (.func f) a b) => v (some (.v (.func (.func f) a b)))
    | _ => none
  | .binOp op t x y _ => match sEqS E op t (ρ x) (ρ y) s with
   | some r => some [(.val (.v (.bool r.1)), r.2)]
   | none => match strAdd (ρ x) (ρ y) op s.soft with
    | some (a, b) => some [(.val (.v (.string (a ++ b))), s.owe (a.size + b.size ≤ 9223372036854775807))]
    | none => match ρ x, ρ y with
    | .v _, .v _ => v (sPure E tm o)
    | a, b => match op with
      | .eql => match sEql E t a b s with
        | some r => some [(.val (.v (.bool r.1)), r.2)]
        | none => bif sEqlFar E t a b s then some [(.val (.v (.bool false)), s)] else v (sPure E tm o)
      | .neq => match sEql E t a b s with
        | some r => some [(.val (.v (.bool !r.1)), r.2)]
        | none => bif sEqlFar E t a b s then some [(.val (.v (.bool true)), s)] else v (sPure E tm o)
      | _ => none
  | .unOp _ _ _ => v (sPure E tm o)
  | .convert src dst x => match sConvert E src dst (ρ x) s with
    | some r => vs (some r)
    | none => match ρ x with | .v _ => v (sPure E tm o) | _ => none
  | .makeInterface t x => match tdesc E t with
    | some (.interface _) => none
    | some _ => v (some (.iface t (ρ x)))
    | none => none
  | .makeFunc fn a b => match fn with
    | .func f => v (some (.func (.func f) (mapOpd E tm a) (mapOpd E tm b)))
    | _ => none
  | .makeMap _ none => vs ((sNew (.map [] 0) s).map fun (i, s) => (.map i, s))
  | .makeSlice t l c => vs (sMakeSlice E t (ρ l) (ρ c) s)
  | .slice t x lo hi mx => match sSlice E t (ρ x) (lo.map ρ) (hi.map ρ) (mx.map ρ) s with
    | some r => vs (some r)
    | none => match sSliceB E t (ρ x) (lo.map ρ) (hi.map ρ) (mx.map ρ) s with
      | some l => some (l.map fun r => (.val r.1, r.2))
      | none => match ρ x with | .v (.slice none 0 0) => v (sPure E tm o) | _ => none
  | .fieldAddr t x f => v (sFieldAddr E t (ρ x) f)
  | .field t x f => match ρ x with | .v _ => v (sPure E tm o) | y => v (sField E t y f)
  | .indexAddr t x i => vs (sIndexAddr E t (ρ x) (ρ i) s)
  | .index t x i => vs (sIndex E t (ρ x) (ρ i) s)
  | .lookup t m k ok => vs (sLookup E t (ρ m) (ρ k) ok s)
  | .mapUpdate t m k x | .insert t m k x => u (sMapUpdate E t (ρ m) (ρ k) (ρ x) s)
  | .mapEntry t m k => vs (sMapEntry E t (ρ m) (ρ k) s)
  | .entryStore _ m st x => u (sEntryStore (ρ m) (ρ st) (ρ x) s)
  | .range t x => vs (sRange E t (ρ x) s)
  | .next it b => (sNextIt (ρ it) b s).map fun l => l.map fun r => (.val r.1, r.2)
  | .entry it => v (sEntry (ρ it) s)
  | .typeAssert x _ at_ ok => match ρ x with | .v _ => v (sPure E tm o) | y => v (sTypeAssert E y at_ ok)
  | .extract t i => match (ρ t).tuple with | some l => v l[i]? | none => none
  | .call c =>
    match c.callee with
    | .value f => (callFn (ρ f) (mapOpd E tm c.args)).map fun n => [(n, s)]
    | .invoke r name => (sInvoke E (ρ r) name (mapOpd E tm c.args)).map fun n => [(n, s)]
    | .builtin b => match sBuiltin E b c.argTypes (mapOpd E tm c.args) s with
      | some r => vs (some r)
      | none => v (sPure E tm o)
  | .defer c => match c.callee with
    | .value f => (deferFn (ρ f) (mapOpd E tm c.args)).map fun d => [(.defer d, s)]
    | _ => none
  | _ => none

end Go.Rx
