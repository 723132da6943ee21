/- The symbolic executor 'Rx', part D: steps and runs (no proofs). By an AI agent. -/
import Derived.Test.YtjhmpmhkppglnaaGreatRxC
set_option linter.unusedVariables false
set_option linter.unusedSimpArgs false
namespace Go.Rx

/-! ### regions that draw their order -/

/-- Operations that may go ahead of their turn: they make nothing and write nothing. -/
def floats : Op → Bool
  | .move _ | .pick .. | .nilCheck _ | .binOp .. | .unOp .. | .makeInterface .. | .makeFunc .. | .fieldAddr .. | .field .. | .indexAddr .. | .index .. | .load .. | .lookup ..
  | .typeAssert .. | .extract .. | .slice .. | .build .. | .convert .. => true
  | .call { callee := .builtin b, .. } => match b with | .len | .cap | .min | .max => true | _ => false
  | _ => false

/-- Do they look into memory? -/
def looks : Op → Bool
  | .load .. | .lookup .. | .convert .. => true
  | .call _ => true
  | _ => false

def tmpOf : Operand → Option Tmp
  | .tmp t => some t
  | _ => none
def tmpsOf (o : Oper) : List Tmp := o.op.operands.toList.filterMap tmpOf
def namesOf (o : Oper) : List Tmp := o.dst.toList ++ tmpsOf o
def guardSlot (ops : Array Oper) (o : Oper) : List Tmp := match o.guard with | some (j, _) => ((ops[j]?).bind (·.dst)).toList | none => []

/-- May operation i go ahead of its turn? Nothing but what comes behind it names its slot. -/
def free (ops : Array Oper) (bf : Array Nat) (i : Nat) : Bool :=
  match ops[i]? with
  | none => false
  | some o => floats o.op && match o.dst with
    | none => true
    | some d => !((tmpsOf o).contains d || (guardSlot ops o).contains d) && (List.range ops.size).all fun j => Nat.beq j i || (bf.getD j 0).testBit i ||
        match ops[j]? with | some p => !((namesOf p).contains d || (guardSlot ops p).contains d) | none => true

/-- What an allocation makes. -/
def lateSO (E : Env) : Op → Option SO
  | .alloc t => (tinfo E t).bind fun info => info.zero.bind fun z => (SV.v z).cells.map fun l => .row l t (0, 0) none
  | _ => none

/-- May operation i be carried out later than its turn? It only makes a block, and nothing but what comes behind it names its slot. -/
def late (E : Env) (ops : Array Oper) (bf : Array Nat) (nt i : Nat) : Bool :=
  match ops[i]? with
  | none => false
  | some o => (lateSO E o.op).isSome && o.guard.isNone && match o.dst with
    | none => false
    | some d => Nat.blt d nt && (List.range ops.size).all fun j => Nat.beq j i || (bf.getD j 0).testBit i ||
        match ops[j]? with | some p => !((namesOf p).contains d || (guardSlot ops p).contains d) | none => true

def ready (bf : Array Nat) (rem : List Nat) (i : Nat) : Bool := rem.all fun j => !((bf.getD i 0).testBit j)

/-- Two cells are one. -/
def cellEq (E : Env) (x y : Value) (s : SH) : Option SH :=
  match x, y with
  | .int k x, .int k' y => bif k == k' then s.ask E (x == y) else none
  | .string x, .string y => s.ask E (x == y)
  | .bool x, .bool y => s.ask E (x == y)
  | .nilIface, .nilIface => some s
  | .nilFunc, .nilFunc => some s
  | .pointer none, .pointer none => some s
  | .slice a l c, .slice b m d => s.ask E (decide (a = b ∧ l = m ∧ c = d))
  | .map none, .map none => some s
  | .func (.func f) a b, .func (.func g) c d => bif f == g && (a.size == 0 && b.size == 0) && (c.size == 0 && d.size == 0) then some s else none
  | _, _ => none

def cellsEq (E : Env) : List Value → List Value → SH → Option SH
  | [], [], s => some s
  | x :: xs, y :: ys, s => (cellEq E x y s).bind fun s => cellsEq E xs ys s
  | _, _, _ => none

/-- Two values that are told whole are one. -/
def plainEq (E : Env) (x y : Value) (s : SH) : Option SH :=
  match x, y with
  | .agg a, .agg b => cellsEq E a.toList b.toList s
  | .tuple a, .tuple b => cellsEq E a.toList b.toList s
  | x, y => cellEq E x y s

/-- It is reckoned, or owed. -/
def SH.eqN (s : SH) (b : Bool) (p : Prop) : Option SH := bif s.soft then some (s.owe p) else bif b then some s else none

mutual
/-- Two values are one. -/
def svEq (E : Env) : SV → SV → SH → Option SH
  | .ptr i o, y, s => match y with
    | .ptr j p => bif i == j then s.eqN (o == p) (o = p) else none
    | _ => none
  | .map i, y, s => match y with
    | .map j => bif i == j then some s else none
    | _ => none
  | .sl i o l c, y, s => match y with
    | .sl j p m d => bif i == j then s.eqN (o == p && l == m && c == d) (o = p ∧ l = m ∧ c = d) else none
    | _ => none
  | .yield i, y, s => match y with
    | .yield j => bif i == j then some s else none
    | _ => none
  | .fin i o l a, y, s => match y with
    | .fin j p m b => bif i == j then s.eqN (o == p && l == m && a == b) (o = p ∧ l = m ∧ a = b) else none
    | _ => none
  | .iface t x, y, s => match y with
    | .iface u y => bif t == u then svEq E x y s else none
    | _ => none
  | .agg l, y, s => match y with
    | .agg m => svEqL E l m s
    | _ => none
  | .tup l, y, s => match y with
    | .tup m => svEqL E l m s
    | _ => none
  | .func f a b, y, s => match f, y with
    | .func f, .func (.func g) c d => bif f == g then (svEqL E a c s).bind fun s => svEqL E b d s else none
    | _, _ => none
  | .junk, _, _ => none
  | .v x, y, s => match y with
    | .v y => plainEq E x y s
    | _ => none
def svEqL (E : Env) : List SV → List SV → SH → Option SH
  | [], m, s => match m with
    | [] => some s
    | _ => none
  | x :: xs, m, s => match m with
    | y :: ys => (svEq E x y s).bind fun s => svEqL E xs ys s
    | [] => none
end

def wanted (ops : Array Oper) (tm : STm) (o : Oper) (E : Env) (s : SH) : Option (Bool × SH) :=
  match o.guard with
  | none => some (true, s)
  | some (j, want) =>
    match (ops[j]?).bind (·.dst) with
    | some d => bif Nat.blt d tm.nt then match tm.get d with
      | .v (.bool b) => let (b, s) := s.dec E b; some (b == want, s)
      | .v (.tuple _) => some (false, s)
      | _ => none
      else none
    | none => none

def putDst (tm : STm) (o : Oper) (x : SV) : STm := match o.dst with | some d => tm.set d x | none => tm

mutual
/-- A value that stands for just one. -/
def SV.solid : SV → Bool
  | .junk => false
  | .agg l | .tup l => solidL l
  | .iface _ x => x.solid
  | .func _ a b => solidL a && solidL b
  | _ => true
def solidL : List SV → Bool
  | [] => true
  | x :: xs => x.solid && solidL xs
end

/-- The text of a row's bytes. -/
def sReadText (E : Env) (src dst : TypeId) (x : SV) (s : SH) : Option SV :=
  match tdesc E src, tdesc E dst, x with
  | some (.slice e), some .string, .sl i off len _ =>
    match tdesc E e, s.look i with
    | some (.int .u8), some (.row xs _ _ _, _) => bif Nat.ble (off + len) xs.length then (bytesOf ((xs.drop off).take len)).map fun b => .v (.string (byteStr b)) else none
    | _, _ => none
  | _, _, _ => none

/-- An operation that goes ahead of its turn. -/
def sOpF (E : Env) (tm : STm) (o : Oper) (s : SH) : Option (List (SNext × SH)) :=
  match o.op with
  | .convert a b z => match sReadText E a b (evalOpd E tm z) s with
    | some r => some [(.val r, s)]
    | none => (sPure E tm o).map fun x => [(.val x, s)]
  | .binOp _ t x y _ => bif sEqlFar E t (evalOpd E tm x) (evalOpd E tm y) s then none else sOp E tm o s
  | _ => sOp E tm o s

/-- May it? -/
def goes (E : Env) (ops : Array Oper) (tm : STm) (s : SH) (i : Nat) : Bool :=
  match ops[i]? with
  | some o => match o.op with
    | .convert a b z => allPlain E tm o.op.operands.toList || (sReadText E a b (evalOpd E tm z) s).isSome
    | .binOp _ t x y _ => !sEqlFar E t (evalOpd E tm x) (evalOpd E tm y) s
    | _ => true
  | none => true

/-- The value of an operation that goes ahead of its turn. -/
def sFree (E : Env) (ops : Array Oper) (tm : STm) (o : Oper) (s : SH) : Option (SV × SH) := do
  guard' (match o.dst with | some d => Nat.blt d tm.nt | none => true)
  let (w, s) ← wanted ops tm o E s
  bif w then
    match sOpF E tm o s with
    | some [(.val x, s)] => bif x.solid then some (x, s) else none
    | _ => none
  else some (.v undef, s)

/-- Nothing that went ahead names this slot. -/
def unnamed (ops : Array Oper) (pend : List Nat) (o : Oper) : Bool :=
  match o.dst with
  | none => true
  | some d => pend.all fun p => match ops[p]? with
    | some q => !((namesOf q).contains d || (guardSlot ops q).contains d)
    | none => false

/-- Every edge that binds leads to an earlier operation. -/
def edgesOk (ops : Array Oper) : Bool := (List.range ops.size).all fun i => match ops[i]? with
  | some o => o.after.toList.all fun e => !Region.binds .any e || Nat.blt e.on i
  | none => true

/-- What went ahead is still what it was. -/
def recheck (E : Env) (ops : Array Oper) (tm : STm) : List Nat → SH → Option SH
  | [], s => some s
  | p :: ps, s =>
    match ops[p]? with
    | none => none
    | some o =>
      bif looks o.op then do
        let (x, s) ← sFree E ops tm o s
        let d ← o.dst
        let s ← svEq E (tm.get d) x s
        recheck E ops tm ps s
      else recheck E ops tm ps s

/-! ### frames -/

def depthOf (n : Nat) : Nat := Nat.log2 n + 1

def mkTm (n : Nat) (args : List SV) : Option STm :=
  bif Nat.ble args.length n && Nat.ble n (2 ^ depthOf n) then
    some { nt := n, d := depthOf n, T := go (Tr.mk (.v undef) (depthOf n)) 0 args }
  else none
  where
  go (T : Tr SV) (i : Nat) : List SV → Tr SV
    | [] => T
    | x :: xs => go (T.set i x) (i + 1) xs

def enterF (E : Env) (f : FuncId) (args : List SV) (kind : CallKind) : Option SF :=
  match E.P.funcs[f]? with
  | some fn => match fn.body with
    | some c => (mkTm fn.ntmps args).map fun tm => { fn := f, tm, todo := [.code c], defers := [], ret := false, kind, ro := none }
    | none => none
  | none => none

/-- A value comes back into a frame. -/
def finish (E : Env) (F : SF) (x : SV) (s : SH) : Option (SF × SH) :=
  match F.todo with
  | .reg ops (i :: rest) :: k =>
    match ops[i]? with
    | some o => some ({ F with tm := putDst F.tm o x, todo := .reg ops rest :: k }, s)
    | none => none
  | .drw ops (e :: rem) pend :: k =>
    match ops[e]? with
    | some o =>
      let tm := putDst F.tm o x
      bif unnamed ops pend o then (recheck E ops tm pend s).map fun s => ({ F with tm, todo := .drw ops rem pend :: k }, s) else none
    | none => none
  | .inRF i :: k => some ({ F with todo := .endRF i :: k }, s)
  | .beginRound :: k => some ({ F with todo := k }, s)
  | _ => none

def exitToS (id : Nat) : List SI → Option (List SI)
  | .inBlock id' :: k => bif id' == id then some k else exitToS id k
  | _ :: k => exitToS id k
  | [] => none

def gotoInS (l : Nat) : List SI → Option (List SI)
  | .inScope body :: k =>
    match findLabel body l with
    | some rest => some (.code rest :: .inScope body :: k)
    | none => gotoInS l k
  | _ :: k => gotoInS l k
  | [] => none

def resultsS (E : Env) (fn : Func) (tm : STm) (s : SH) : Option (SV × SH) :=
  (go fn.results.toList s).bind fun (l, s) => match l with
    | [x] => some (x, s)
    | l => some (.tup l, s)
  where
  go : List ResultVar → SH → Option (List SV × SH)
    | [], s => some ([], s)
    | .tmp t :: r, s => (go r s).map fun (l, s) => (tm.get t :: l, s)
    | .cell a t :: r, s => match sLoad E t (tm.get a) s with
      | some (x, s) => (go r s).map fun (l, s) => (x :: l, s)
      | none => none

def one (x : Option SM) : Option (List SM) := x.map fun x => [x]

/-- A frame has ended with a value. -/
def returned (E : Env) (F : SF) (callers : List SF) (x : SV) (s : SH) : Option (List SM) :=
  match callers with
  | c :: rest =>
    match F.kind with
    | .normal => (finish E c x s).map fun (c, s) => [{ top := c, callers := rest, mem := s }]
    | .deferred => some [{ top := c, callers := rest, mem := s }]
    | _ => none
  | [] => none

/-- A call of which all that may come back is told, and that it turns nothing that was there. -/
def joinQ (E : Env) (F : SF) (callers : List SF) (s : SH) : List SV → Option (List SM)
  | [] => some []
  | x :: xs => match finish E F x s, joinQ E F callers s xs with
    | some (F', s'), some r => some ({ top := F', callers, mem := s' } :: r)
    | _, _ => none

/-- What an operation leads to. -/
def after (E : Env) (F : SF) (callers : List SF) : SNext × SH → Option (List SM)
  | (.val x, s) => (finish E F x s).map fun (F, s) => [{ top := F, callers, mem := s }]
  | (.enter f args, s) =>
    match E.ext f with
    | some k => (sExt E k args s).bind fun (x, s) => (finish E F x s).map fun (F, s) => [{ top := F, callers, mem := s }]
    | none =>
    match E.sums f with
    | some g => (g args s).bind fun (x, s) => (finish E F x s).map fun (F, s) => [{ top := F, callers, mem := s }]
    | none =>
    match E.qs f with
    | some g => (g args).bind fun l => joinQ E F callers s l
    | none => one ((enterF E f args .normal).map fun G => { top := G, callers := F :: callers, mem := s })
  | (.round i args, s) =>
    match s.look i with
    | some (.loop _ _ fn tm params assign body _, _) =>
      bif args.length == params.length then
        some [{ top := { fn, tm := (params.zip args).foldl (fun tm (t, a) => tm.set t a) tm, todo := [.code assign, .beginRound, .code body], defers := [], ret := false, kind := .normal, ro := some i },
                callers := F :: callers, mem := s }]
      else none
    | _ => none
  | (.defer d, s) =>
    match F.ro with
    | none => (finish E { F with defers := d :: F.defers } (.v undef) s).map fun (F, s) => [{ top := F, callers, mem := s }]
    | some _ => none

def joinM (l : List (SNext × SH)) (f : SNext × SH → Option (List SM)) : Option (List SM) :=
  match l with
  | [] => some []
  | x :: xs => match f x, joinM xs f with
    | some a, some b => some (a ++ b)
    | _, _ => none

/-- The end of a frame's code, or a jump out of it. -/
def leaveS (E : Env) (F : SF) (callers : List SF) (s : SH) (jump : Option Code) : Option (List SM) :=
  match F.ro with
  | none => match jump with
    | none | some .ret => some [{ top := { F with ret := true }, callers, mem := s }]
    | _ => none
  | some i =>
    match s.look i with
    | some (.loop _ _ fn tm params assign body df, true) =>
      match callers with
      | c :: rest =>
        match F.kind with
        | .normal => (finish E c (.v (.bool jump.isNone)) (s.put i (.loop (if jump.isNone then .ready else .done) jump fn tm params assign body df))).map fun (c, s) => [{ top := c, callers := rest, mem := s }]
        | _ => none
      | [] => none
    | _ => none

/-- A frame that has run to its end: its deferred calls, its results. -/
def retS (E : Env) (F : SF) (callers : List SF) (s : SH) : Option (List SM) :=
  match F.defers with
  | .fn (.func g) capt args :: ds =>
    one ((enterF E g (args ++ capt) .deferred).map fun G => { top := G, callers := { F with defers := ds } :: callers, mem := s })
  | .fn _ _ _ :: _ => none
  | .coll i :: ds =>
    match s.look i with
    | some (.dfr (some l), true) => some [{ top := { F with defers := l ++ ds }, callers, mem := s.put i (.dfr none) }]
    | _ => none
  | [] =>
    match E.P.funcs[F.fn]? with
    | some fn => match resultsS E fn F.tm s with
      | some (x, s) => returned E F callers x s
      | none => none
    | none => none

/-- An operation whose turn it is. -/
def turnS (E : Env) (ops : Array Oper) (F : SF) (callers : List SF) (o : Oper) (s : SH) : Option (List SM) :=
  match wanted ops F.tm o E s with
  | some (true, s) => (sOp E F.tm o s).bind fun l => joinM l (after E F callers)
  | some (false, s) => (finish E F (.v undef) s).map fun (F, s) => [{ top := F, callers, mem := s }]
  | none => none

/-- A region that draws its order. -/
def drwS (E : Env) (F : SF) (callers : List SF) (s : SH) (ops : Array Oper) (rem pend : List Nat) (k : List SI) : Option (List SM) :=
  let bf := Region.before ops
  match rem.find? fun i => free ops bf i && ready bf rem i && goes E ops F.tm s i with
  | some i =>
    match ops[i]? with
    | some o => (sFree E ops F.tm o s).map fun (x, s) =>
        [{ top := { F with tm := putDst F.tm o x, todo := .drw ops (rem.filter fun j => !Nat.beq j i) (i :: pend) :: k }, callers, mem := s }]
    | none => none
  | none =>
    match (rem.find? fun i => ready bf rem i && !late E ops bf F.tm.nt i).or (rem.find? fun i => ready bf rem i) with
    | some e =>
      bif ready bf rem e && rem.all fun j => Nat.beq j e || (bf.getD j 0).testBit e || late E ops bf F.tm.nt j || rem.any fun i => !Nat.beq i j && (bf.getD j 0).testBit i && !late E ops bf F.tm.nt i then
        match ops[e]? with
        | some o => turnS E ops { F with todo := .drw ops (e :: rem.filter fun j => !Nat.beq j e) (pend.filter fun p => !((bf.getD e 0).testBit p)) :: k } callers o s
        | none => none
      else none
    | none => none

/-- A range over a function begins. -/
def rangeS (E : Env) (F : SF) (callers : List SF) (s : SH) (f : Operand) (params : Array Tmp) (assign body : Code) (k : List SI) : Option (List SM) :=
  match F.ro with
  | some l => match s.look l with
    | some (.loop _ _ _ _ _ _ _ d, _) => (sNew (.loop .ready none F.fn F.tm params.toList assign body d) s).bind fun (i, s) =>
      (callFn (evalOpd E F.tm f) [.yield i]).bind fun n => after E { F with todo := .inRF i :: k } callers (n, s)
    | _ => none
  | none => (sNew (.dfr (some [])) s).bind fun (d, s) => (sNew (.loop .ready none F.fn F.tm params.toList assign body d) s).bind fun (i, s) =>
      (callFn (evalOpd E F.tm f) [.yield i]).bind fun n => after E { F with todo := .inRF i :: k, defers := .coll d :: F.defers } callers (n, s)

/-- One step. -/
def sStep (E : Env) (S : SM) : Option (List SM) :=
  let F := S.top
  let s := S.mem
  let to (k : List SI) : Option (List SM) := some [{ top := { F with todo := k }, callers := S.callers, mem := s }]
  bif F.ret then retS E F S.callers s else
    match F.todo with
    | [] => leaveS E F S.callers s none
    | .code .ret :: _ => leaveS E F S.callers s (some .ret)
    | .code .skip :: k => to k
    | .code (.label _) :: k => to k
    | .inBlock _ :: k => to k
    | .inScope _ :: k => to k
    | .code (.seq a b) :: k => to (.code a :: .code b :: k)
    | .code (.cond c a b) :: k =>
      match evalOpd E F.tm c with
      | .v (.bool t) => let r := s.dec E t; some [{ top := { F with todo := .code (bif r.1 then a else b) :: k }, callers := S.callers, mem := r.2 }]
      | _ => none
    | .code (.block id c) :: k => to (.code c :: .inBlock id :: k)
    | .code (.loop c) :: k => to (.code c :: .inLoop c :: k)
    | .inLoop c :: k => to (.code c :: .inLoop c :: k)
    | .code (.scope c) :: k => to (.code c :: .inScope c :: k)
    | .code (.exit id) :: k => match exitToS id k with | some k => to k | none => leaveS E F S.callers s (some (.exit id))
    | .code (.goto l) :: k => match gotoInS l k with | some k => to k | none => leaveS E F S.callers s (some (.goto l))
    | .code (.rangeFunc f params assign body) :: k => rangeS E F S.callers s f params assign body k
    | .beginRound :: k =>
      match F.ro with
      | some i => match s.look i with
        | some (.loop .ready p fn tm params assign body df, true) =>
          some [{ top := { F with todo := k }, callers := S.callers, mem := s.put i (.loop .busy p fn tm params assign body df) }]
        | _ => none
      | none => none
    | .endRF i :: k =>
      match s.look i with
      | some (.loop st jump fn tm params assign body df, true) =>
        match st with
        | .busy => none
        | _ => some [{ top := { F with todo := (jump.map SI.code).toList ++ k }, callers := S.callers, mem := s.put i (.loop .exhausted jump fn tm params assign body df) }]
      | _ => none
    | .inRF _ :: _ => none
    | .code (.refuse _) :: _ => none
    | .code (.region _ ops draw) :: k =>
      bif draw then (bif edgesOk ops then to (.drw ops (List.range ops.size) [] :: k) else none) else to (.reg ops (List.range ops.size) :: k)
    | .reg _ [] :: k => to k
    | .reg ops (i :: _) :: _ =>
      match ops[i]? with
      | none => none
      | some o => turnS E ops F S.callers o s
    | .drw _ [] _ :: k => to k
    | .drw ops (i :: rem) pend :: k => drwS E F S.callers s ops (i :: rem) pend k

/-! ### runs -/

/-- Has the outermost frame come to its end? -/
def SM.over (S : SM) : Bool := S.callers.isEmpty && S.top.ret && S.top.defers.isEmpty

/-- One step; what is owed is kept, and something is to come of it. -/
def step1 (E : Env) (S : SM) : Option (List SM) :=
  match sStep E { S with mem := { S.mem with obl := [] } } with
  | some [] => none
  | some [T] => some [{ T with mem := { T.mem with obl := T.mem.obl ++ S.mem.obl } }]
  | some l => some (l.map fun T => { T with mem := { T.mem with obl := T.mem.obl ++ S.mem.obl } })
  | none => none

/-- Run till each way has stopped. -/
def run (E : Env) (stop : SM → Bool) : Nat → List SM → List SM → Option (List SM)
  | _, [], done => some done
  | 0, _ :: _, _ => none
  | n + 1, S :: work, done => bif stop S then run E stop n work (S :: done) else match step1 E S with
    | none => none
    | some [S'] => run E stop n (S' :: work) done
    | some l => run E stop n (l ++ work) done

end Go.Rx
