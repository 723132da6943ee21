/- What the law VaultLoads leans on, part 13: the symbolic executor, proved sound, contracts of functions, plain lemmas. By an AI agent. -/
import Derived.Test.YtcbokmadfcedaaaGreatDoorPk12
set_option linter.unusedSimpArgs false
set_option linter.unusedVariables false
set_option maxRecDepth 100000
namespace Go.Proofs.YtcbokmadfcedaaaGreatDoor
open Go Go.Rx Go.RowKit Go.Proofs
namespace paths
namespace ez
abbrev Al:=List (Option (SO × Bool))
def vS (q:Option Addr) (er:Value):Value:=.tuple #[.pointer q,er]
def uC (s:Int) (a:Option Addr) (n c:Nat) (f:Int):Value:=.tuple #[.agg #[.int .u64 s,.slice a n c],.int .i64 f]
noncomputable def yk (g:Bool) (L:Al) (q:Option Addr) (er:Value):SM:=cK (bG g) 12 50 (SM.at gD 8 L) bS (.v (vS q er))
noncomputable def wX (g:Bool) (L:Al) (q:Option Addr) (er:Value) (s:Int) (a:Option Addr) (n c:Nat) (f:Int):SM:=cK (bG g) 13 50 (yk g L q er) bS (.v (uC s a n c f))
noncomputable def Bh (g:Bool) (L:Al) (q:Option Addr) (er:Value) (s:Int) (a:Option Addr) (n c:Nat) (f:Int):SM:=cK (bG g) 14 50 (wX g L q er s a n c f) bS (.v (.bool true))
noncomputable def DY (g:Bool) (L:Al) (q:Option Addr) (er:Value) (s:Int) (a:Option Addr) (n c:Nat) (f:Int) (v:Value):SM:=cK (bG g) 16 100 (Bh g L q er s a n c f) bS (.v v)
noncomputable def FF (g:Bool) (L:Al) (q:Option Addr) (er:Value) (s:Int) (a:Option Addr) (n c:Nat) (f:Int) (v:Value):SM:=cK (bG g) 15 100 (DY g L q er s a n c f v) bS (.v (.bool true))
noncomputable def J5 (g:Bool) (L:Al) (q:Option Addr) (er:Value) (s:Int) (a:Option Addr) (n c:Nat) (f:Int) (v:Value):SM:=cK (bG g) 17 100 (FF g L q er s a n c f v) bS (.v (.int .u64 s))
def Jr:List (Nat × c9):=[(6,.b true),(7,.b true),(8,.b true),(17,.b true),(19,.b true),(1000,.b true)]
theorem JF (u:Unit):bB (bG false) 12 50 (SM.at gD 8 oS) bS=[]:=by kernel_rfl
theorem IL (u:Unit):aR (bG false) 12 50 (SM.at gD 8 oS) bS=aP (bG false) 12 [.ptr 1 0] .normal:=by kernel_rfl
theorem Kw (q:Option Addr) (er:Value):bJ (bG false) 12 50 (SM.at gD 8 oS) bS (.v (vS q er))=[]:=by kernel_rfl
theorem LB (q:Option Addr) (er:Value):bB (bG false) 13 50 (yk false oS q er) bS=[]:=by kernel_rfl
theorem Ja (q:Option Addr) (er:Value):aR (bG false) 13 50 (yk false oS q er) bS=aP (bG false) 13 [.agg [.v (.slice none 0 0),.v (.int .i64 0),.v (.int .i64 10000),.v (.int .i64 (-1)),.sl 7 0 1 none,.aM,.v (.int .i64 (-1)),.v (.slice none 0 0),.v (.int .u64 0)]] .normal:=by kernel_rfl
theorem Ln (q:Option Addr) (er:Value) (s:Int) (a2:Option Addr) (n2 c2:Nat) (f:Int):bJ (bG false) 13 50 (yk false oS q er) bS (.v (uC s a2 n2 c2 f))=[]:=by kernel_rfl
theorem Kv (q:Option Addr) (er:Value) (s:Int) (a2:Option Addr) (n2 c2:Nat) (f:Int):bB (bG false) 14 50 (wX false oS q er s a2 n2 c2 f) bS=[]:=by kernel_rfl
theorem Ij (q:Option Addr) (er:Value) (s:Int) (a2:Option Addr) (n2 c2:Nat) (f:Int):aR (bG false) 14 50 (wX false oS q er s a2 n2 c2 f) bS=aP (bG false) 14 [.v er,.v (.int .i64 f),.v (.string bL),.v (.string bP)] .normal:=by kernel_rfl
theorem Lr (q:Option Addr) (er:Value) (s:Int) (a2:Option Addr) (n2 c2:Nat) (f:Int):bJ (bG false) 14 50 (wX false oS q er s a2 n2 c2 f) bS (.v (.bool true))=[]:=by kernel_rfl
theorem Lg (er:Value) (s:Int) (a2:Option Addr) (n2 c2:Nat) (f:Int):au (bG false) 3 100 (Bh false oS none er s a2 n2 c2 f) Jr (.bool true)=[Value.bool true=Value.bool true,True,(true==!f==0)=true,(true==!f==0)=true,(true==!f==0)=true,(true==!f==0)=true,(true==!f==0)=true]:=by kernel_rfl
theorem LH (x:Option (SO × Bool)):bB (bG false) 12 50 (SM.at gD 8 (nq x)) bS=[]:=by kernel_rfl
theorem I6 (x:Option (SO × Bool)) :aR (bG false) 12 50 (SM.at gD 8 (nq x)) bS=aP (bG false) 12 [.ptr 1 0] .normal:=by kernel_rfl
theorem JS (x:Option (SO × Bool)) (q:Option Addr) (er:Value):bJ (bG false) 12 50 (SM.at gD 8 (nq x)) bS (.v (vS q er))=[]:=by kernel_rfl
theorem Lv (x:Option (SO × Bool)) (q:Option Addr) (er:Value):bB (bG false) 13 50 (yk false (nq x) q er) bS=[]:=by kernel_rfl
theorem Io (x:Option (SO × Bool)) (q:Option Addr) (er:Value):aR (bG false) 13 50 (yk false (nq x) q er) bS=aP (bG false) 13 [.agg [.sl 9 0 1 none,.v (.int .i64 1),.v (.int .i64 10000),.v (.int .i64 (-1)),.sl 7 0 1 none,.aM,.v (.int .i64 (-1)),.v (.slice none 0 0),.v (.int .u64 0)]] .normal:=by kernel_rfl
theorem Kh (x:Option (SO × Bool)) (q:Option Addr) (er:Value) (s:Int) (a2:Option Addr) (n2 c2:Nat) (f:Int):bJ (bG false) 13 50 (yk false (nq x) q er) bS (.v (uC s a2 n2 c2 f))=[]:=by kernel_rfl
theorem JA (x:Option (SO × Bool)) (q:Option Addr) (er:Value) (s:Int) (a2:Option Addr) (n2 c2:Nat) (f:Int):bB (bG false) 14 50 (wX false (nq x) q er s a2 n2 c2 f) bS=[]:=by kernel_rfl
theorem Ib (x:Option (SO × Bool)) (q:Option Addr) (er:Value) (s:Int) (a2:Option Addr) (n2 c2:Nat) (f:Int):aR (bG false) 14 50 (wX false (nq x) q er s a2 n2 c2 f) bS=aP (bG false) 14 [.v er,.v (.int .i64 f),.v (.string bL),.v (.string bP)] .normal:=by kernel_rfl
theorem Lu (x:Option (SO × Bool)) (q:Option Addr) (er:Value) (s:Int) (a2:Option Addr) (n2 c2:Nat) (f:Int):bJ (bG false) 14 50 (wX false (nq x) q er s a2 n2 c2 f) bS (.v (.bool true))=[]:=by kernel_rfl
theorem Kp (x:Option (SO × Bool)) (er:Value) (s:Int) (a2:Option Addr) (n2 c2:Nat) (f:Int):au (bG false) 3 100 (Bh false (nq x) none er s a2 n2 c2 f) Jr (.bool true)=[Value.bool true=Value.bool true,True,(true==!f==0)=true,(true==!f==0)=true,(true==!f==0)=true,(true==!f==0)=true,(true==!f==0)=true]:=by kernel_rfl
end ez
end paths
end Go.Proofs.YtcbokmadfcedaaaGreatDoor
