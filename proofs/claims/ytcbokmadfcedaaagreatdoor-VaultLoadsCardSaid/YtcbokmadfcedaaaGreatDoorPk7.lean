/- What the law VaultLoads leans on, part 7: the symbolic executor, proved sound, contracts of functions, plain lemmas. By an AI agent. -/
import Derived.Test.YtcbokmadfcedaaaGreatDoorPk6
set_option linter.unusedSimpArgs false
set_option linter.unusedVariables false
set_option maxHeartbeats 0
set_option maxRecDepth 100000
namespace Go.Proofs.YtcbokmadfcedaaaGreatDoor
open Go Go.Rx Go.RowKit Go.Proofs
namespace paths
namespace ez
def KA (o n c:Nat) (xs ys:List SV):List (Option (SO × Bool)):=[eN xs,some (Gh,true),some (Gw,true),some (FY false 1 0 1,true),some (G2 (.sl 5 0 n none) 0 1,true),some (.row ys 5 (0,0) (some 1),true),some (Gc,true),some (F6,true)]
noncomputable def DW (o n c:Nat):SF:=GI 9 [(0,.sl 0 o n (some c)),(5,.ptr 1 0),(6,.ptr 6 0)]
def HI (x:Option (SO × Bool)):List (Option (SO × Bool)):=[x,some (Gh,true),some (Gw,true),some (FY false 1 0 1,true),some (G2 (.v (.slice none 0 0)) 0 1,true),none,some (Gc,true),some (F6,true)]
noncomputable def wR (b:SV):SF:=GI 9 [(0,b),(5,.ptr 1 0),(6,.ptr 6 0)]
def oS:List (Option (SO × Bool)):=[none,some (Gh,true),some (.look [.aM,.v (.int .i64 0),.aM,.aM],true),some (FY true 0 0 1,true),none,none,some (EO (.v (.slice none 0 0)) 0 (.sl 7 0 1 none) .aM,true),some (.look [.v (.string bP),.v (.bool true),.v (.int .i64 0)],true)]
noncomputable def gD:SF:=GI 11 [(5,.ptr 1 0),(6,.ptr 6 0)]
theorem OS (xs ys:List SV) (o n c:Nat):iG (bG true) 9 6000 (nA xs o n c) (LR ys) [(0,0),(1,6),(2,2),(3,28),(4,1),(5,84),(6,10),(7,9)] [0,5] (DW o n c) 8 (KA o n c xs ys)=[o=o∧n=n∧some c=some c,0=0,0=0,xs=xs,xs.all ae=true,0=0,vZ (-1:Int)=vZ (-1:Int),vZ (IntKind.i64.wrap (0+1))=vZ 1,vZ (Decidable.rec (fun h=>(fun x=>if (0:Int)>10000 then 0 else 10000) h) (fun h=>(fun x=>1048576) h) (Int.decLt 1048576 (if (0:Int)>10000 then 0 else 10000)))=vZ 10000,vZ (-1:Int)=vZ (-1:Int),1=1,Value.string ⟨⟨[126,98,111,111,107]⟩⟩=Value.string ⟨⟨[126,98,111,111,107]⟩⟩,Value.bool false=Value.bool false,vZ (IntKind.i64.wrap (0+1))=vZ 1,0=0,1=1,vZ (IntKind.i64.wrap (0+1))=vZ 1,0=0∧0+n=n∧nZ=none,vZ 0=vZ 0,0=0,[]++ys=ys,ys.all ae=true,Value.slice none 0 0=Value.slice none 0 0,vZ 0=vZ 0,vZ 10000=vZ 10000,vZ (-1:Int)=vZ (-1:Int),Value.slice none 0 0=Value.slice none 0 0,0=0∧1=1∧some 1=some 1,vZ (-1:Int)=vZ (-1:Int),Value.slice none 0 0=Value.slice none 0 0,Value.int IntKind.u64 0=Value.int IntKind.u64 0,Value.slice none 0 0=Value.slice none 0 0,true=true,true=true,true=true,((List.take (n*1) (List.drop o xs)=ys∧ys.length=n*1)∧n≠0∧(2*(0+n)+1024)*1≤140737488355328)∧List.take 0 ([]:List SV)=[]∧0=0∧ys.all SV.flat=true,true=true,true=true,0<IntKind.i64.wrap (IntKind.i64.wrap (0+(↑(0:Nat):Int))+(↑n:Int))∧IntKind.i64.wrap (IntKind.i64.wrap (0+(↑(0:Nat):Int))+(↑n:Int))≤1000000,decide (IntKind.i64.wrap (IntKind.i64.wrap (0+(↑(0:Nat):Int))+(↑n:Int))<0)=false,true=true,true=true,decide ((↑n:Int)>IntKind.i64.wrap (Decidable.rec (fun h=>(fun x=>if (0:Int)>10000 then 0 else 10000) h) (fun h=>(fun x=>1048576) h) (Int.decLt 1048576 (if (0:Int)>10000 then 0 else 10000)) - IntKind.i64.wrap (0+(↑(0:Nat):Int))))=false,((↑n:Int)==(↑n:Int))=true,true=true,true=true,true=true,true=true,(none:Option Addr)=none,true=true,true=true,true=true,o=o∧n=n∧some c=some c,((↑n:Int)==(↑n:Int))=true,o=o∧n=n∧some c=some c,((↑n:Int)==(↑n:Int))=true,(none:Option Addr)=none,true=true,true=true,true=true,true=true,true=true,true=true,true=true,0=0,0=0,0=0,true=true,0=0,true=true,0=0,0=0,true=true,true=true,true=true,true=true,true=true,true=true,true=true,true=true,true=true,true=true,true=true,decide ((↑n:Int)>6000)=false]:=by kernel_rfl
theorem Kq (xs ys:List SV) (o n c:Nat):jr (bG true) 9 6000 (nA xs o n c) (LR ys)=SF.todo (DW o n c):=by kernel_rfl
end ez
end paths
end Go.Proofs.YtcbokmadfcedaaaGreatDoor
