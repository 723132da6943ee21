/- What the law AuditReplicas leans on, part 5: the symbolic executor, proved sound, contracts of functions, plain lemmas. By an AI agent. -/
import Derived.Test.YtbjmmnegkpeboaaPk4
set_option linter.unusedSimpArgs false
set_option linter.unusedVariables false
set_option maxRecDepth 100000
namespace Go.Proofs.Ytbjmmnegkpeboaa
open Go Go.Rx Go.RowKit Go.Proofs
namespace paths
noncomputable def No (D:List aA) (ys:Option Addr→Nat→List Int):List (FuncId × Sum):=[(15,vW (pA Aq) (pT D9) (pT Ea)),(32,eE HJ),(33,jM (pA (Ar D ys)) (pT (Em D)))]
noncomputable def je (D:List aA) (ys:Option Addr→Nat→List Int):Env:={ EP [] [] with sums:=fun f=>(No D ys).lookup f }
noncomputable def DN (D:List aA) (ys:Option Addr→Nat→List Int) (l:List SV) (off n c:Nat):SM:=(bC (je D ys) 7 [.sl 0 off n (some c)] (bO 6 1 0 [cD l])).getD dC
noncomputable def Iz:List SI:=dn (je [] fun _ _=>[]) 2 100 (DN [] (fun _ _=>[]) [] 0 0 0) [(1000,.b true)]
noncomputable def dU (off n c:Nat) (x:SV) (i:Int):SF:={ fn:=7,tm:=eO 49 6 ([.aJ,.aJ,.aJ,.aJ,.aJ,.ptr 1 0,.aJ,x]++List.replicate 14 .aJ++[.sl 0 off n (some c),.v (.int .i64 n),.v (.int .i64 i)]++List.replicate 24 .aJ),todo:=Iz,defers:=[],ret:=false,kind:=.normal,ro:=none }
def vf:Option (SO × Bool):=some (.row [.v (.map none)] 63 (0,0) none,true)
def D3:Option (SO × Bool):=some (.row [.map 2] 63 (0,0) none,true)
def tM (es:List (SV × SV × Nat)) (cl:Nat):Option (SO × Bool):=some (.map es cl,true)
def fA (l:List SV):List (Option (SO × Bool)):=[cD l,vf]
def fj (l:List SV) (es:List (SV × SV × Nat)) (cl:Nat):List (Option (SO × Bool)):=[cD l,D3,tM es cl]
def gZ (l:List SV) (es:List (SV × SV × Nat)) (cl:Nat) (m:List SV):List (Option (SO × Bool)):=[cD l,D3,tM es cl,jN m]
def pO (k:Nat):SV:=.sl 3 0 k none
theorem Pg (D:List aA) (ys:Option Addr→Nat→List Int) (l m m' q:List SV) (off n c k k' cl cl' j:Nat) (x:aA) (f:cg) (i i':Int) (es es':List (SV × SV × Nat)) (b:Nat × Nat):reach (je D ys) 2 400 (SM.at (dU off n c aK i) 6 (fA l)) ([(2,.cells (iC x)),(3,.b false)]++ff [0,6] true++ff [1,4,5,7,8,9,10,11,12,13,14,15,16] false++[(1000,.b true)]) [(0,0),(1,1)] [0,1] (dU off n c aK i') 6 (fA l)=[0=0,Value.slice none 0 0=Value.slice none 0 0,off=off∧n=n∧some c=some c,vZ (↑n:Int)=vZ (↑n:Int),vZ (IntKind.i64.wrap (i+1))=vZ i',l=l,l.all ab=true,[SV.v (Value.map none)]=[SV.v (Value.map none)],true=true,(!dS (mapOf []) { p:=x.1,k:=x.2,a:=x.3,l:=x.4,c:=x.5:aA }==(aP [] { p:=x.p,k:=x.k,a:=x.a,l:=x.l,c:=x.c:aA }).2)=false,(!dS (mapOf []) { p:=x.1,k:=x.2,a:=x.3,l:=x.4,c:=x.5:aA }==0)=true,63=63∧x.1.size≤1000000000,false=false,True∧fK [] { p:=x.1,k:=x.2,a:=x.3,l:=x.4,c:=x.5:aA }∧(aP [] { p:=x.p,k:=x.k,a:=x.a,l:=x.l,c:=x.c:aA }).2≠0,List.take 3 (List.drop (off+i.toNat*3) l)=iC x∧(iC x).length=3,ao i n=true,decide (i<(↑n:Int))=true]:=by kernel_rfl
theorem Pm (D:List aA) (ys:Option Addr→Nat→List Int) (l m m' q:List SV) (off n c k k' cl cl' j:Nat) (x:aA) (f:cg) (i i':Int) (es es':List (SV × SV × Nat)) (b:Nat × Nat):reach (je D ys) 2 400 (SM.at (dU off n c aK i) 6 (fA l)) ([(2,.cells (iC x)),(3,.dy)]++ff [0,7] true++ff [1,4,5,6,8,9,10,11,12,13,14,15,16,17] false++[(1000,.b true)]) [(0,0),(1,1)] [0,1] (dU off n c aK i') 6 (fA l)=[0=0,Value.slice none 0 0=Value.slice none 0 0,off=off∧n=n∧some c=some c,vZ (↑n:Int)=vZ (↑n:Int),vZ (IntKind.i64.wrap (i+1))=vZ i',l=l,l.all ab=true,[SV.v (Value.map none)]=[SV.v (Value.map none)],true=true,false=false,(x.2==0)=true,(!dS (mapOf []) { p:=x.1,k:=x.2,a:=x.3,l:=x.4,c:=x.5:aA }==0)=false,63=63∧x.1.size≤1000000000,false=false,True∧fK [] { p:=x.1,k:=x.2,a:=x.3,l:=x.4,c:=x.5:aA }∧(aP [] { p:=x.p,k:=x.k,a:=x.a,l:=x.l,c:=x.c:aA }).2=0∧(aP [] { p:=x.p,k:=x.k,a:=x.a,l:=x.l,c:=x.c:aA }).1=[],List.take 3 (List.drop (off+i.toNat*3) l)=iC x∧(iC x).length=3,ao i n=true,decide (i<(↑n:Int))=true]:=by kernel_rfl
theorem Qk (D:List aA) (ys:Option Addr→Nat→List Int) (l m m' q:List SV) (off n c k k' cl cl' j:Nat) (x:aA) (f:cg) (i i':Int) (es es':List (SV × SV × Nat)) (b:Nat × Nat):reach (je D ys) 2 400 (SM.at (dU off n c aK i) 6 (fA l)) ([(2,.cells (iC x)),(3,.b true)]++ff [0,8] true++ff [1,4,5,6,7,9] false++[(1000,.b true)]) [(0,0),(1,1),(2,5),(3,3)] [0,2,3] (dU off n c (pO k') i') 6 (gZ l es' cl' m')=[0=0,0=0∧(aP [] { p:=x.p,k:=x.k,a:=x.a,l:=x.l,c:=x.c:aA }).1.length=k'∧nZ=none,off=off∧n=n∧some c=some c,vZ (↑n:Int)=vZ (↑n:Int),vZ (IntKind.i64.wrap (i+1))=vZ i',l=l,l.all ab=true,1=cl',([]++[(SV.v (Value.string x.p),SV.agg [SV.v (vZ x.k),SV.v (Value.slice none 0 0)],0)])=es',(es'.all fun e=>a8 e.fst&&a8 e.snd.fst)=true,List.map SV.v (vI (aP [] { p:=x.p,k:=x.k,a:=x.a,l:=x.l,c:=x.c:aA }).1)=m',m'.all ab=true,(∃ x_1,x_1∈D∧x_1.a=x.a∧x_1.l=x.l)∧x.3=none,true=true,(x.2==0)=false,(!dS (mapOf []) { p:=x.1,k:=x.2,a:=x.3,l:=x.4,c:=x.5:aA }==0)=false,63=63∧x.1.size≤1000000000,false=false,True∧fK [] { p:=x.1,k:=x.2,a:=x.3,l:=x.4,c:=x.5:aA }∧(aP [] { p:=x.p,k:=x.k,a:=x.a,l:=x.l,c:=x.c:aA }).2=0∧(aP [] { p:=x.p,k:=x.k,a:=x.a,l:=x.l,c:=x.c:aA }).1≠[],List.take 3 (List.drop (off+i.toNat*3) l)=iC x∧(iC x).length=3,ao i n=true,decide (i<(↑n:Int))=true]:=by kernel_rfl
theorem QJ (D:List aA) (ys:Option Addr→Nat→List Int) (l m m' q:List SV) (off n c k k' cl cl' j:Nat) (x:aA) (f:cg) (i i':Int) (es es':List (SV × SV × Nat)) (b:Nat × Nat):iI (je D ys) 2 400 (SM.at (dU off n c aK i) 6 (fA l)) ([(2,.cells (iC x)),(3,.b true)]++ff [0,8,9] true++ff [1,4,5,6,7] false++[(1000,.b true)]) [(0,0),(1,1),(2,5),(3,3)] [0,2,3] (dU off n c (pO k') i') 6 (gZ l es' cl' m') 5 6 (.row q 5 (0,0) (some 1)) b=[List.map SV.v (List.map (Value.int IntKind.u8) (ys x.3 x.4))=q,q.all ab=true,0=0,0=0∧(aP [] { p:=x.p,k:=x.k,a:=x.a,l:=x.l,c:=x.c:aA }).1.length=k'∧nZ=none,off=off∧n=n∧some c=some c,vZ (↑n:Int)=vZ (↑n:Int),vZ (IntKind.i64.wrap (i+1))=vZ i',l=l,l.all ab=true,1=cl',gf 6 b ([]++[(SV.v (Value.string x.p),SV.agg [SV.v (vZ x.k),SV.sl 6 0 x.l none],0)])=es',(es'.all fun e=>a8 e.fst&&a8 e.snd.fst)=true,List.map SV.v (vI (aP [] { p:=x.p,k:=x.k,a:=x.a,l:=x.l,c:=x.c:aA }).1)=m',m'.all ab=true,(∃ x_1,x_1∈D∧x_1.a=x.a∧x_1.l=x.l)∧x.3≠none,true=true,(x.2==0)=false,(!dS (mapOf []) { p:=x.1,k:=x.2,a:=x.3,l:=x.4,c:=x.5:aA }==0)=false,63=63∧x.1.size≤1000000000,false=false,True∧fK [] { p:=x.1,k:=x.2,a:=x.3,l:=x.4,c:=x.5:aA }∧(aP [] { p:=x.p,k:=x.k,a:=x.a,l:=x.l,c:=x.c:aA }).2=0∧(aP [] { p:=x.p,k:=x.k,a:=x.a,l:=x.l,c:=x.c:aA }).1≠[],List.take 3 (List.drop (off+i.toNat*3) l)=iC x∧(iC x).length=3,ao i n=true,decide (i<(↑n:Int))=true]:=by kernel_rfl
theorem Ov (D:List aA) (ys:Option Addr→Nat→List Int) (l m m' q:List SV) (off n c k k' cl cl' j:Nat) (x:aA) (f:cg) (i i':Int) (es es':List (SV × SV × Nat)) (b:Nat × Nat):reach (je D ys) 2 400 (SM.at (dU off n c aK i) 6 (fj l es cl)) ([(2,.cells (iC x)),(3,.b false)]++ff [0,6] true++ff [1,4,5,7,8,9,10,11,12,13,14,15,16,17] false++[(1000,.b true)]) [(0,0),(1,1),(2,2)] [0,2] (dU off n c aK i') 6 (fj l es' cl')=[0=0,Value.slice none 0 0=Value.slice none 0 0,off=off∧n=n∧some c=some c,vZ (↑n:Int)=vZ (↑n:Int),vZ (IntKind.i64.wrap (i+1))=vZ i',l=l,l.all ab=true,cl=cl',es=es',(es'.all fun e=>a8 e.fst&&a8 e.snd.fst)=true,(!dS (mapOf es) { p:=x.1,k:=x.2,a:=x.3,l:=x.4,c:=x.5:aA }==(aP [] { p:=x.p,k:=x.k,a:=x.a,l:=x.l,c:=x.c:aA }).2)=false,(!dS (mapOf es) { p:=x.1,k:=x.2,a:=x.3,l:=x.4,c:=x.5:aA }==0)=true,(63=63∧dM es cl)∧x.1.size≤1000000000,false=false,True∧fK [] { p:=x.1,k:=x.2,a:=x.3,l:=x.4,c:=x.5:aA }∧(aP [] { p:=x.p,k:=x.k,a:=x.a,l:=x.l,c:=x.c:aA }).2≠0,List.take 3 (List.drop (off+i.toNat*3) l)=iC x∧(iC x).length=3,ao i n=true,decide (i<(↑n:Int))=true]:=by kernel_rfl
theorem P5 (D:List aA) (ys:Option Addr→Nat→List Int) (l m m' q:List SV) (off n c k k' cl cl' j:Nat) (x:aA) (f:cg) (i i':Int) (es es':List (SV × SV × Nat)) (b:Nat × Nat):reach (je D ys) 2 400 (SM.at (dU off n c aK i) 6 (fj l es cl)) ([(2,.cells (iC x)),(3,.dy),(8,.dy)]++ff [0,7] true++ff [1,4,5,6,9,10,11,12,13,14,15,16,17,18,19] false++[(1000,.b true)]) [(0,0),(1,1),(2,2)] [0,2] (dU off n c aK i') 6 (fj l es' cl')=[0=0,Value.slice none 0 0=Value.slice none 0 0,off=off∧n=n∧some c=some c,vZ (↑n:Int)=vZ (↑n:Int),vZ (IntKind.i64.wrap (i+1))=vZ i',l=l,l.all ab=true,cl=cl',es=es',(es'.all fun e=>a8 e.fst&&a8 e.snd.fst)=true,false=false,∀ (e:SV × SV × Nat),e∈es→cn x.p e.fst,(x.2==0)=true,(!dS (mapOf es) { p:=x.1,k:=x.2,a:=x.3,l:=x.4,c:=x.5:aA }==0)=false,(63=63∧dM es cl)∧x.1.size≤1000000000,false=false,True∧fK [] { p:=x.1,k:=x.2,a:=x.3,l:=x.4,c:=x.5:aA }∧(aP [] { p:=x.p,k:=x.k,a:=x.a,l:=x.l,c:=x.c:aA }).2=0∧(aP [] { p:=x.p,k:=x.k,a:=x.a,l:=x.l,c:=x.c:aA }).1=[],List.take 3 (List.drop (off+i.toNat*3) l)=iC x∧(iC x).length=3,ao i n=true,decide (i<(↑n:Int))=true]:=by kernel_rfl
theorem Qb (D:List aA) (ys:Option Addr→Nat→List Int) (l m m' q:List SV) (off n c k k' cl cl' j:Nat) (x:aA) (f:cg) (i i':Int) (es es':List (SV × SV × Nat)) (b:Nat × Nat):reach (je D ys) 2 400 (SM.at (dU off n c aK i) 6 (fj l es cl)) ([(2,.cells (iC x)),(3,.b true),(10,.dy)]++ff [0] true++ff [1,4,5,6,7,8,9,11,12,13,14,15,16,17,18,19,20,21,22] false++[(1000,.b true)]) [(0,0),(1,1),(2,2),(3,4)] [0,2,3] (dU off n c (pO k') i') 6 (gZ l es' cl' m')=[0=0,0=0∧(aP [] { p:=x.p,k:=x.k,a:=x.a,l:=x.l,c:=x.c:aA }).1.length=k'∧nZ=none,off=off∧n=n∧some c=some c,vZ (↑n:Int)=vZ (↑n:Int),vZ (IntKind.i64.wrap (i+1))=vZ i',l=l,l.all ab=true,cl+1=cl',(es++[(SV.v (Value.string x.p),SV.agg [SV.v (vZ x.k),SV.v (Value.slice none 0 0)],cl)])=es',(es'.all fun e=>a8 e.fst&&a8 e.snd.fst)=true,List.map SV.v (vI (aP [] { p:=x.p,k:=x.k,a:=x.a,l:=x.l,c:=x.c:aA }).1)=m',m'.all ab=true,false=false,∀ (e:SV × SV × Nat),e∈es→cn x.p e.fst,(∃ x_1,x_1∈D∧x_1.a=x.a∧x_1.l=x.l)∧x.3=none,false=false,(x.2==0)=false,(!dS (mapOf es) { p:=x.1,k:=x.2,a:=x.3,l:=x.4,c:=x.5:aA }==0)=false,(63=63∧dM es cl)∧x.1.size≤1000000000,false=false,True∧fK [] { p:=x.1,k:=x.2,a:=x.3,l:=x.4,c:=x.5:aA }∧(aP [] { p:=x.p,k:=x.k,a:=x.a,l:=x.l,c:=x.c:aA }).2=0∧(aP [] { p:=x.p,k:=x.k,a:=x.a,l:=x.l,c:=x.c:aA }).1≠[],List.take 3 (List.drop (off+i.toNat*3) l)=iC x∧(iC x).length=3,ao i n=true,decide (i<(↑n:Int))=true]:=by kernel_rfl
theorem Ot (D:List aA) (ys:Option Addr→Nat→List Int) (l m m' q:List SV) (off n c k k' cl cl' j:Nat) (x:aA) (f:cg) (i i':Int) (es es':List (SV × SV × Nat)) (b:Nat × Nat):iI (je D ys) 2 400 (SM.at (dU off n c aK i) 6 (fj l es cl)) ([(2,.cells (iC x)),(3,.b true),(10,.dy)]++ff [0,9] true++ff [1,4,5,6,7,8,11,12,13,14,15,16,17,18,19,20,21,22] false++[(1000,.b true)]) [(0,0),(1,1),(2,2),(3,4)] [0,2,3] (dU off n c (pO k') i') 6 (gZ l es' cl' m') 2 6 (.row q 5 (0,0) (some 1)) b=[List.map SV.v (List.map (Value.int IntKind.u8) (ys x.3 x.4))=q,q.all ab=true,0=0,0=0∧(aP [] { p:=x.p,k:=x.k,a:=x.a,l:=x.l,c:=x.c:aA }).1.length=k'∧nZ=none,off=off∧n=n∧some c=some c,vZ (↑n:Int)=vZ (↑n:Int),vZ (IntKind.i64.wrap (i+1))=vZ i',l=l,l.all ab=true,cl+1=cl',gf 6 b (es++[(SV.v (Value.string x.p),SV.agg [SV.v (vZ x.k),SV.sl 6 0 x.l none],cl)])=es',(es'.all fun e=>a8 e.fst&&a8 e.snd.fst)=true,List.map SV.v (vI (aP [] { p:=x.p,k:=x.k,a:=x.a,l:=x.l,c:=x.c:aA }).1)=m',m'.all ab=true,false=false,∀ (e:SV × SV × Nat),e∈es→cn x.p e.fst,(∃ x_1,x_1∈D∧x_1.a=x.a∧x_1.l=x.l)∧x.3≠none,false=false,(x.2==0)=false,(!dS (mapOf es) { p:=x.1,k:=x.2,a:=x.3,l:=x.4,c:=x.5:aA }==0)=false,(63=63∧dM es cl)∧x.1.size≤1000000000,false=false,True∧fK [] { p:=x.1,k:=x.2,a:=x.3,l:=x.4,c:=x.5:aA }∧(aP [] { p:=x.p,k:=x.k,a:=x.a,l:=x.l,c:=x.c:aA }).2=0∧(aP [] { p:=x.p,k:=x.k,a:=x.a,l:=x.l,c:=x.c:aA }).1≠[],List.take 3 (List.drop (off+i.toNat*3) l)=iC x∧(iC x).length=3,ao i n=true,decide (i<(↑n:Int))=true]:=by kernel_rfl
theorem OV (D:List aA) (ys:Option Addr→Nat→List Int) (l m m' q:List SV) (off n c k k' cl cl' j:Nat) (x:aA) (f:cg) (i i':Int) (es es':List (SV × SV × Nat)) (b:Nat × Nat):reach (je D ys) 2 400 (SM.at (dU off n c (pO k) i) 6 (gZ l es cl m)) ([(2,.cells (iC x)),(3,.b false)]++ff [0,6] true++ff [1,4,5,7,8,9,10,11,12,13,14,15,16,17,18,19] false++[(1000,.b true)]) [(0,0),(1,1),(2,2),(3,3)] [0,2,3] (dU off n c (pO k') i') 6 (gZ l es' cl' m')=[0=0,0=0∧k=k'∧nZ=none,off=off∧n=n∧some c=some c,vZ (↑n:Int)=vZ (↑n:Int),vZ (IntKind.i64.wrap (i+1))=vZ i',l=l,l.all ab=true,cl=cl',es=es',(es'.all fun e=>a8 e.fst&&a8 e.snd.fst)=true,m=m',m'.all ab=true,(!dS (mapOf es) { p:=x.1,k:=x.2,a:=x.3,l:=x.4,c:=x.5:aA }==(aP (ae m k) { p:=x.p,k:=x.k,a:=x.a,l:=x.l,c:=x.c:aA }).2)=false,(!dS (mapOf es) { p:=x.1,k:=x.2,a:=x.3,l:=x.4,c:=x.5:aA }==0)=true,(63=63∧dM es cl)∧x.1.size≤1000000000,false=false,(41=41∧bc m k (ae m k)∧ae m k≠[])∧fK (ae m k) { p:=x.1,k:=x.2,a:=x.3,l:=x.4,c:=x.5:aA }∧(aP (ae m k) { p:=x.p,k:=x.k,a:=x.a,l:=x.l,c:=x.c:aA }).2≠0,List.take 3 (List.drop (off+i.toNat*3) l)=iC x∧(iC x).length=3,ao i n=true,decide (i<(↑n:Int))=true]:=by kernel_rfl
theorem Mo (D:List aA) (ys:Option Addr→Nat→List Int) (l m m' q:List SV) (off n c k k' cl cl' j:Nat) (x:aA) (f:cg) (i i':Int) (es es':List (SV × SV × Nat)) (b:Nat × Nat):reach (je D ys) 2 400 (SM.at (dU off n c (pO k) i) 6 (gZ l es cl m)) ([(2,.cells (iC x)),(3,.b true),(8,.hit j (cU f) f.2)]++ff [0,7] true++ff [1,4,5,6,9,10,11,12,13,14,15,16,17,18,19,20,21] false++[(1000,.b true)]) [(0,0),(1,1),(2,2),(3,5)] [0,2,3] (dU off n c (pO k') i') 6 (gZ l es' cl' m')=[0=0,0=0∧(aP (ae m k) { p:=x.p,k:=x.k,a:=x.a,l:=x.l,c:=x.c:aA }).1.length=k'∧nZ=none,off=off∧n=n∧some c=some c,vZ (↑n:Int)=vZ (↑n:Int),vZ (IntKind.i64.wrap (i+1))=vZ i',l=l,l.all ab=true,cl=cl',es.eraseIdx j=es',(es'.all fun e=>a8 e.fst&&a8 e.snd.fst)=true,List.map SV.v (vI (aP (ae m k) { p:=x.p,k:=x.k,a:=x.a,l:=x.l,c:=x.c:aA }).1)=m',m'.all ab=true,false=false,(∀ (e:SV × SV × Nat),e∈List.take j es→cn x.p e.fst)∧es[j]?=some (SV.v (Value.string x.1),cU f,f.2),(x.2==0)=true,(!dS (mapOf es) { p:=x.1,k:=x.2,a:=x.3,l:=x.4,c:=x.5:aA }==0)=false,(63=63∧dM es cl)∧x.1.size≤1000000000,false=false,(41=41∧bc m k (ae m k)∧ae m k≠[])∧fK (ae m k) { p:=x.1,k:=x.2,a:=x.3,l:=x.4,c:=x.5:aA }∧(aP (ae m k) { p:=x.p,k:=x.k,a:=x.a,l:=x.l,c:=x.c:aA }).2=0∧(aP (ae m k) { p:=x.p,k:=x.k,a:=x.a,l:=x.l,c:=x.c:aA }).1≠[],List.take 3 (List.drop (off+i.toNat*3) l)=iC x∧(iC x).length=3,ao i n=true,decide (i<(↑n:Int))=true]:=by kernel_rfl
theorem Ns (D:List aA) (ys:Option Addr→Nat→List Int) (l m m' q:List SV) (off n c k k' cl cl' j:Nat) (x:aA) (f:cg) (i i':Int) (es es':List (SV × SV × Nat)) (b:Nat × Nat):reach (je D ys) 2 400 (SM.at (dU off n c (pO k) i) 6 (gZ l es cl m)) ([(2,.cells (iC x)),(3,.dy),(8,.hit j (cU f) f.2)]++ff [0,7] true++ff [1,4,5,6,9,10,11,12,13,14,15,16,17,18,19] false++[(1000,.b true)]) [(0,0),(1,1),(2,2)] [0,2] (dU off n c aK i') 6 (fj l es' cl')=[0=0,Value.slice none 0 0=Value.slice none 0 0,off=off∧n=n∧some c=some c,vZ (↑n:Int)=vZ (↑n:Int),vZ (IntKind.i64.wrap (i+1))=vZ i',l=l,l.all ab=true,cl=cl',es.eraseIdx j=es',(es'.all fun e=>a8 e.fst&&a8 e.snd.fst)=true,false=false,(∀ (e:SV × SV × Nat),e∈List.take j es→cn x.p e.fst)∧es[j]?=some (SV.v (Value.string x.1),cU f,f.2),(x.2==0)=true,(!dS (mapOf es) { p:=x.1,k:=x.2,a:=x.3,l:=x.4,c:=x.5:aA }==0)=false,(63=63∧dM es cl)∧x.1.size≤1000000000,false=false,(41=41∧bc m k (ae m k)∧ae m k≠[])∧fK (ae m k) { p:=x.1,k:=x.2,a:=x.3,l:=x.4,c:=x.5:aA }∧(aP (ae m k) { p:=x.p,k:=x.k,a:=x.a,l:=x.l,c:=x.c:aA }).2=0∧(aP (ae m k) { p:=x.p,k:=x.k,a:=x.a,l:=x.l,c:=x.c:aA }).1=[],List.take 3 (List.drop (off+i.toNat*3) l)=iC x∧(iC x).length=3,ao i n=true,decide (i<(↑n:Int))=true]:=by kernel_rfl
theorem Ng (D:List aA) (ys:Option Addr→Nat→List Int) (l m m' q:List SV) (off n c k k' cl cl' j:Nat) (x:aA) (f:cg) (i i':Int) (es es':List (SV × SV × Nat)) (b:Nat × Nat):reach (je D ys) 2 400 (SM.at (dU off n c (pO k) i) 6 (gZ l es cl m)) ([(2,.cells (iC x)),(3,.b true),(8,.dy)]++ff [0,7] true++ff [1,4,5,6,9,10,11,12,13,14,15,16,17,18,19,20,21] false++[(1000,.b true)]) [(0,0),(1,1),(2,2),(3,5)] [0,2,3] (dU off n c (pO k') i') 6 (gZ l es' cl' m')=[0=0,0=0∧(aP (ae m k) { p:=x.p,k:=x.k,a:=x.a,l:=x.l,c:=x.c:aA }).1.length=k'∧nZ=none,off=off∧n=n∧some c=some c,vZ (↑n:Int)=vZ (↑n:Int),vZ (IntKind.i64.wrap (i+1))=vZ i',l=l,l.all ab=true,cl=cl',es=es',(es'.all fun e=>a8 e.fst&&a8 e.snd.fst)=true,List.map SV.v (vI (aP (ae m k) { p:=x.p,k:=x.k,a:=x.a,l:=x.l,c:=x.c:aA }).1)=m',m'.all ab=true,false=false,∀ (e:SV × SV × Nat),e∈es→cn x.p e.fst,(x.2==0)=true,(!dS (mapOf es) { p:=x.1,k:=x.2,a:=x.3,l:=x.4,c:=x.5:aA }==0)=false,(63=63∧dM es cl)∧x.1.size≤1000000000,false=false,(41=41∧bc m k (ae m k)∧ae m k≠[])∧fK (ae m k) { p:=x.1,k:=x.2,a:=x.3,l:=x.4,c:=x.5:aA }∧(aP (ae m k) { p:=x.p,k:=x.k,a:=x.a,l:=x.l,c:=x.c:aA }).2=0∧(aP (ae m k) { p:=x.p,k:=x.k,a:=x.a,l:=x.l,c:=x.c:aA }).1≠[],List.take 3 (List.drop (off+i.toNat*3) l)=iC x∧(iC x).length=3,ao i n=true,decide (i<(↑n:Int))=true]:=by kernel_rfl
theorem ME (D:List aA) (ys:Option Addr→Nat→List Int) (l m m' q:List SV) (off n c k k' cl cl' j:Nat) (x:aA) (f:cg) (i i':Int) (es es':List (SV × SV × Nat)) (b:Nat × Nat):reach (je D ys) 2 400 (SM.at (dU off n c (pO k) i) 6 (gZ l es cl m)) ([(2,.cells (iC x)),(3,.b true),(10,.hit j (cU f) f.2)]++ff [0] true++ff [1,4,5,6,7,8,9,11,12,13,14,15,16,17,18,19,20,21,22,23] false++[(1000,.b true)]) [(0,0),(1,1),(2,2),(3,5)] [0,2,3] (dU off n c (pO k') i') 6 (gZ l es' cl' m')=[0=0,0=0∧(aP (ae m k) { p:=x.p,k:=x.k,a:=x.a,l:=x.l,c:=x.c:aA }).1.length=k'∧nZ=none,off=off∧n=n∧some c=some c,vZ (↑n:Int)=vZ (↑n:Int),vZ (IntKind.i64.wrap (i+1))=vZ i',l=l,l.all ab=true,cl=cl',(es.modify j fun e=>(SV.v (Value.string x.p),SV.agg [SV.v (vZ x.k),SV.v (Value.slice none 0 0)],e.2.2))=es',(es'.all fun e=>a8 e.fst&&a8 e.snd.fst)=true,List.map SV.v (vI (aP (ae m k) { p:=x.p,k:=x.k,a:=x.a,l:=x.l,c:=x.c:aA }).1)=m',m'.all ab=true,false=false,(∀ (e:SV × SV × Nat),e∈List.take j es→cn x.p e.fst)∧es[j]?=some (SV.v (Value.string x.1),cU f,f.2),(∃ x_1,x_1∈D∧x_1.a=x.a∧x_1.l=x.l)∧x.3=none,false=false,(x.2==0)=false,(!dS (mapOf es) { p:=x.1,k:=x.2,a:=x.3,l:=x.4,c:=x.5:aA }==0)=false,(63=63∧dM es cl)∧x.1.size≤1000000000,false=false,(41=41∧bc m k (ae m k)∧ae m k≠[])∧fK (ae m k) { p:=x.1,k:=x.2,a:=x.3,l:=x.4,c:=x.5:aA }∧(aP (ae m k) { p:=x.p,k:=x.k,a:=x.a,l:=x.l,c:=x.c:aA }).2=0∧(aP (ae m k) { p:=x.p,k:=x.k,a:=x.a,l:=x.l,c:=x.c:aA }).1≠[],List.take 3 (List.drop (off+i.toNat*3) l)=iC x∧(iC x).length=3,ao i n=true,decide (i<(↑n:Int))=true]:=by kernel_rfl
theorem MD (D:List aA) (ys:Option Addr→Nat→List Int) (l m m' q:List SV) (off n c k k' cl cl' j:Nat) (x:aA) (f:cg) (i i':Int) (es es':List (SV × SV × Nat)) (b:Nat × Nat):iI (je D ys) 2 400 (SM.at (dU off n c (pO k) i) 6 (gZ l es cl m)) ([(2,.cells (iC x)),(3,.b true),(10,.hit j (cU f) f.2)]++ff [0,9] true++ff [1,4,5,6,7,8,11,12,13,14,15,16,17,18,19,20,21,22,23] false++[(1000,.b true)]) [(0,0),(1,1),(2,2),(3,5)] [0,2,3] (dU off n c (pO k') i') 6 (gZ l es' cl' m') 2 7 (.row q 5 (0,0) (some 1)) b=[List.map SV.v (List.map (Value.int IntKind.u8) (ys x.3 x.4))=q,q.all ab=true,0=0,0=0∧(aP (ae m k) { p:=x.p,k:=x.k,a:=x.a,l:=x.l,c:=x.c:aA }).1.length=k'∧nZ=none,off=off∧n=n∧some c=some c,vZ (↑n:Int)=vZ (↑n:Int),vZ (IntKind.i64.wrap (i+1))=vZ i',l=l,l.all ab=true,cl=cl',gf 7 b (es.modify j fun e=>(SV.v (Value.string x.p),SV.agg [SV.v (vZ x.k),SV.sl 7 0 x.l none],e.2.2))=es',(es'.all fun e=>a8 e.fst&&a8 e.snd.fst)=true,List.map SV.v (vI (aP (ae m k) { p:=x.p,k:=x.k,a:=x.a,l:=x.l,c:=x.c:aA }).1)=m',m'.all ab=true,false=false,(∀ (e:SV × SV × Nat),e∈List.take j es→cn x.p e.fst)∧es[j]?=some (SV.v (Value.string x.1),cU f,f.2),(∃ x_1,x_1∈D∧x_1.a=x.a∧x_1.l=x.l)∧x.3≠none,false=false,(x.2==0)=false,(!dS (mapOf es) { p:=x.1,k:=x.2,a:=x.3,l:=x.4,c:=x.5:aA }==0)=false,(63=63∧dM es cl)∧x.1.size≤1000000000,false=false,(41=41∧bc m k (ae m k)∧ae m k≠[])∧fK (ae m k) { p:=x.1,k:=x.2,a:=x.3,l:=x.4,c:=x.5:aA }∧(aP (ae m k) { p:=x.p,k:=x.k,a:=x.a,l:=x.l,c:=x.c:aA }).2=0∧(aP (ae m k) { p:=x.p,k:=x.k,a:=x.a,l:=x.l,c:=x.c:aA }).1≠[],List.take 3 (List.drop (off+i.toNat*3) l)=iC x∧(iC x).length=3,ao i n=true,decide (i<(↑n:Int))=true]:=by kernel_rfl
theorem MH (D:List aA) (ys:Option Addr→Nat→List Int) (l m m' q:List SV) (off n c k k' cl cl' j:Nat) (x:aA) (f:cg) (i i':Int) (es es':List (SV × SV × Nat)) (b:Nat × Nat):reach (je D ys) 2 400 (SM.at (dU off n c (pO k) i) 6 (gZ l es cl m)) ([(2,.cells (iC x)),(3,.b true),(10,.dy)]++ff [0] true++ff [1,4,5,6,7,8,9,11,12,13,14,15,16,17,18,19,20,21,22,23] false++[(1000,.b true)]) [(0,0),(1,1),(2,2),(3,5)] [0,2,3] (dU off n c (pO k') i') 6 (gZ l es' cl' m')=[0=0,0=0∧(aP (ae m k) { p:=x.p,k:=x.k,a:=x.a,l:=x.l,c:=x.c:aA }).1.length=k'∧nZ=none,off=off∧n=n∧some c=some c,vZ (↑n:Int)=vZ (↑n:Int),vZ (IntKind.i64.wrap (i+1))=vZ i',l=l,l.all ab=true,cl+1=cl',(es++[(SV.v (Value.string x.p),SV.agg [SV.v (vZ x.k),SV.v (Value.slice none 0 0)],cl)])=es',(es'.all fun e=>a8 e.fst&&a8 e.snd.fst)=true,List.map SV.v (vI (aP (ae m k) { p:=x.p,k:=x.k,a:=x.a,l:=x.l,c:=x.c:aA }).1)=m',m'.all ab=true,false=false,∀ (e:SV × SV × Nat),e∈es→cn x.p e.fst,(∃ x_1,x_1∈D∧x_1.a=x.a∧x_1.l=x.l)∧x.3=none,false=false,(x.2==0)=false,(!dS (mapOf es) { p:=x.1,k:=x.2,a:=x.3,l:=x.4,c:=x.5:aA }==0)=false,(63=63∧dM es cl)∧x.1.size≤1000000000,false=false,(41=41∧bc m k (ae m k)∧ae m k≠[])∧fK (ae m k) { p:=x.1,k:=x.2,a:=x.3,l:=x.4,c:=x.5:aA }∧(aP (ae m k) { p:=x.p,k:=x.k,a:=x.a,l:=x.l,c:=x.c:aA }).2=0∧(aP (ae m k) { p:=x.p,k:=x.k,a:=x.a,l:=x.l,c:=x.c:aA }).1≠[],List.take 3 (List.drop (off+i.toNat*3) l)=iC x∧(iC x).length=3,ao i n=true,decide (i<(↑n:Int))=true]:=by kernel_rfl
theorem Mr (D:List aA) (ys:Option Addr→Nat→List Int) (l m m' q:List SV) (off n c k k' cl cl' j:Nat) (x:aA) (f:cg) (i i':Int) (es es':List (SV × SV × Nat)) (b:Nat × Nat):iI (je D ys) 2 400 (SM.at (dU off n c (pO k) i) 6 (gZ l es cl m)) ([(2,.cells (iC x)),(3,.b true),(10,.dy)]++ff [0,9] true++ff [1,4,5,6,7,8,11,12,13,14,15,16,17,18,19,20,21,22,23] false++[(1000,.b true)]) [(0,0),(1,1),(2,2),(3,5)] [0,2,3] (dU off n c (pO k') i') 6 (gZ l es' cl' m') 2 7 (.row q 5 (0,0) (some 1)) b=[List.map SV.v (List.map (Value.int IntKind.u8) (ys x.3 x.4))=q,q.all ab=true,0=0,0=0∧(aP (ae m k) { p:=x.p,k:=x.k,a:=x.a,l:=x.l,c:=x.c:aA }).1.length=k'∧nZ=none,off=off∧n=n∧some c=some c,vZ (↑n:Int)=vZ (↑n:Int),vZ (IntKind.i64.wrap (i+1))=vZ i',l=l,l.all ab=true,cl+1=cl',gf 7 b (es++[(SV.v (Value.string x.p),SV.agg [SV.v (vZ x.k),SV.sl 7 0 x.l none],cl)])=es',(es'.all fun e=>a8 e.fst&&a8 e.snd.fst)=true,List.map SV.v (vI (aP (ae m k) { p:=x.p,k:=x.k,a:=x.a,l:=x.l,c:=x.c:aA }).1)=m',m'.all ab=true,false=false,∀ (e:SV × SV × Nat),e∈es→cn x.p e.fst,(∃ x_1,x_1∈D∧x_1.a=x.a∧x_1.l=x.l)∧x.3≠none,false=false,(x.2==0)=false,(!dS (mapOf es) { p:=x.1,k:=x.2,a:=x.3,l:=x.4,c:=x.5:aA }==0)=false,(63=63∧dM es cl)∧x.1.size≤1000000000,false=false,(41=41∧bc m k (ae m k)∧ae m k≠[])∧fK (ae m k) { p:=x.1,k:=x.2,a:=x.3,l:=x.4,c:=x.5:aA }∧(aP (ae m k) { p:=x.p,k:=x.k,a:=x.a,l:=x.l,c:=x.c:aA }).2=0∧(aP (ae m k) { p:=x.p,k:=x.k,a:=x.a,l:=x.l,c:=x.c:aA }).1≠[],List.take 3 (List.drop (off+i.toNat*3) l)=iC x∧(iC x).length=3,ao i n=true,decide (i<(↑n:Int))=true]:=by kernel_rfl
theorem pG {p:ByteArray} (h:a7 p=true):p≠⟨#[]⟩:=fun e=>by
 have h1:=gO p
 rw [h] at h1
 exact absurd (by rw [e];rfl) (Bv p (by simpa using h1))
theorem sU {xs:List aA} {x:aA} (h:(aP xs x).2=0):a7 x.p=true∧((x.k=0∧aP xs x=(bW x.p xs,0))∨(x.k≠0∧aP xs x=(fT x (bW x.p xs),0)∧((aj x.p xs).k≠0∨xs.length<128))):=by
 unfold aP at h ⊢
 by_cases g:a7 x.p=false
 ·rw [if_pos g] at h;simp at h
 rw [if_neg g] at h ⊢
 refine ⟨by simpa using g,?_⟩
 by_cases c1:aZ x.k x.l≠0
 ·rw [if_pos c1] at h;exact absurd h c1
 rw [if_neg c1] at h ⊢
 by_cases c2:x.k≠2∧bP x.p xs≠[]
 ·rw [if_pos c2] at h;simp at h
 rw [if_neg c2] at h ⊢
 by_cases c0:x.k=0
 ·rw [if_pos c0];exact .inl ⟨c0,rfl⟩
 rw [if_neg c0] at h ⊢
 by_cases cu:A3 x=true∧(aj (aq x.p) xs).k≠2
 ·rw [if_pos cu] at h;simp at h
 rw [if_neg cu] at h ⊢
 by_cases cf:(aj x.p xs).k=0∧128≤xs.length
 ·rw [if_pos cf] at h;simp at h
 rw [if_neg cf]
 refine .inr ⟨c0,rfl,?_⟩
 by_cases h0:(aj x.p xs).k=0
 ·exact .inr (Nat.lt_of_not_le fun h=>cf ⟨h0,h⟩)
 ·exact .inl h0
section
variable {E:List cg} {cl:Nat} {xs:List aA} {x:aA} {cm ys:aA→List Int}
theorem dQ.nil:dQ cm ys [] cl []:=⟨⟨by simp,by simp,fun e he=>(nomatch he),fun e he=>(nomatch he),fun e he=>(nomatch he)⟩,List.Perm.refl _,List.Pairwise.nil,by simp,fun e he=>(nomatch he)⟩
theorem dQ.era (h:dQ cm ys E cl xs) {j:Nat} {f:cg} (hj:E[j]?=some f) (hp:f.1.p=x.p):dQ cm ys (E.eraseIdx j) cl (bW x.p xs):=
 ⟨h.ok.sub (List.eraseIdx_sublist E j),by rw [lj h.ok.names hj,hp,ue];exact h.twin.filter _,h.sorted.drop _,Nat.le_trans (uu _ _) h.few,fun e he=>h.kind e (List.mem_filter.1 he).1⟩
theorem dQ.mod (h:dQ cm ys E cl xs) {j:Nat} {f:cg} (hj:E[j]?=some f) (hp:f.1.p=x.p) {y:aA} (hy:nq cm y=nq ys x) (hxk:x.k≠0):dQ cm ys (E.modify j fun e=>(y,e.2)) cl (fT x (bW x.p xs)):=by
 have hf:=List.mem_of_getElem? hj
 have hyp:y.p=x.p:=(Prod.mk.inj hy).1
 refine dQ.new (h.ok.mod hj (by rw [hyp,hp])) ?_ (h.sorted.drop _) (fun e he=>Ev e he) ?_ (fun e he=>h.kind e (List.mem_filter.1 he).1) hxk
 ·refine ((kK (g:=fun e=>(y,e.2)) hj).map (kJ cm)).trans ?_
  rw [List.map_cons,lj h.ok.names hj,hp,ue]
  show (nq cm y::_).Perm _
  rw [hy]
  exact (h.twin.filter _).cons _
 ·have:=(h.xE hf).2.1
  rw [hp] at this
  have:=h.few
  omega
theorem dQ.snoc (h:dQ cm ys E cl xs) (hm:∀ f∈E,f.1.p≠x.p) {y:aA} (hy:nq cm y=nq ys x) (hf:x.p≠⟨#[]⟩) (hz:x.p.size≤1000000000) (hl:xs.length<128) (hxk:x.k≠0):dQ cm ys (E++[(y,cl)]) (cl+1) (fT x xs):=by
 have hyp:y.p=x.p:=(Prod.mk.inj hy).1
 refine dQ.new (h.ok.snoc (by rw [hyp];exact hm) (by rw [hyp];exact hf) (by rw [hyp];exact hz)) ?_ h.sorted (h.dy hm) hl h.kind hxk
 refine yC.trans ?_
 rw [hy]
 exact h.twin.cons _
theorem dQ.tree (h:dQ cm ys E cl xs):dM (E.map mI) cl:=by
 refine ⟨by rw [bp],by rw [bp];exact h.ok,?_⟩
 rw [bp,h.len]
 have:=h.few
 omega
theorem dQ.empty (h:dQ cm ys E cl []):E=[]:=List.length_eq_zero_iff.1 (by rw [h.len];rfl)
end
structure lE (D:List aA):Prop where
 size:∀ x∈D,x.p.size≤1000000000
 nil:∀ x∈D,x.a=none→x.l=0
 few:D.length≤1000
def yI (ys:Option Addr→Nat→List Int) (e:aA):List Int:=ys e.a e.l
structure wu (D:List aA) (ys:Option Addr→Nat→List Int) (w0:World) (M:Own) (H:Hp) (M1:Own) (w1:World) (E:List cg) (cl:Nat) (xs:List aA):Prop where
 kept:Kept w0.hp M w0 H M1 w1
 inv:dQ (kC H) (yI ys) E cl xs
 data:∀ e∈E,∃ zs,dw H e.1 zs∧uq w0 e.1
 sub:∀ e∈xs,e∈D
section
variable {D:List aA} {ys:Option Addr→Nat→List Int} {w0:World} {M:Own} {H:Hp} {M1:Own} {w1:World} {E:List cg} {cl:Nat} {xs:List aA} {x:aA}
theorem wu.next (hS:wu D ys w0 M H M1 w1 E cl xs) {H':Hp} {M2:Own} {w2:World} (hk:Kept w0.hp M w0 H' M2 w2) (hs:H.Sub H') {y:aA} {zs:List Int} (hy:dw H' y zs) (hyn:uq w0 y)
  {E':List cg} {cl':Nat} {xs':List aA} (hE:∀ e∈E',e.1=y∨e∈E) (hx:x∈D) (hxs:∀ e∈xs',e=x∨e∈xs) (inv:dQ (kC H') (yI ys) E cl xs→dQ (kC H') (yI ys) E' cl' xs'):wu D ys w0 M H' M2 w2 E' cl' xs':=by
 have hold:∀ e∈E,∃ zs,dw H' e.1 zs∧uq w0 e.1∧kC H e.1=kC H' e.1:=fun e he=>by
  obtain ⟨zs,h,hn⟩:=hS.data e he
  exact ⟨zs,h.mono hs,hn,by rw [h.cont,(h.mono hs).cont]⟩
 refine ⟨hk,inv (hS.inv.cont fun e he=>(by obtain ⟨_,_,_,h⟩:=hold e he;exact h)),fun e he=>?_,fun e he=>?_⟩
 ·rcases hE e he with h | h
  ·exact ⟨zs,by rw [h];exact hy,by rw [h];exact hyn⟩
  ·obtain ⟨zs,h,hn,_⟩:=hold e h;exact ⟨zs,h,hn⟩
 ·rcases hxs e he with h | h
  ·rw [h];exact hx
  ·exact hS.sub e h
theorem wu.nil (hk:Kept w0.hp M w0 H M1 w1):wu D ys w0 M H M1 w1 [] 0 []:=⟨hk,dQ.nil,fun e he=>(nomatch he),fun e he=>(nomatch he)⟩
theorem fF {H:Hp} {x:aA} {zs:List Int} {ν1:aU} {j:Nat} {b:Nat × Nat} {ob:Obj} (hl:zs.length=x.l) (h:OR ν1 j (.row (List.map SV.v (zs.map (Value.int .u8))) 5 (0,0) (some 1)) ob):dw (H.put b.1 ob) ⟨x.p,x.k,some ⟨b.1,0,none⟩,x.l,b.2⟩ zs:=by
 obtain ⟨vs,rest,rfl,hv,_⟩:=h
 obtain rfl:=C1 hv
 exact .inr ⟨b.1,rest,rfl,by rw [Hp.bM];simp,hl⟩
theorem uG {M0:Own} {w00 w0:World} (hM:∀ z,¬ M0 z) (hB:dz M0 w00 M w0) (hX:mi D ys w00):aW (je D ys) M w0:=
 aW.Bg (Checked.mixed Try.checked) (by kernel_rfl) (gu.of ke rfl eY) (ep.list (X:=mi D ys) (l:=No D ys) rfl (fun r h=>by
  simp only [No,List.mem_cons,List.not_mem_nil,or_false] at h
  rcases h with rfl | rfl | rfl
  ·exact Gb
  ·exact LQ HX fun w h=>h.1
  ·exact GD) fun ν s w hr _=>hX.keep fun k hk=>(hr.frame k (Nat.lt_of_lt_of_le hk hB.size) (hB.frame k hk (hM k)).2).trans (hB.frame k hk (hM k)).1) (fun f g h=>by cases h)
def tQ (D:List aA) (ys:Option Addr→Nat→List Int) (w0:World) (e:Ending) (w':World):Prop:=Below w0.heap.size w0 w'∧∃ b v,e=.returned (.tuple #[bX b,v,.bool true])∧w0.heap.size≤b∧
 ∃ E cl xs,dQ (kC w'.hp) (yI ys) E cl xs∧(∀ e∈E,∃ zs,dw w'.hp e.1 zs∧uq w0 e.1)∧(∀ e∈xs,e∈D)∧
  ((xs=[]∧gT w' b)∨∃ m,w0.heap.size≤m∧ky w' b m E cl)∧((xs=[]∧v=.slice none 0 0)∨(xs≠[]∧cy w0 w' v (vI xs) xs.length 3 41))
end
theorem yp (x:aA):(⟨x.p,x.k,x.a,x.l,x.c⟩:aA)=x:=rfl
theorem dx:mapOf []=[]:=rfl
section
variable {w0:World} {cs0:List Frame} {D:List aA} {ys:Option Addr→Nat→List Int} {M:Own} {off c:Nat} {ν:aU}
theorem Gg (hX:mi D ys w0) (hM:∀ z,¬ M z) (hD:lE D) {i:Nat} (hi:i<D.length) (hν0:∀ i b,ν i=some b→i=0)
  (ihC:∀ H M1 w1 E cl xs,wu D ys w0 M H M1 w1 E cl xs→xs≠[]→af (je D ys) M1 w1 cs0 7 (tQ D ys w0) ν (SM.at (dU off D.length c (pO xs.length) ((i+1:Nat):Int)) 6 (gZ (ar iC off D) (E.map mI) cl (cI xs))))
  (ihA:∀ H M1 w1,Kept w0.hp M w0 H M1 w1→af (je D ys) M1 w1 cs0 7 (tQ D ys w0) ν (SM.at (dU off D.length c aK ((i+1:Nat):Int)) 6 (fA (ar iC off D))))
  {H:Hp} {M1:Own} {w1:World} (hk:Kept w0.hp M w0 H M1 w1):
  af (je D ys) M1 w1 cs0 7 (tQ D ys w0) ν (SM.at (dU off D.length c aK (i:Int)) 6 (fA (ar iC off D))):=by
 have hS:=wu.nil (D:=D) (ys:=ys) hk
 generalize hx:D[i]=x
 have hxi:D[i]?=some x:=by rw [← hx];exact List.getElem?_eq_getElem hi
 have hxD:x∈D:=by rw [← hx];exact List.getElem_mem hi
 have few:=hD.few
 have t1:decide ((i:Int)<(D.length:Int))=true:=decide_eq_true (by omega)
 have r1:=aO hi
 have ws:=aM (k:=i) (by omega)
 have ra:=fM (off:=off) cV hxi
 have hcl:(ar iC off D).all ab=true:=bw bt
 have x1:=hD.size x hxD
 have hyl:(ys x.a x.l).length=x.l:=(hX.2 x hxD).1
 have hy0:x.a=none→ys x.a x.l=[]:=fun h=>List.length_eq_zero_iff.1 (by rw [hyl,hD.nil x hxD h])
 have hI:=hS.inv
 have hSI:fK [] x:=⟨x1,hI.size⟩
 have hT:=hI.tree
 have hmr:=ve hI x
 have hh:True:=trivial
 by_cases hc:¬ (aP [] x).2=0
 ·have may0:(!dS [] x==(0:Int))=true:=by rw [hmr];simpa using hc
  have hr:(!dS [] x==(aP [] x).2)=false:=by rw [hmr];simp
  refine af.reach (uG hM hS.kept.base hX) (k:=2) (n:=400) (o:=([(2,.cells (iC x)),(3,.b false)]++ff [0,6] true++ff [1,4,5,7,8,9,10,11,12,13,14,15,16] false++[(1000,.b true)])) (ren:=[(0,0),(1,1)]) (eqs:=[0,1]) ?_ (by kernel_rfl) (fun i b h=>by rw [hν0 i b h];rfl) (ihA H M1 w1 hk)
  rw [Pg (m:=[]) (m':=[]) (q:=[]) (k:=0) (k':=0) (cl:=0) (cl':=0) (j:=0) (f:=(x,0)) (es:=[]) (es':=[]) (b:=(0,0))]
  simp only [ak,t1,r1,ra,ws,may0,hr,cV,bt,hcl,yp,aN,dx,bp,az,cR,cH,hh,hT,hSI,x1,hc,ne_eq,not_false_eq_true,and_self,and_true,true_and]
  try (repeat' apply And.intro)
  all_goals first | rfl | assumption | exact aV _ | exact ⟨x,hxD,rfl,rfl⟩ | exact ⟨x,hxD,by assumption,rfl⟩ | exact hT.2.1 | exact dg _ | decide | (simp;done) | exact dO (fun e=>rfl) E _ | exact cK (fun e=>rfl) E _ | exact ba (E:=[]) rfl | exact ba rfl | (rw [List.map_append];rfl) | (rw [cT]) | exact di _ _ | skip
 have hc:=Classical.not_not.1 hc
 obtain ⟨hg,hz⟩:=sU hc
 have hxf:=pG hg
 have may0:(!dS [] x==(0:Int))=false:=by rw [hmr,hc];rfl
 rcases hz with ⟨hk0,hr⟩ | ⟨hk0,hr,hfit⟩
 ·have k0:(x.2==(0:Int))=true:=by rw [show x.2=0 from hk0];rfl
  have hd:bW x.p ([]:List aA)=[]:=rfl
  rw [hd] at hr
  refine af.reach (uG hM hS.kept.base hX) (k:=2) (n:=400) (o:=([(2,.cells (iC x)),(3,.dy)]++ff [0,7] true++ff [1,4,5,6,8,9,10,11,12,13,14,15,16,17] false++[(1000,.b true)])) (ren:=[(0,0),(1,1)]) (eqs:=[0,1]) ?_ (by kernel_rfl) (fun i b h=>by rw [hν0 i b h];rfl) (ihA H M1 w1 hk)
  rw [Pm (m:=[]) (m':=[]) (q:=[]) (k:=0) (k':=0) (cl:=0) (cl':=0) (j:=0) (f:=(x,0)) (es:=[]) (es':=[]) (b:=(0,0))]
  simp only [ak,t1,r1,ra,ws,may0,hr,cV,bt,hcl,yp,aN,dx,bp,az,cR,cH,hh,hT,hSI,x1,k0,and_self,and_true,true_and]
  try (repeat' apply And.intro)
  all_goals first | rfl | assumption | exact aV _ | exact ⟨x,hxD,rfl,rfl⟩ | exact ⟨x,hxD,by assumption,rfl⟩ | exact hT.2.1 | exact dg _ | decide | (simp;done) | exact dO (fun e=>rfl) E _ | exact cK (fun e=>rfl) E _ | exact ba (E:=[]) rfl | exact ba rfl | (rw [List.map_append];rfl) | (rw [cT]) | exact di _ _ | skip
 ·have k0:(x.2==(0:Int))=false:=by simpa using hk0
  have hd:bW x.p ([]:List aA)=[]:=rfl
  rw [hd] at hr
  have hm:∀ f∈([]:List cg),f.1.p≠x.p:=fun f hf=>(nomatch hf)
  by_cases hn:x.a=none
  ·have hb0:dw H (⟨x.p,x.k,none,0,0⟩:aA) (ys x.a x.l):=.inl ⟨rfl,rfl,hy0 hn⟩
   have hn3:x.3=none:=hn
   refine af.reach (uG hM hS.kept.base hX) (k:=2) (n:=400) (o:=([(2,.cells (iC x)),(3,.b true)]++ff [0,8] true++ff [1,4,5,6,7,9] false++[(1000,.b true)])) (ren:=[(0,0),(1,1),(2,5),(3,3)]) (eqs:=[0,2,3]) ?_ (by kernel_rfl) (fun i b h=>by rw [hν0 i b h];rfl) (ihC H M1 w1 ([]++[((⟨x.p,x.k,none,0,0⟩:aA),0)]) (0+1) _ (hS.next (x:=x) (y:=(⟨x.p,x.k,none,0,0⟩:aA)) hS.kept (Hp.Sub.refl _) hb0 (fun a h=>by cases h) (fun e he=>(List.mem_append.1 he).elim (fun h=>.inr h) fun h=>.inl (by rw [List.mem_singleton.1 h])) hxD (fun e he=>iF he) fun hI=>hI.snoc hm (by unfold nq yI;rw [hb0.cont]) hxf x1 (by simp) hk0) (di _ _))
   rw [Qk (m:=[]) (q:=[]) (k:=0) (cl:=0) (j:=0) (f:=(x,0)) (es:=[]) (b:=(0,0))]
   simp only [ak,t1,r1,ra,ws,may0,hr,cV,bt,hcl,yp,aN,dx,bp,az,cR,cH,hh,hT,hSI,x1,List.not_mem_nil,false_implies,implies_true,k0,hn3,and_self,and_true,true_and]
   try (repeat' apply And.intro)
   all_goals first | rfl | assumption | exact aV _ | exact ⟨x,hxD,rfl,rfl⟩ | exact ⟨x,hxD,by assumption,rfl⟩ | exact hT.2.1 | exact dg _ | decide | (simp;done) | exact dO (fun e=>rfl) E _ | exact cK (fun e=>rfl) E _ | exact ba (E:=[]) rfl | exact ba rfl | (rw [List.map_append];rfl) | (rw [cT]) | exact di _ _ | skip
  ·have hn3:¬ x.3=none:=hn
   refine af.iI (uG hM hS.kept.base hX) hM hS.kept (k:=2) (n:=400) (o:=([(2,.cells (iC x)),(3,.b true)]++ff [0,8,9] true++ff [1,4,5,6,7] false++[(1000,.b true)])) (ren:=[(0,0),(1,1),(2,5),(3,3)]) (eqs:=[0,2,3]) (m:=5) (j:=6) (so:=.row (List.map SV.v ((ys x.a x.l).map (Value.int .u8))) 5 (0,0) (some 1)) (fun b=>?_) (by kernel_rfl) (fun i b h=>by rw [hν0 i b h];rfl) (fun ν1 b ob M2 w2 hb1 hor hK hsub hbn=>ihC (H.put b.1 ob) M2 w2 ([]++[((⟨x.p,x.k,some ⟨b.1,0,none⟩,x.l,b.2⟩:aA),0)]) (0+1) _ (hS.next (x:=x) (y:=(⟨x.p,x.k,some ⟨b.1,0,none⟩,x.l,b.2⟩:aA)) hK hsub (fF hyl hor) (fun a h=>by cases h;exact hbn) (fun e he=>(List.mem_append.1 he).elim (fun h=>.inr h) fun h=>.inl (by rw [List.mem_singleton.1 h])) hxD (fun e he=>iF he) fun hI=>hI.snoc hm (by unfold nq yI;rw [(fF (H:=H) (b:=b) (x:=x) hyl hor).cont]) hxf x1 (by simp) hk0) (di _ _))
   rw [QJ (m:=[]) (k:=0) (cl:=0) (j:=0) (f:=(x,0)) (es:=[])]
   simp only [ak,t1,r1,ra,ws,may0,hr,cV,bt,hcl,yp,aN,dx,bp,az,cR,cH,hh,hT,hSI,x1,List.not_mem_nil,false_implies,implies_true,k0,hn3,ne_eq,not_false_eq_true,and_self,and_true,true_and]
   try (repeat' apply And.intro)
   all_goals first | rfl | assumption | exact aV _ | exact ⟨x,hxD,rfl,rfl⟩ | exact ⟨x,hxD,by assumption,rfl⟩ | exact hT.2.1 | exact dg _ | decide | (simp;done) | exact dO (fun e=>rfl) E _ | exact cK (fun e=>rfl) E _ | exact ba (E:=[]) rfl | exact ba rfl | (rw [List.map_append];rfl) | (rw [cT]) | exact di _ _ | skip
theorem F3 (hX:mi D ys w0) (hM:∀ z,¬ M z) (hD:lE D) {i:Nat} (hi:i<D.length) (hν0:∀ i b,ν i=some b→i=0)
  (ihC:∀ H M1 w1 E cl xs,wu D ys w0 M H M1 w1 E cl xs→xs≠[]→af (je D ys) M1 w1 cs0 7 (tQ D ys w0) ν (SM.at (dU off D.length c (pO xs.length) ((i+1:Nat):Int)) 6 (gZ (ar iC off D) (E.map mI) cl (cI xs))))
  (ihB:∀ H M1 w1 cl,wu D ys w0 M H M1 w1 [] cl []→af (je D ys) M1 w1 cs0 7 (tQ D ys w0) ν (SM.at (dU off D.length c aK ((i+1:Nat):Int)) 6 (fj (ar iC off D) [] cl)))
  {H:Hp} {M1:Own} {w1:World} {cl:Nat} (hS:wu D ys w0 M H M1 w1 [] cl []):
  af (je D ys) M1 w1 cs0 7 (tQ D ys w0) ν (SM.at (dU off D.length c aK (i:Int)) 6 (fj (ar iC off D) [] cl)):=by
 generalize hx:D[i]=x
 have hxi:D[i]?=some x:=by rw [← hx];exact List.getElem?_eq_getElem hi
 have hxD:x∈D:=by rw [← hx];exact List.getElem_mem hi
 have few:=hD.few
 have t1:decide ((i:Int)<(D.length:Int))=true:=decide_eq_true (by omega)
 have r1:=aO hi
 have ws:=aM (k:=i) (by omega)
 have ra:=fM (off:=off) cV hxi
 have hcl:(ar iC off D).all ab=true:=bw bt
 have x1:=hD.size x hxD
 have hyl:(ys x.a x.l).length=x.l:=(hX.2 x hxD).1
 have hy0:x.a=none→ys x.a x.l=[]:=fun h=>List.length_eq_zero_iff.1 (by rw [hyl,hD.nil x hxD h])
 have hI:=hS.inv
 have hSI:fK [] x:=⟨x1,hI.size⟩
 have hT:=hI.tree
 have hmr:=ve hI x
 have hh:True:=trivial
 by_cases hc:¬ (aP [] x).2=0
 ·have may0:(!dS [] x==(0:Int))=true:=by rw [hmr];simpa using hc
  have hr:(!dS [] x==(aP [] x).2)=false:=by rw [hmr];simp
  refine af.reach (uG hM hS.kept.base hX) (k:=2) (n:=400) (o:=([(2,.cells (iC x)),(3,.b false)]++ff [0,6] true++ff [1,4,5,7,8,9,10,11,12,13,14,15,16,17] false++[(1000,.b true)])) (ren:=[(0,0),(1,1),(2,2)]) (eqs:=[0,2]) ?_ (by kernel_rfl) (fun i b h=>by rw [hν0 i b h];rfl) (ihB H M1 w1 cl hS)
  rw [Ov (m:=[]) (m':=[]) (q:=[]) (k:=0) (k':=0) (j:=0) (f:=(x,0)) (b:=(0,0))]
  simp only [ak,t1,r1,ra,ws,may0,hr,cV,bt,hcl,yp,aN,dx,bp,az,cR,cH,hh,hT,hSI,x1,hc,ne_eq,not_false_eq_true,and_self,and_true,true_and]
  try (repeat' apply And.intro)
  all_goals first | rfl | assumption | exact aV _ | exact ⟨x,hxD,rfl,rfl⟩ | exact ⟨x,hxD,by assumption,rfl⟩ | exact hT.2.1 | exact dg _ | decide | (simp;done) | exact dO (fun e=>rfl) E _ | exact cK (fun e=>rfl) E _ | exact ba (E:=[]) rfl | exact ba rfl | (rw [List.map_append];rfl) | (rw [cT]) | exact di _ _ | skip
 have hc:=Classical.not_not.1 hc
 obtain ⟨hg,hz⟩:=sU hc
 have hxf:=pG hg
 have may0:(!dS [] x==(0:Int))=false:=by rw [hmr,hc];rfl
 rcases hz with ⟨hk0,hr⟩ | ⟨hk0,hr,hfit⟩
 ·have k0:(x.2==(0:Int))=true:=by rw [show x.2=0 from hk0];rfl
  have hd:bW x.p ([]:List aA)=[]:=rfl
  rw [hd] at hr
  refine af.reach (uG hM hS.kept.base hX) (k:=2) (n:=400) (o:=([(2,.cells (iC x)),(3,.dy),(8,.dy)]++ff [0,7] true++ff [1,4,5,6,9,10,11,12,13,14,15,16,17,18,19] false++[(1000,.b true)])) (ren:=[(0,0),(1,1),(2,2)]) (eqs:=[0,2]) ?_ (by kernel_rfl) (fun i b h=>by rw [hν0 i b h];rfl) (ihB H M1 w1 cl hS)
  rw [P5 (m:=[]) (m':=[]) (q:=[]) (k:=0) (k':=0) (j:=0) (f:=(x,0)) (b:=(0,0))]
  simp only [ak,t1,r1,ra,ws,may0,hr,cV,bt,hcl,yp,aN,dx,bp,az,cR,cH,hh,hT,hSI,x1,k0,List.not_mem_nil,false_implies,implies_true,and_self,and_true,true_and]
  try (repeat' apply And.intro)
  all_goals first | rfl | assumption | exact aV _ | exact ⟨x,hxD,rfl,rfl⟩ | exact ⟨x,hxD,by assumption,rfl⟩ | exact hT.2.1 | exact dg _ | decide | (simp;done) | exact dO (fun e=>rfl) E _ | exact cK (fun e=>rfl) E _ | exact ba (E:=[]) rfl | exact ba rfl | (rw [List.map_append];rfl) | (rw [cT]) | exact di _ _ | skip
 ·have k0:(x.2==(0:Int))=false:=by simpa using hk0
  have hd:bW x.p ([]:List aA)=[]:=rfl
  rw [hd] at hr
  have hm:∀ f∈([]:List cg),f.1.p≠x.p:=fun f hf=>(nomatch hf)
  by_cases hn:x.a=none
  ·have hb0:dw H (⟨x.p,x.k,none,0,0⟩:aA) (ys x.a x.l):=.inl ⟨rfl,rfl,hy0 hn⟩
   have hn3:x.3=none:=hn
   refine af.reach (uG hM hS.kept.base hX) (k:=2) (n:=400) (o:=([(2,.cells (iC x)),(3,.b true),(10,.dy)]++ff [0] true++ff [1,4,5,6,7,8,9,11,12,13,14,15,16,17,18,19,20,21,22] false++[(1000,.b true)])) (ren:=[(0,0),(1,1),(2,2),(3,4)]) (eqs:=[0,2,3]) ?_ (by kernel_rfl) (fun i b h=>by rw [hν0 i b h];rfl) (ihC H M1 w1 ([]++[((⟨x.p,x.k,none,0,0⟩:aA),cl)]) (cl+1) _ (hS.next (x:=x) (y:=(⟨x.p,x.k,none,0,0⟩:aA)) hS.kept (Hp.Sub.refl _) hb0 (fun a h=>by cases h) (fun e he=>(List.mem_append.1 he).elim (fun h=>.inr h) fun h=>.inl (by rw [List.mem_singleton.1 h])) hxD (fun e he=>iF he) fun hI=>hI.snoc hm (by unfold nq yI;rw [hb0.cont]) hxf x1 (by simp) hk0) (di _ _))
   rw [Qb (m:=[]) (q:=[]) (k:=0) (j:=0) (f:=(x,0)) (b:=(0,0))]
   simp only [ak,t1,r1,ra,ws,may0,hr,cV,bt,hcl,yp,aN,dx,bp,az,cR,cH,hh,hT,hSI,x1,List.not_mem_nil,false_implies,implies_true,k0,hn3,and_self,and_true,true_and]
   try (repeat' apply And.intro)
   all_goals first | rfl | assumption | exact aV _ | exact ⟨x,hxD,rfl,rfl⟩ | exact ⟨x,hxD,by assumption,rfl⟩ | exact hT.2.1 | exact dg _ | decide | (simp;done) | exact dO (fun e=>rfl) E _ | exact cK (fun e=>rfl) E _ | exact ba (E:=[]) rfl | exact ba rfl | (rw [List.map_append];rfl) | (rw [cT]) | exact di _ _ | skip
  ·have hn3:¬ x.3=none:=hn
   refine af.iI (uG hM hS.kept.base hX) hM hS.kept (k:=2) (n:=400) (o:=([(2,.cells (iC x)),(3,.b true),(10,.dy)]++ff [0,9] true++ff [1,4,5,6,7,8,11,12,13,14,15,16,17,18,19,20,21,22] false++[(1000,.b true)])) (ren:=[(0,0),(1,1),(2,2),(3,4)]) (eqs:=[0,2,3]) (m:=2) (j:=6) (so:=.row (List.map SV.v ((ys x.a x.l).map (Value.int .u8))) 5 (0,0) (some 1)) (fun b=>?_) (by kernel_rfl) (fun i b h=>by rw [hν0 i b h];rfl) (fun ν1 b ob M2 w2 hb1 hor hK hsub hbn=>ihC (H.put b.1 ob) M2 w2 ([]++[((⟨x.p,x.k,some ⟨b.1,0,none⟩,x.l,b.2⟩:aA),cl)]) (cl+1) _ (hS.next (x:=x) (y:=(⟨x.p,x.k,some ⟨b.1,0,none⟩,x.l,b.2⟩:aA)) hK hsub (fF hyl hor) (fun a h=>by cases h;exact hbn) (fun e he=>(List.mem_append.1 he).elim (fun h=>.inr h) fun h=>.inl (by rw [List.mem_singleton.1 h])) hxD (fun e he=>iF he) fun hI=>hI.snoc hm (by unfold nq yI;rw [(fF (H:=H) (b:=b) (x:=x) hyl hor).cont]) hxf x1 (by simp) hk0) (di _ _))
   rw [Ot (m:=[]) (k:=0) (j:=0) (f:=(x,0))]
   simp only [ak,t1,r1,ra,ws,may0,hr,cV,bt,hcl,yp,aN,dx,bp,az,cR,cH,hh,hT,hSI,x1,List.not_mem_nil,false_implies,implies_true,k0,hn3,ne_eq,not_false_eq_true,and_self,and_true,true_and]
   try (repeat' apply And.intro)
   all_goals first | rfl | assumption | exact aV _ | exact ⟨x,hxD,rfl,rfl⟩ | exact ⟨x,hxD,by assumption,rfl⟩ | exact hT.2.1 | exact dg _ | decide | (simp;done) | exact dO (fun e=>rfl) E _ | exact cK (fun e=>rfl) E _ | exact ba (E:=[]) rfl | exact ba rfl | (rw [List.map_append];rfl) | (rw [cT]) | exact di _ _ | skip
theorem Fa (hX:mi D ys w0) (hM:∀ z,¬ M z) (hD:lE D) {i:Nat} (hi:i<D.length) (hν0:∀ i b,ν i=some b→i=0)
  (ihC:∀ H M1 w1 E cl xs,wu D ys w0 M H M1 w1 E cl xs→xs≠[]→af (je D ys) M1 w1 cs0 7 (tQ D ys w0) ν (SM.at (dU off D.length c (pO xs.length) ((i+1:Nat):Int)) 6 (gZ (ar iC off D) (E.map mI) cl (cI xs))))
  (ihB:∀ H M1 w1 cl,wu D ys w0 M H M1 w1 [] cl []→af (je D ys) M1 w1 cs0 7 (tQ D ys w0) ν (SM.at (dU off D.length c aK ((i+1:Nat):Int)) 6 (fj (ar iC off D) [] cl)))
  {H:Hp} {M1:Own} {w1:World} {E:List cg} {cl:Nat} {xs:List aA} (hS:wu D ys w0 M H M1 w1 E cl xs) (hne:xs≠[]):
  af (je D ys) M1 w1 cs0 7 (tQ D ys w0) ν (SM.at (dU off D.length c (pO xs.length) (i:Int)) 6 (gZ (ar iC off D) (E.map mI) cl (cI xs))):=by
 generalize hx:D[i]=x
 have hxi:D[i]?=some x:=by rw [← hx];exact List.getElem?_eq_getElem hi
 have hxD:x∈D:=by rw [← hx];exact List.getElem_mem hi
 have few:=hD.few
 have t1:decide ((i:Int)<(D.length:Int))=true:=decide_eq_true (by omega)
 have r1:=aO hi
 have ws:=aM (k:=i) (by omega)
 have ra:=fM (off:=off) cV hxi
 have hcl:(ar iC off D).all ab=true:=bw bt
 have x1:=hD.size x hxD
 have hyl:(ys x.a x.l).length=x.l:=(hX.2 x hxD).1
 have hy0:x.a=none→ys x.a x.l=[]:=fun h=>List.length_eq_zero_iff.1 (by rw [hyl,hD.nil x hxD h])
 have hI:=hS.inv
 have hSI:fK xs x:=⟨x1,hI.size⟩
 have hT:=hI.tree
 have hmr:=ve hI x
 have hh:bc (cI xs) xs.length xs:=⟨rfl,rfl,by have:=hI.few;omega⟩
 by_cases hc:¬ (aP xs x).2=0
 ·have may0:(!dS E x==(0:Int))=true:=by rw [hmr];simpa using hc
  have hr:(!dS E x==(aP xs x).2)=false:=by rw [hmr];simp
  refine af.reach (uG hM hS.kept.base hX) (k:=2) (n:=400) (o:=([(2,.cells (iC x)),(3,.b false)]++ff [0,6] true++ff [1,4,5,7,8,9,10,11,12,13,14,15,16,17,18,19] false++[(1000,.b true)])) (ren:=[(0,0),(1,1),(2,2),(3,3)]) (eqs:=[0,2,3]) ?_ (by kernel_rfl) (fun i b h=>by rw [hν0 i b h];rfl) (ihC H M1 w1 E cl xs hS hne)
  rw [OV (q:=[]) (j:=0) (f:=(x,0)) (b:=(0,0))]
  simp only [ak,t1,r1,ra,ws,may0,hr,cV,bt,hcl,yp,aN,dx,bp,az,cR,cH,hh,hT,hSI,x1,hne,hc,ne_eq,not_false_eq_true,and_self,and_true,true_and]
  try (repeat' apply And.intro)
  all_goals first | rfl | assumption | exact aV _ | exact ⟨x,hxD,rfl,rfl⟩ | exact ⟨x,hxD,by assumption,rfl⟩ | exact hT.2.1 | exact dg _ | decide | (simp;done) | exact dO (fun e=>rfl) E _ | exact cK (fun e=>rfl) E _ | exact ba (E:=[]) rfl | exact ba rfl | (rw [List.map_append];rfl) | (rw [cT]) | exact di _ _ | skip
 have hc:=Classical.not_not.1 hc
 obtain ⟨hg,hz⟩:=sU hc
 have hxf:=pG hg
 have may0:(!dS E x==(0:Int))=false:=by rw [hmr,hc];rfl
 rcases hz with ⟨hk0,hr⟩ | ⟨hk0,hr,hfit⟩
 ·have k0:(x.2==(0:Int))=true:=by rw [show x.2=0 from hk0];rfl
  by_cases hit:∃ f∈E,f.1.p=x.p
  ·obtain ⟨f,hf,hp⟩:=hit
   obtain ⟨j,hj,hjE⟩:=ny hI.ok.names hf
   rw [hp] at hj
   have hj1:=hj.1
   have hj2:(E.map mI)[j]?=some (SV.v (Value.string x.1),cU f,f.2):=hj.2
   have hE':=hI.era (x:=x) hjE hp
   have hs':wu D ys w0 M H M1 w1 (E.eraseIdx j) cl (bW x.p xs):=⟨hS.kept,hE',fun e he=>hS.data e (List.mem_of_mem_eraseIdx he),fun e he=>hS.sub e (List.mem_filter.1 he).1⟩
   by_cases hd:bW x.p xs=[]
   ·rw [hd] at hr hs'
    have hE0:=hs'.inv.empty
    rw [hE0] at hs'
    have hE1:(E.map mI).eraseIdx j=[]:=by rw [cT,hE0];rfl
    refine af.reach (uG hM hS.kept.base hX) (k:=2) (n:=400) (o:=([(2,.cells (iC x)),(3,.dy),(8,.hit j (cU f) f.2)]++ff [0,7] true++ff [1,4,5,6,9,10,11,12,13,14,15,16,17,18,19] false++[(1000,.b true)])) (ren:=[(0,0),(1,1),(2,2)]) (eqs:=[0,2]) ?_ (by kernel_rfl) (fun i b h=>by rw [hν0 i b h];rfl) (ihB H M1 w1 cl hs')
    rw [Ns (m':=[]) (q:=[]) (k':=0) (b:=(0,0))]
    simp only [ak,t1,r1,ra,ws,may0,hr,cV,bt,hcl,yp,aN,dx,bp,az,cR,cH,hh,hT,hSI,x1,hne,k0,hj1,hj2,hE1,ne_eq,not_false_eq_true,and_self,and_true,true_and]
    try (repeat' apply And.intro)
    all_goals first | rfl | assumption | exact aV _ | exact ⟨x,hxD,rfl,rfl⟩ | exact ⟨x,hxD,by assumption,rfl⟩ | exact hT.2.1 | exact dg _ | decide | (simp;done) | exact dO (fun e=>rfl) E _ | exact cK (fun e=>rfl) E _ | exact ba (E:=[]) rfl | exact ba rfl | (rw [List.map_append];rfl) | (rw [cT]) | exact di _ _ | skip
   ·have hE1:(E.map mI).eraseIdx j=(E.eraseIdx j).map mI:=cT _ _ _
    refine af.reach (uG hM hS.kept.base hX) (k:=2) (n:=400) (o:=([(2,.cells (iC x)),(3,.b true),(8,.hit j (cU f) f.2)]++ff [0,7] true++ff [1,4,5,6,9,10,11,12,13,14,15,16,17,18,19,20,21] false++[(1000,.b true)])) (ren:=[(0,0),(1,1),(2,2),(3,5)]) (eqs:=[0,2,3]) ?_ (by kernel_rfl) (fun i b h=>by rw [hν0 i b h];rfl) (ihC H M1 w1 (E.eraseIdx j) cl _ hs' hd)
    rw [Mo (q:=[]) (b:=(0,0))]
    simp only [ak,t1,r1,ra,ws,may0,hr,cV,bt,hcl,yp,aN,dx,bp,az,cR,cH,hh,hT,hSI,x1,hne,hd,k0,hj1,hj2,hE1,ne_eq,not_false_eq_true,and_self,and_true,true_and]
    try (repeat' apply And.intro)
    all_goals first | rfl | assumption | exact aV _ | exact ⟨x,hxD,rfl,rfl⟩ | exact ⟨x,hxD,by assumption,rfl⟩ | exact hT.2.1 | exact dg _ | decide | (simp;done) | exact dO (fun e=>rfl) E _ | exact cK (fun e=>rfl) E _ | exact ba (E:=[]) rfl | exact ba rfl | (rw [List.map_append];rfl) | (rw [cT]) | exact di _ _ | skip
  ·have hm:∀ f∈E,f.1.p≠x.p:=fun f hf h=>hit ⟨f,hf,h⟩
   have hms:=jO hm
   have hd:=(mE (hI.dy hm)).2
   rw [hd] at hr
   refine af.reach (uG hM hS.kept.base hX) (k:=2) (n:=400) (o:=([(2,.cells (iC x)),(3,.b true),(8,.dy)]++ff [0,7] true++ff [1,4,5,6,9,10,11,12,13,14,15,16,17,18,19,20,21] false++[(1000,.b true)])) (ren:=[(0,0),(1,1),(2,2),(3,5)]) (eqs:=[0,2,3]) ?_ (by kernel_rfl) (fun i b h=>by rw [hν0 i b h];rfl) (ihC H M1 w1 E cl xs hS hne)
   rw [Ng (q:=[]) (j:=0) (f:=(x,0)) (b:=(0,0))]
   simp only [ak,t1,r1,ra,ws,may0,hr,cV,bt,hcl,yp,aN,dx,bp,az,cR,cH,hh,hT,hSI,x1,hne,k0,ne_eq,not_false_eq_true,and_self,and_true,true_and]
   try (repeat' apply And.intro)
   all_goals first | rfl | assumption | exact aV _ | exact ⟨x,hxD,rfl,rfl⟩ | exact ⟨x,hxD,by assumption,rfl⟩ | exact hT.2.1 | exact dg _ | decide | (simp;done) | exact dO (fun e=>rfl) E _ | exact cK (fun e=>rfl) E _ | exact ba (E:=[]) rfl | exact ba rfl | (rw [List.map_append];rfl) | (rw [cT]) | exact di _ _ | skip
 ·have k0:(x.2==(0:Int))=false:=by simpa using hk0
  by_cases hit:∃ f∈E,f.1.p=x.p
  ·obtain ⟨f,hf,hp⟩:=hit
   obtain ⟨j,hj,hjE⟩:=ny hI.ok.names hf
   rw [hp] at hj
   have hj1:=hj.1
   have hj2:(E.map mI)[j]?=some (SV.v (Value.string x.1),cU f,f.2):=hj.2
   by_cases hn:x.a=none
   ·have hb0:dw H (⟨x.p,x.k,none,0,0⟩:aA) (ys x.a x.l):=.inl ⟨rfl,rfl,hy0 hn⟩
    have hn3:x.3=none:=hn
    refine af.reach (uG hM hS.kept.base hX) (k:=2) (n:=400) (o:=([(2,.cells (iC x)),(3,.b true),(10,.hit j (cU f) f.2)]++ff [0] true++ff [1,4,5,6,7,8,9,11,12,13,14,15,16,17,18,19,20,21,22,23] false++[(1000,.b true)])) (ren:=[(0,0),(1,1),(2,2),(3,5)]) (eqs:=[0,2,3]) ?_ (by kernel_rfl) (fun i b h=>by rw [hν0 i b h];rfl) (ihC H M1 w1 (E.modify j fun e=>((⟨x.p,x.k,none,0,0⟩:aA),e.2)) cl _ (hS.next (x:=x) (y:=(⟨x.p,x.k,none,0,0⟩:aA)) hS.kept (Hp.Sub.refl _) hb0 (fun a h=>by cases h) (fun e he=>(iK hjE he).elim (fun h=>.inl (by rw [h])) .inr) hxD (fun e he=>wX he) fun hI=>hI.mod hjE hp (by unfold nq yI;rw [hb0.cont]) hk0) (di _ _))
    rw [ME (q:=[]) (b:=(0,0))]
    simp only [ak,t1,r1,ra,ws,may0,hr,cV,bt,hcl,yp,aN,dx,bp,az,cR,cH,hh,hT,hSI,x1,hne,hj1,hj2,k0,hn3,and_self,and_true,true_and]
    try (repeat' apply And.intro)
    all_goals first | rfl | assumption | exact aV _ | exact ⟨x,hxD,rfl,rfl⟩ | exact ⟨x,hxD,by assumption,rfl⟩ | exact hT.2.1 | exact dg _ | decide | (simp;done) | exact dO (fun e=>rfl) E _ | exact cK (fun e=>rfl) E _ | exact ba (E:=[]) rfl | exact ba rfl | (rw [List.map_append];rfl) | (rw [cT]) | exact di _ _ | skip
   ·have hn3:¬ x.3=none:=hn
    refine af.iI (uG hM hS.kept.base hX) hM hS.kept (k:=2) (n:=400) (o:=([(2,.cells (iC x)),(3,.b true),(10,.hit j (cU f) f.2)]++ff [0,9] true++ff [1,4,5,6,7,8,11,12,13,14,15,16,17,18,19,20,21,22,23] false++[(1000,.b true)])) (ren:=[(0,0),(1,1),(2,2),(3,5)]) (eqs:=[0,2,3]) (m:=2) (j:=7) (so:=.row (List.map SV.v ((ys x.a x.l).map (Value.int .u8))) 5 (0,0) (some 1)) (fun b=>?_) (by kernel_rfl) (fun i b h=>by rw [hν0 i b h];rfl) (fun ν1 b ob M2 w2 hb1 hor hK hsub hbn=>ihC (H.put b.1 ob) M2 w2 (E.modify j fun e=>((⟨x.p,x.k,some ⟨b.1,0,none⟩,x.l,b.2⟩:aA),e.2)) cl _ (hS.next (x:=x) (y:=(⟨x.p,x.k,some ⟨b.1,0,none⟩,x.l,b.2⟩:aA)) hK hsub (fF hyl hor) (fun a h=>by cases h;exact hbn) (fun e he=>(iK hjE he).elim (fun h=>.inl (by rw [h])) .inr) hxD (fun e he=>wX he) fun hI=>hI.mod hjE hp (by unfold nq yI;rw [(fF (H:=H) (b:=b) (x:=x) hyl hor).cont]) hk0) (di _ _))
    rw [MD]
    simp only [ak,t1,r1,ra,ws,may0,hr,cV,bt,hcl,yp,aN,dx,bp,az,cR,cH,hh,hT,hSI,x1,hne,hj1,hj2,k0,hn3,ne_eq,not_false_eq_true,and_self,and_true,true_and]
    try (repeat' apply And.intro)
    all_goals first | rfl | assumption | exact aV _ | exact ⟨x,hxD,rfl,rfl⟩ | exact ⟨x,hxD,by assumption,rfl⟩ | exact hT.2.1 | exact dg _ | decide | (simp;done) | exact dO (fun e=>rfl) E _ | exact cK (fun e=>rfl) E _ | exact ba (E:=[]) rfl | exact ba rfl | (rw [List.map_append];rfl) | (rw [cT]) | exact di _ _ | skip
  ·have hm:∀ f∈E,f.1.p≠x.p:=fun f hf h=>hit ⟨f,hf,h⟩
   have hms:=jO hm
   have hfn:=mE (hI.dy hm)
   have hlt:xs.length<128:=by
    rcases hfit with h | h
    ·rw [hfn.1] at h;exact absurd rfl h
    ·exact h
   have hd:=hfn.2
   rw [hd] at hr
   by_cases hn:x.a=none
   ·have hb0:dw H (⟨x.p,x.k,none,0,0⟩:aA) (ys x.a x.l):=.inl ⟨rfl,rfl,hy0 hn⟩
    have hn3:x.3=none:=hn
    refine af.reach (uG hM hS.kept.base hX) (k:=2) (n:=400) (o:=([(2,.cells (iC x)),(3,.b true),(10,.dy)]++ff [0] true++ff [1,4,5,6,7,8,9,11,12,13,14,15,16,17,18,19,20,21,22,23] false++[(1000,.b true)])) (ren:=[(0,0),(1,1),(2,2),(3,5)]) (eqs:=[0,2,3]) ?_ (by kernel_rfl) (fun i b h=>by rw [hν0 i b h];rfl) (ihC H M1 w1 (E++[((⟨x.p,x.k,none,0,0⟩:aA),cl)]) (cl+1) _ (hS.next (x:=x) (y:=(⟨x.p,x.k,none,0,0⟩:aA)) hS.kept (Hp.Sub.refl _) hb0 (fun a h=>by cases h) (fun e he=>(List.mem_append.1 he).elim (fun h=>.inr h) fun h=>.inl (by rw [List.mem_singleton.1 h])) hxD (fun e he=>iF he) fun hI=>hI.snoc hm (by unfold nq yI;rw [hb0.cont]) hxf x1 hlt hk0) (di _ _))
    rw [MH (q:=[]) (j:=0) (f:=(x,0)) (b:=(0,0))]
    simp only [ak,t1,r1,ra,ws,may0,hr,cV,bt,hcl,yp,aN,dx,bp,az,cR,cH,hh,hT,hSI,x1,hne,k0,hn3,and_self,and_true,true_and]
    try (repeat' apply And.intro)
    all_goals first | rfl | assumption | exact aV _ | exact ⟨x,hxD,rfl,rfl⟩ | exact ⟨x,hxD,by assumption,rfl⟩ | exact hT.2.1 | exact dg _ | decide | (simp;done) | exact dO (fun e=>rfl) E _ | exact cK (fun e=>rfl) E _ | exact ba (E:=[]) rfl | exact ba rfl | (rw [List.map_append];rfl) | (rw [cT]) | exact di _ _ | skip
   ·have hn3:¬ x.3=none:=hn
    refine af.iI (uG hM hS.kept.base hX) hM hS.kept (k:=2) (n:=400) (o:=([(2,.cells (iC x)),(3,.b true),(10,.dy)]++ff [0,9] true++ff [1,4,5,6,7,8,11,12,13,14,15,16,17,18,19,20,21,22,23] false++[(1000,.b true)])) (ren:=[(0,0),(1,1),(2,2),(3,5)]) (eqs:=[0,2,3]) (m:=2) (j:=7) (so:=.row (List.map SV.v ((ys x.a x.l).map (Value.int .u8))) 5 (0,0) (some 1)) (fun b=>?_) (by kernel_rfl) (fun i b h=>by rw [hν0 i b h];rfl) (fun ν1 b ob M2 w2 hb1 hor hK hsub hbn=>ihC (H.put b.1 ob) M2 w2 (E++[((⟨x.p,x.k,some ⟨b.1,0,none⟩,x.l,b.2⟩:aA),cl)]) (cl+1) _ (hS.next (x:=x) (y:=(⟨x.p,x.k,some ⟨b.1,0,none⟩,x.l,b.2⟩:aA)) hK hsub (fF hyl hor) (fun a h=>by cases h;exact hbn) (fun e he=>(List.mem_append.1 he).elim (fun h=>.inr h) fun h=>.inl (by rw [List.mem_singleton.1 h])) hxD (fun e he=>iF he) fun hI=>hI.snoc hm (by unfold nq yI;rw [(fF (H:=H) (b:=b) (x:=x) hyl hor).cont]) hxf x1 hlt hk0) (di _ _))
    rw [Mr (j:=0) (f:=(x,0))]
    simp only [ak,t1,r1,ra,ws,may0,hr,cV,bt,hcl,yp,aN,dx,bp,az,cR,cH,hh,hT,hSI,x1,hne,k0,hn3,ne_eq,not_false_eq_true,and_self,and_true,true_and]
    try (repeat' apply And.intro)
    all_goals first | rfl | assumption | exact aV _ | exact ⟨x,hxD,rfl,rfl⟩ | exact ⟨x,hxD,by assumption,rfl⟩ | exact hT.2.1 | exact dg _ | decide | (simp;done) | exact dO (fun e=>rfl) E _ | exact cK (fun e=>rfl) E _ | exact ba (E:=[]) rfl | exact ba rfl | (rw [List.map_append];rfl) | (rw [cT]) | exact di _ _ | skip
end
def AE:Option (SO × Bool):=some (.row [.map 1] 63 (0,0) none,true)
theorem QQ (D:List aA) (ys:Option Addr→Nat→List Int) (l:List SV) (off n c:Nat) (i:Int):kU (je D ys) 7 100 (SM.at (dU off n c aK i) 6 (fA l)) (ff [0] false) [(0,1)] [] (.tup [.ptr 0 0,.v (.slice none 0 0),.v (.bool true)]) [vf]=[0=0,Value.slice none 0 0=Value.slice none 0 0,Value.bool true=Value.bool true,Value.map none=Value.map none,decide (i<(↑n:Int))=false]:=by kernel_rfl
theorem QU (D:List aA) (ys:Option Addr→Nat→List Int) (l:List SV) (off n c cl:Nat) (i:Int) (es:List (SV × SV × Nat)):kU (je D ys) 7 100 (SM.at (dU off n c aK i) 6 (fj l es cl)) (ff [0] false) [(0,1),(1,2)] [1] (.tup [.ptr 0 0,.v (.slice none 0 0),.v (.bool true)]) [AE,tM es cl]=[0=0,Value.slice none 0 0=Value.slice none 0 0,Value.bool true=Value.bool true,cl=cl,es=es,(es.all fun e=>a8 e.fst&&a8 e.snd.fst)=true,decide (i<(↑n:Int))=false]:=by kernel_rfl
theorem Qz (D:List aA) (ys:Option Addr→Nat→List Int) (l m:List SV) (off n c cl k:Nat) (i:Int) (es:List (SV × SV × Nat)):kU (je D ys) 7 100 (SM.at (dU off n c (pO k) i) 6 (gZ l es cl m)) (ff [0] false) [(0,1),(1,2),(2,3)] [1,2] (.tup [.ptr 0 0,.sl 2 0 k none,.v (.bool true)]) [AE,tM es cl,jN m]=[0=0,0=0∧k=k∧nZ=none,Value.bool true=Value.bool true,cl=cl,es=es,(es.all fun e=>a8 e.fst&&a8 e.snd.fst)=true,m=m,m.all ab=true,decide (i<(↑n:Int))=false]:=by kernel_rfl
theorem QA (a:Option Addr) (c:Nat):kU (je [] fun _ _=>[]) 7 100 (ch (je [] fun _ _=>[]) 7 [.v (.slice a 0 c)]) [(1000,.b true)] [(0,0)] [] (.tup [.ptr 0 0,.v (.slice none 0 0),.v (.bool true)]) [vf]=[0=0,Value.slice none 0 0=Value.slice none 0 0,Value.bool true=Value.bool true,Value.map none=Value.map none]:=by kernel_rfl
theorem OK (D:List aA) (ys:Option Addr→Nat→List Int) (l:List SV) (off n c:Nat):reach (je D ys) 2 100 (DN D ys l off n c) ([(1000,.b true)]) [(0,0),(1,1)] [0,1] (dU off n c aK 0) 6 (fA l)=[0=0,Value.slice none 0 0=Value.slice none 0 0,off=off∧n=n∧some c=some c,vZ (↑n:Int)=vZ (↑n:Int),vZ 0=vZ 0,l=l,l.all ab=true,List.map SV.v [Value.map none]=[SV.v (Value.map none)],true=true]:=by kernel_rfl
section
variable {w0:World} {cs0:List Frame} {D:List aA} {ys:Option Addr→Nat→List Int} {M:Own} {off c:Nat} {ν:aU}
theorem BV {ν':aU} {ob:Obj} (h:OR ν' 0 (.row [.v (.map none)] 63 (0,0) none) ob):ob=.cells #[.map none] 63 (0,0):=by
 obtain ⟨zs,rest,rfl,hz,hx⟩:=h
 obtain ⟨z1,u,rfl,r1,hu⟩:=hz.cons_inv
 obtain rfl:=hu.aB
 obtain rfl:=VR.ah.1 r1
 have h0:rest=[]:=by
  have:([Value.map none]++rest).length=1:=hx
  simpa using this
 subst h0;rfl
theorem tA {ν':aU} {ob:Obj} {bm:Nat × Nat} (hbm:ν' 1=some bm) (h:OR ν' 0 (.row [.map 1] 63 (0,0) none) ob):ob=.cells #[.map (some bm.1)] 63 (0,0):=by
 obtain ⟨zs,rest,rfl,hz,hx⟩:=h
 obtain ⟨z1,u,rfl,r1,hu⟩:=hz.cons_inv
 obtain rfl:=hu.aB
 obtain ⟨bm',hbm',rfl⟩:=VR.dj.1 r1
 rw [hbm] at hbm';cases hbm'
 have h0:rest=[]:=by
  have:([Value.map (some bm.1)]++rest).length=1:=hx
  simpa using this
 subst h0;rfl
theorem G3 (hX:mi D ys w0) (hM:∀ z,¬ M z) {H:Hp} {M1:Own} {w1:World} (hk:Kept w0.hp M w0 H M1 w1) {S:SM} {n:Nat} {o:List (Nat × gX)} {ren:List (Nat × Nat)}
  (h:uw (kU (je D ys) 7 n S o ren [] (.tup [.ptr 0 0,.v (.slice none 0 0),.v (.bool true)]) [vf])):
  af (je D ys) M1 w1 cs0 7 (tQ D ys w0) ν S:=by
 refine af.kU (uG hM hk.base hX) h.out fun ν' w' y hle hv hE hh=>?_
 obtain ⟨M3,w3,s',hB,hr⟩:=hh
 have hbel:=aI hM (hk.base.trans hB) hr
 obtain ⟨a,rfl,ha⟩:=VR.cC.1 hv
 obtain ⟨y1,a,rfl,q1,ha⟩:=ha.cons_inv
 obtain ⟨y2,a,rfl,q2,ha⟩:=ha.cons_inv
 obtain ⟨y3,a,rfl,q3,ha⟩:=ha.cons_inv
 obtain rfl:=ha.aB
 obtain ⟨b,hb,rfl⟩:=VR.aC.1 q1
 obtain rfl:=VR.ah.1 q2
 obtain rfl:=VR.ah.1 q3
 obtain ⟨b',ob,hb',ho,hor,hw⟩:=hE.obj 0 _ _ rfl
 rw [hb] at hb';cases hb'
 refine ⟨hbel,b.1,_,rfl,jV (M3:=M3) (w3:=w3) hM hk (hw rfl),[],0,[],dQ.nil,fun e he=>(nomatch he),fun e he=>(nomatch he),.inl ⟨rfl,?_⟩,.inl ⟨rfl,rfl⟩⟩
 unfold gT
 rw [ho,BV hor]
theorem Kc (hX:mi D ys w0) (hM:∀ z,¬ M z) {H:Hp} {M1:Own} {w1:World} {cl:Nat} (hS:wu D ys w0 M H M1 w1 [] cl []) {i:Int} (hi:¬ i<(D.length:Int)):
  af (je D ys) M1 w1 cs0 7 (tQ D ys w0) ν (SM.at (dU off D.length c aK i) 6 (fj (ar iC off D) [] cl)):=by
 refine af.kU (uG hM hS.kept.base hX) (n:=100) (o:=ff [0] false) (ren:=[(0,1),(1,2)]) (eqs:=[1]) (x:=.tup [.ptr 0 0,.v (.slice none 0 0),.v (.bool true)]) (l:=[AE,tM [] cl]) ?_ fun ν' w' y hle hv hE hh=>?_
 ·rw [QU]
  simp only [ak,decide_eq_false hi,List.all_nil,and_self,and_true,true_and]
 obtain ⟨M3,w3,s',hB,hr⟩:=hh
 have hbel:=aI hM (hS.kept.base.trans hB) hr
 obtain ⟨a,rfl,ha⟩:=VR.cC.1 hv
 obtain ⟨y1,a,rfl,q1,ha⟩:=ha.cons_inv
 obtain ⟨y2,a,rfl,q2,ha⟩:=ha.cons_inv
 obtain ⟨y3,a,rfl,q3,ha⟩:=ha.cons_inv
 obtain rfl:=ha.aB
 obtain ⟨b,hb,rfl⟩:=VR.aC.1 q1
 obtain rfl:=VR.ah.1 q2
 obtain rfl:=VR.ah.1 q3
 obtain ⟨b',ob,hb',ho,hor,hw⟩:=hE.obj 0 _ _ rfl
 rw [hb] at hb';cases hb'
 obtain ⟨bm,om,hbm,hom,horm,hwm⟩:=hE.obj 1 _ _ rfl
 refine ⟨hbel,b.1,_,rfl,jV (M3:=M3) (w3:=w3) hM hS.kept (hw rfl),[],cl,[],dQ.nil,fun e he=>(nomatch he),fun e he=>(nomatch he),.inr ⟨bm.1,jV (M3:=M3) (w3:=w3) hM hS.kept (hwm rfl),⟨?_,?_⟩⟩,.inl ⟨rfl,rfl⟩⟩
 ·rw [ho,tA hbm hor]
 ·obtain ⟨l,rfl,hl⟩:=horm
  rw [hom,qM (E:=[]) hl]
theorem JM (hX:mi D ys w0) (hM:∀ z,¬ M z) {H:Hp} {M1:Own} {w1:World} {E:List cg} {cl:Nat} {xs:List aA} (hS:wu D ys w0 M H M1 w1 E cl xs) (hne:xs≠[]) {i:Int} (hi:¬ i<(D.length:Int)):
  af (je D ys) M1 w1 cs0 7 (tQ D ys w0) ν (SM.at (dU off D.length c (pO xs.length) i) 6 (gZ (ar iC off D) (E.map mI) cl (cI xs))):=by
 refine af.kU (uG hM hS.kept.base hX) (n:=100) (o:=ff [0] false) (ren:=[(0,1),(1,2),(2,3)]) (eqs:=[1,2]) (x:=.tup [.ptr 0 0,.sl 2 0 xs.length none,.v (.bool true)]) (l:=[AE,tM (E.map mI) cl,jN (cI xs)]) ?_ fun ν' w' y hle hv hE hh=>?_
 ·rw [Qz]
  simp only [ak,cH,az,decide_eq_false hi,and_self,and_true,true_and]
 obtain ⟨M3,w3,s',hB,hr⟩:=hh
 have hbel:=aI hM (hS.kept.base.trans hB) hr
 have hnow:=hS.kept.now hB hr
 obtain ⟨a,rfl,ha⟩:=VR.cC.1 hv
 obtain ⟨y1,a,rfl,q1,ha⟩:=ha.cons_inv
 obtain ⟨y2,a,rfl,q2,ha⟩:=ha.cons_inv
 obtain ⟨y3,a,rfl,q3,ha⟩:=ha.cons_inv
 obtain rfl:=ha.aB
 obtain ⟨b,hb,rfl⟩:=VR.aC.1 q1
 obtain rfl:=VR.ah.1 q3
 obtain ⟨b',ob,hb',ho,hor,hw⟩:=hE.obj 0 _ _ rfl
 rw [hb] at hb';cases hb'
 obtain ⟨bm,om,hbm,hom,horm,hwm⟩:=hE.obj 1 _ _ rfl
 obtain ⟨br,orr,hbr,hor2,horr,hwr⟩:=hE.obj 2 _ _ rfl
 have hcont:∀ e∈E,kC H e.1=kC w'.hp e.1:=fun e he=>by
  obtain ⟨zs,hz,_⟩:=hS.data e he
  rw [hz.cont,(hz.mono hnow).cont]
 refine ⟨hbel,b.1,y2,rfl,jV (M3:=M3) (w3:=w3) hM hS.kept (hw rfl),E,cl,xs,hS.inv.cont hcont,fun e he=>?_,hS.sub,.inr ⟨bm.1,jV (M3:=M3) (w3:=w3) hM hS.kept (hwm rfl),⟨?_,?_⟩⟩,.inr ⟨hne,?_⟩⟩
 ·obtain ⟨zs,hz,hn⟩:=hS.data e he
  exact ⟨zs,hz.mono hnow,hn⟩
 ·rw [ho,tA hbm hor]
 ·obtain ⟨l,rfl,hl⟩:=horm
  rw [hom,qM hl]
 ·exact cy.e8 q2 hbr hor2 horr (jV (M3:=M3) (w3:=w3) hM hS.kept (hwr rfl)) fun zs hz=>vX hz
theorem DD (hX:mi D ys w0) (hM:∀ z,¬ M z) (hD:lE D) (hν0:∀ i b,ν i=some b→i=0):∀ (j i:Nat),i+j=D.length→
  (∀ H M1 w1 E cl xs,wu D ys w0 M H M1 w1 E cl xs→xs≠[]→af (je D ys) M1 w1 cs0 7 (tQ D ys w0) ν (SM.at (dU off D.length c (pO xs.length) (i:Int)) 6 (gZ (ar iC off D) (E.map mI) cl (cI xs))))∧
  (∀ H M1 w1 cl,wu D ys w0 M H M1 w1 [] cl []→af (je D ys) M1 w1 cs0 7 (tQ D ys w0) ν (SM.at (dU off D.length c aK (i:Int)) 6 (fj (ar iC off D) [] cl)))∧
  (∀ H M1 w1,Kept w0.hp M w0 H M1 w1→af (je D ys) M1 w1 cs0 7 (tQ D ys w0) ν (SM.at (dU off D.length c aK (i:Int)) 6 (fA (ar iC off D))))
 | 0,i,hj=>by
  refine ⟨fun H M1 w1 E cl xs hS hne=>JM hX hM hS hne (by omega),fun H M1 w1 cl hS=>Kc hX hM hS (by omega),fun H M1 w1 hk=>?_⟩
  refine G3 hX hM hk (n:=100) (o:=ff [0] false) (ren:=[(0,1)]) ⟨?_⟩
  rw [QQ]
  simp only [ak,decide_eq_false (show ¬ (i:Int)<(D.length:Int) by omega),and_self,and_true,true_and]
 | j+1,i,hj=>by
  obtain ⟨hC,hB,hA⟩:=DD hX hM hD hν0 j (i+1) (by omega)
  exact ⟨fun H M1 w1 E cl xs hS hne=>Fa hX hM hD (by omega) hν0 hC hB hS hne,fun H M1 w1 cl hS=>F3 hX hM hD (by omega) hν0 hC hB hS,fun H M1 w1 hk=>Gg hX hM hD (by omega) hν0 hC hA hk⟩
end
theorem vb {W:World} {D:List aA} {ys:Option Addr→Nat→List Int} {b off c:Nat} {cs:Array Value} {e:TypeId} {fz:Nat × Nat} (hX:mi D ys W) (hD:lE D) (hlc:D.length≤c) (hh:W.heap[b]?=some (.cells cs e fz)) (hoff:off≤cs.size) (hc:∀ (k:Nat) (v:Value),(D.flatMap iV)[k]?=some v→cs[off+k]?=some v):
  Calls Try.prog 7 #[.slice (some ⟨b,off,none⟩) D.length c] W (tQ D ys W):=by
 refine aY (E:=je D ys) rfl (d:=6) (l:=[(b,0)]) (os:=[.look (ar iC off D)]) rfl (by simp) (by simp) ?_ rfl (args:=[.sl 0 off D.length (some c)]) (a:=[.slice (some ⟨b,off,none⟩) D.length c]) (S0:=DN D ys (ar iC off D) off D.length c) (by kernel_rfl) (ay.cons (VR.aQ.2 ⟨(b,0),rfl,hlc,rfl⟩) ay.nil) fun cs0=>?_
 ·intro j o' b' c' h1 h2
  match j with
  | 0=>
   simp only [List.getElem?_cons_zero,Option.some.injEq] at h1 h2
   subst h1
   cases h2
   exact ⟨_,hh,eK (h:=iV) (fun ν x=>ay.lits ν (iV x)) hoff hc⟩
  | j+1=>simp at h1
 ·have hM:∀ z,¬ (aT [(b,0)] ([SO.look (ar iC off D)].map fun o=>(o,false))) z:=fun z=>a6
  have hν:∀ i c,aE [(b,0)] i=some c→i=0:=fun i c h=>fQ h
  have hK:=Kept.start (H0:=W.hp) (M:=aT [(b,0)] ([SO.look (ar iC off D)].map fun o=>(o,false))) (w:=W) (Hp.Sub.refl _) (fun z o _=>hM z) (dh (by
   intro j o' m b' c' h1 h2
   match j with
   | 0=>
    simp only [List.map_cons,List.getElem?_cons_zero,Option.some.injEq] at h1 h2
    cases h1
    cases h2
    exact ⟨_,hh,eK (h:=iV) (fun ν x=>ay.lits ν (iV x)) hoff hc⟩
   | j+1=>simp at h1)) (fun _ h=>h)
  have hcl:(ar iC off D).all ab=true:=bw bt
  refine af.reach (uG hM hK.base hX) (k:=2) (n:=100) (o:=[(1000,.b true)]) (ren:=[(0,0),(1,1)]) (eqs:=[0,1]) (F:=dU off D.length c aK 0) (d:=6) (l:=fA (ar iC off D)) ?_ (by kernel_rfl) (fun i b h=>by rw [hν i b h];rfl) ((DD hX hM hD hν D.length 0 (by omega)).2.2 W.hp _ W hK)
  rw [OK]
  simp only [ak,hcl,and_self,and_true,true_and]
  try (repeat' apply And.intro)
  all_goals first | rfl | assumption | decide | (simp;done) | skip
theorem xa {W:World} (hm:MX W) (ys:Option Addr→Nat→List Int) (a:Option Addr) (c:Nat):Calls Try.prog 7 #[.slice a 0 c] W (tQ [] ys W):=by
 have hX:mi [] (fun _ _=>[]) W:=⟨hm,fun x hx=>(nomatch hx)⟩
 have:Calls Try.prog 7 #[.slice a 0 c] W (tQ [] (fun _ _=>[]) W):=by
  refine cp (E:=je [] fun _ _=>[]) rfl rfl (args:=[.v (.slice a 0 c)]) (a:=[.slice a 0 c]) (S0:=ch (je [] fun _ _=>[]) 7 [.v (.slice a 0 c)]) (by kernel_rfl) (ay.cons (VR.ah.2 rfl) ay.nil) fun cs0=>?_
  have hK:=Kept.start (H0:=W.hp) (M:=aT [] []) (w:=W) (Hp.Sub.refl _) (fun z o _=>bo z) (fun z h=>by obtain ⟨i,o,c,h,_⟩:=h;simp at h) (fun _ h=>h)
  refine G3 hX bo hK (n:=100) (o:=[(1000,.b true)]) (ren:=[(0,0)]) ⟨?_⟩
  rw [QA]
  simp only [ak,and_self,and_true,true_and]
 refine this.mono fun e w' ⟨h1,b,v,h2,h3,E,cl,xs,h4,h5,h6,h7⟩=>?_
 have hx:xs=[]:=by
  cases xs with
  | nil=>rfl
  | cons z zs=>exact absurd (h6 z List.mem_cons_self) (by simp)
 subst hx
 have hE:=h4.empty
 subst hE
 exact ⟨h1,b,v,h2,h3,[],cl,[],dQ.nil,fun e he=>(nomatch he),fun e he=>(nomatch he),h7⟩
def GQ:Option (SO × Bool):=some (.row [.map 1] 63 (0,0) none,false)
def C5:Option (SO × Bool):=some (.row [.v (.map none)] 63 (0,0) none,false)
def mapTR (es:List (SV × SV × Nat)) (cl:Nat):Option (SO × Bool):=some (.map es cl,false)
noncomputable def AF (es:List (SV × SV × Nat)) (cl:Nat) (p:ByteArray):SM:=(bC aL 37 [.ptr 0 0,.v (.string p)] (bO 6 2 0 [GQ,mapTR es cl])).getD dC
noncomputable def G9 (p:ByteArray):SM:=(bC aL 37 [.ptr 0 0,.v (.string p)] (bO 6 1 0 [C5])).getD dC
theorem OG (es:List (SV × SV × Nat)) (cl:Nat) (p:ByteArray) (j:Nat) (f:cg) (v:Value):ax aL 37 60 (AF es cl p) ([(1000,.b true)]++(List.range 10).map fun k=>(k,.hit j (.agg [.v (.int .i64 f.1.k),.v (.slice f.1.a f.1.l f.1.c)]) f.2)) v=[Value.agg { toList:=[vZ f.fst.2,Value.slice f.fst.3 f.fst.4 f.fst.5]:Array Value }=v,(∀ (e:SV × SV × Nat),e∈List.take j es→cn p e.fst)∧es[j]?=some (SV.v (Value.string p),SV.agg [SV.v (vZ f.fst.2),SV.v (Value.slice f.fst.3 f.fst.4 f.fst.5)],f.2)]:=by kernel_rfl
theorem RJ (es:List (SV × SV × Nat)) (cl:Nat) (p:ByteArray) (v:Value):ax aL 37 60 (AF es cl p) ([(1000,.b true)]++(List.range 10).map fun k=>(k,.dy)) v=[Value.agg { toList:=[vZ 0,Value.slice none 0 0]:Array Value }=v,∀ (e:SV × SV × Nat),e∈es→cn p e.fst]:=by kernel_rfl
theorem P0 (p:ByteArray) (v:Value):ax aL 37 60 (G9 p) ([(1000,.b true)]) v=[Value.agg { toList:=[vZ 0,Value.slice none 0 0]:Array Value }=v]:=by kernel_rfl
def iX (w:World) (b:Nat) (E:List cg):Prop:=(∃ m cl,b≠m∧ky w b m E cl∧dG E cl)∨(E=[]∧gT w b)
theorem iX.keep {w0 w:World} {b:Nat} {E:List cg} (h:iX w0 b E) (hs:w0.hp.Sub w.hp):iX w b E:=by
 rcases h with ⟨m,cl,h1,⟨h2,h3⟩,h4⟩ | ⟨h1,h2⟩
 ·exact .inl ⟨m,cl,h1,⟨hs _ _ h2,hs _ _ h3⟩,h4⟩
 ·exact .inr ⟨h1,hs _ _ h2⟩
def Bh (c:aA→List Int) (E:List cg) (p:ByteArray):Int × List Int:=match yu E p with | some e=>(e.1.k,c e.1) | none=>(0,[])
def JO (H:Hp) (w:World) (z:Int × List Int) (e:Ending) (w':World):Prop:=Below w.heap.size w w'∧∃ k a l c zs,e=.returned (.agg #[.int .i64 k,.slice a l c])∧vc H a l zs∧(k,zs)=z
theorem lJ {w:World}:qm w none 0 []:=⟨⟨rfl,Nat.zero_le _,fun b hb=>by cases hb⟩,fun _=>rfl⟩
theorem C3 {b m:Nat × Nat} {o o':SO} (z:Nat):¬ (aT [b,m] ([o,o'].map fun o=>(o,false))) z:=a6 (os:=[_,_])
theorem IV {b:Nat × Nat} {o:SO} (z:Nat):¬ (aT [b] ([o].map fun o=>(o,false))) z:=a6 (os:=[_])
theorem tX {Q:Env} (hP:Q.P=Try.prog) (hG:Q.G=[]) {f:FuncId} {w:World} {b m cl:Nat} {E:List cg} (hA:ky w b m E cl) (hne:b≠m) {p:ByteArray} {R:Ending→World→Prop} {S0:SM} (hS0:bC Q f [.ptr 0 0,.v (.string p)] (bO 6 2 0 [GQ,mapTR (E.map mI) cl])=some S0)
  (h:∀ cs0,af Q (aT [(b,0),(m,0)] ([SO.row [.map 1] 63 (0,0) none,SO.map (E.map mI) cl].map fun o=>(o,false))) w cs0 f R (aE [(b,0),(m,0)]) S0):
  Calls Try.prog f #[bX b,.string p] w R:=by
 refine aY (E:=Q) hP (d:=6) (l:=[(b,0),(m,0)]) (os:=[.row [.map 1] 63 (0,0) none,.map (E.map mI) cl]) rfl (by simp) (by simpa using hne) ?_ hG (args:=[.ptr 0 0,.v (.string p)]) (a:=[bX b,.string p]) (S0:=S0) hS0 (ay.cons (VR.aC.2 ⟨(b,0),rfl,rfl⟩) (ay.cons (VR.ah.2 rfl) ay.nil)) h
 intro j o' b' c' h1 h2
 match j with
 | 0=>
  simp only [List.getElem?_cons_zero,Option.some.injEq] at h1 h2
  subst h1
  cases h2
  exact ⟨_,hA.row,_,[],rfl,ay.cons (VR.dj.2 ⟨(m,0),rfl,rfl⟩) ay.nil,rfl⟩
 | 1=>
  simp only [List.getElem?_cons_succ,List.getElem?_cons_zero,Option.some.injEq] at h1 h2
  subst h1
  cases h2
  exact ⟨_,hA.map,_,rfl,nr E⟩
 | j+2=>simp at h1
theorem zE {Q:Env} (hP:Q.P=Try.prog) (hG:Q.G=[]) {f:FuncId} {w:World} {b:Nat} (hA:gT w b) {p:ByteArray} {R:Ending→World→Prop} {S0:SM} (hS0:bC Q f [.ptr 0 0,.v (.string p)] (bO 6 1 0 [C5])=some S0)
  (h:∀ cs0,af Q (aT [(b,0)] ([SO.row [.v (.map none)] 63 (0,0) none].map fun o=>(o,false))) w cs0 f R (aE [(b,0)]) S0):
  Calls Try.prog f #[bX b,.string p] w R:=by
 refine aY (E:=Q) hP (d:=6) (l:=[(b,0)]) (os:=[.row [.v (.map none)] 63 (0,0) none]) rfl (by simp) (by simp) ?_ hG (args:=[.ptr 0 0,.v (.string p)]) (a:=[bX b,.string p]) (S0:=S0) hS0 (ay.cons (VR.aC.2 ⟨(b,0),rfl,rfl⟩) (ay.cons (VR.ah.2 rfl) ay.nil)) h
 intro j o' b' c' h1 h2
 match j with
 | 0=>
  simp only [List.getElem?_cons_zero,Option.some.injEq] at h1 h2
  subst h1
  cases h2
  exact ⟨_,hA,_,[],rfl,ay.cons (VR.ah.2 rfl) ay.nil,rfl⟩
 | j+1=>simp at h1
theorem yX {w:World} {b:Nat} {E:List cg} {cm:aA→List Int} (h:iX w b E) {H:Hp} (hd:∀ e∈E,vc H e.1.a e.1.l (cm e.1)) (p:ByteArray):
  Calls Try.prog 37 #[bX b,.string p] w (JO H w (Bh cm E p)):=by
 unfold Bh
 rcases h with ⟨m,cl,hne,hA,hB⟩ | ⟨rfl,hZ⟩
 ·cases hf:yu E p with
  | none=>
   have hm:∀ e∈E,e.1.p≠p:=fun e he h=>List.find?_eq_none.1 hf e he (fw.2 h)
   refine tX (Q:=aL) rfl rfl hA hne (S0:=AF (E.map mI) cl p) (by kernel_rfl) fun cs0=>?_
   refine af.ax de (n:=60) (o:=([(1000,.b true)]++(List.range 10).map fun k=>(k,.dy))) (v:=.agg #[.int .i64 0,.slice none 0 0]) ?_ fun ν' M1 w1 s' w' _ hB hr=>⟨aI C3 hB hr,0,none,0,0,[],rfl,fun _ _=>lJ,rfl⟩
   rw [RJ]
   simp only [ak,and_self,and_true,true_and]
   first | exact jO hm | exact ⟨rfl,jO hm⟩ | exact ⟨jO hm,rfl⟩
  | some g=>
   have hg:=List.mem_of_find?_eq_some hf
   have hfp:g.1.p=p:=fw.1 (List.find?_some (p:=fun e:cg=>oR p e.1) hf)
   obtain ⟨j,hj,hx⟩:=ny hB.names hg
   rw [hfp] at hj
   refine tX (Q:=aL) rfl rfl hA hne (S0:=AF (E.map mI) cl p) (by kernel_rfl) fun cs0=>?_
   refine af.ax de (n:=60) (o:=([(1000,.b true)]++(List.range 10).map fun k=>(k,.hit j (.agg [.v (.int .i64 g.1.k),.v (.slice g.1.a g.1.l g.1.c)]) g.2))) (v:=.agg #[.int .i64 g.1.k,.slice g.1.a g.1.l g.1.c]) ?_ fun ν' M1 w1 s' w' _ hB hr=>⟨aI C3 hB hr,_,_,_,_,cm g.1,rfl,hd g hg,rfl⟩
   rw [OG]
   simp only [ak,and_self,and_true,true_and]
   first | exact hj | exact ⟨hj,rfl⟩ | exact ⟨rfl,hj⟩
 ·refine zE (Q:=aL) rfl rfl hZ (S0:=G9 p) (by kernel_rfl) fun cs0=>?_
  refine af.ax de (n:=60) (o:=[(1000,.b true)]) (v:=.agg #[.int .i64 0,.slice none 0 0]) ?_ fun ν' M1 w1 s' w' _ hB hr=>⟨aI IV hB hr,0,none,0,0,[],rfl,fun _ _=>lJ,rfl⟩
  rw [P0]
  simp only [ak,and_self,and_true,true_and]
def gW (j:Nat):SO:=.row [.ptr j 0] 27 (0,0) none
noncomputable def wI (p:ByteArray):SM:=(bC aL 36 [.v (.string p),.ptr 0 0,.ptr 1 0] (bO 6 4 0 [some (gW 2,false),some (gW 3,false),cD [],cD []])).getD dC
def bV (k:Int) (a:Option Addr) (l c:Nat):SV:=.v (.agg #[.int .i64 k,.slice a l c])
noncomputable def Dz (p:ByteArray) (x:SV):SM:=bq aL 37 100 (wI p) (ff [1000] true) x
noncomputable def D4 (p:ByteArray) (x y:SV):SM:=bq aL 37 100 (Dz p x) (ff [1000] true) y
noncomputable def Ld (p:ByteArray) (x y:SV) (t:Bool):SM:=bq aL 22 100 (D4 p x y) (ff [1000] true) (.v (.bool t))
theorem Qq (p:ByteArray):bI aL 37 100 (wI p) (ff [1000] true)=[]:=by kernel_rfl
theorem QS (p:ByteArray) (k:Int) (a:Option Addr) (l c:Nat):bE aL 37 100 (wI p) (ff [1000] true) (bV k a l c)=[0=0]:=by kernel_rfl
theorem Ql (p:ByteArray) (k:Int) (a:Option Addr) (l c:Nat):bI aL 37 100 (Dz p (bV k a l c)) (ff [1000] true)=[]:=by kernel_rfl
theorem OJ (p:ByteArray) (k k':Int) (a a':Option Addr) (l c l' c':Nat):bE aL 37 100 (Dz p (bV k a l c)) (ff [1000] true) (bV k' a' l' c')=[]:=by kernel_rfl
theorem P4 (p:ByteArray) (k k':Int) (a a':Option Addr) (l c l' c':Nat):bI aL 22 100 (D4 p (bV k a l c) (bV k' a' l' c')) (ff [1000] true)=[]:=by kernel_rfl
theorem PW (p:ByteArray) (k k':Int) (a a':Option Addr) (l c l' c':Nat) (t:Bool):bE aL 22 100 (D4 p (bV k a l c) (bV k' a' l' c')) (ff [1000] true) (.v (.bool t))=[]:=by kernel_rfl
theorem P3 (p:ByteArray) (k k':Int) (a a':Option Addr) (l c l' c':Nat) (t:Bool) (v:Value):ax aL 36 100 (Ld p (bV k a l c) (bV k' a' l' c') t) (ff [1000] true) v=[(Value.bool !t)=v]:=by kernel_rfl
def hJ (z1 z2:Int × List Int):Bool:=!((z1.1==z2.1)&&(Lib.bytesOf z1.2==Lib.bytesOf z2.2))
def sf (H0:Hp) (b:Nat) (z:ByteArray→Int × List Int):Prop:=
 ∀ w,H0.Sub w.hp→∀ p,Calls Try.prog 37 #[bX b,.string p] w (JO H0 w (z p))
theorem xc {W:World} {b1 b2 x1 x2:Nat} {z1 z2:ByteArray→Int × List Int} {cs1 cs2:Array Value} {e1 e2:TypeId} {f1 f2:Nat × Nat} (hn:[x1,x2,b1,b2].Nodup)
  (hx1:W.heap[x1]?=some (.cells #[bX b1] 27 (0,0))) (hx2:W.heap[x2]?=some (.cells #[bX b2] 27 (0,0))) (hb1:W.heap[b1]?=some (.cells cs1 e1 f1)) (hb2:W.heap[b2]?=some (.cells cs2 e2 f2))
  (h1:sf W.hp b1 z1) (h2:sf W.hp b2 z2) (p:ByteArray):
  Calls Try.prog 36 #[.string p,bX x1,bX x2] W fun e w'=>Below W.heap.size W w'∧e=.returned (.bool (hJ (z1 p) (z2 p))):=by
 have ho:∀ (j:Nat) (o':SO) (b' c':Nat),[gW 2,gW 3,SO.look [],SO.look []][j]?=some o'→[(x1,0),(x2,0),(b1,0),(b2,0)][j]?=some (b',c')→∃ r,W.heap[b']?=some r∧OR (aE [(x1,0),(x2,0),(b1,0),(b2,0)]) j o' r:=by
  intro j o' b' c' q1 q2
  match j with
  | 0=>
   simp only [List.getElem?_cons_zero,Option.some.injEq] at q1 q2
   subst q1
   cases q2
   exact ⟨_,hx1,_,[],rfl,ay.cons (VR.aC.2 ⟨(b1,0),rfl,rfl⟩) ay.nil,rfl⟩
  | 1=>
   simp only [List.getElem?_cons_succ,List.getElem?_cons_zero,Option.some.injEq] at q1 q2
   subst q1
   cases q2
   exact ⟨_,hx2,_,[],rfl,ay.cons (VR.aC.2 ⟨(b2,0),rfl,rfl⟩) ay.nil,rfl⟩
  | 2=>
   simp only [List.getElem?_cons_succ,List.getElem?_cons_zero,Option.some.injEq] at q1 q2
   subst q1
   cases q2
   exact ⟨_,hb1,[],_,_,_,rfl,ay.nil,fun k y h=>by simp at h⟩
  | 3=>
   simp only [List.getElem?_cons_succ,List.getElem?_cons_zero,Option.some.injEq] at q1 q2
   subst q1
   cases q2
   exact ⟨_,hb2,[],_,_,_,rfl,ay.nil,fun k y h=>by simp at h⟩
  | j+4=>simp at q1
 refine aY (E:=aL) rfl (d:=6) (l:=[(x1,0),(x2,0),(b1,0),(b2,0)]) (os:=[gW 2,gW 3,.look [],.look []]) rfl (by simp) (by simpa using hn) ho rfl (args:=[.v (.string p),.ptr 0 0,.ptr 1 0]) (a:=[.string p,bX x1,bX x2]) (S0:=wI p) (by kernel_rfl) (ay.cons (VR.ah.2 rfl) (ay.cons (VR.aC.2 ⟨(x1,0),rfl,rfl⟩) (ay.cons (VR.aC.2 ⟨(x2,0),rfl,rfl⟩) ay.nil))) fun cs0=>?_
 have hM:∀ z,¬ (aT [(x1,0),(x2,0),(b1,0),(b2,0)] ([gW 2,gW 3,SO.look [],SO.look []].map fun o=>(o,false))) z:=fun z=>a6 (os:=[gW 2,gW 3,SO.look [],SO.look []])
 have hK0:=Kept.start (H0:=W.hp) (M:=aT [(x1,0),(x2,0),(b1,0),(b2,0)] ([gW 2,gW 3,SO.look [],SO.look []].map fun o=>(o,false))) (w:=W) (Hp.Sub.refl _) (fun z o _=>hM z) (dh (by
  intro j o' m b' c' q1 q2
  rw [List.getElem?_map] at q1
  obtain ⟨o2,q3,q4⟩:=Option.map_eq_some_iff.1 q1
  cases q4
  exact ho j o' b' c' q3 q2)) (fun _ h=>h)
 refine af.eH de hK0 (n:=100) (g:=37) (o:=ff [1000] true) (args:=[.ptr 2 0,.v (.string p)]) (by rw [Qq];trivial) (by kernel_rfl) fun ν' w a hle hsub hgr ha=>?_
 obtain ⟨y1,as1,rfl,q1,ha2⟩:=ha.cons_inv
 obtain ⟨y2,as2,rfl,q2,ha3⟩:=ha2.cons_inv
 obtain rfl:=ha3.aB
 obtain rfl:=VR.ah.1 q2
 obtain ⟨bb,hbb,rfl⟩:=VR.aC.1 q1
 have hbb:=hbb.symm.trans (hle 2 (b1,0) rfl)
 cases hbb
 refine (h1 w hsub p).mono fun e w' ⟨hB,k,a,l,c,zs,he,hd,hz⟩=>⟨hB,.agg #[.int .i64 k,.slice a l c],he,fun M2 hK2=>⟨by show ak (bE aL 37 100 (wI p) (ff [1000] true) (bV k a l c));rw [QS];simp [ak],?_⟩⟩
 show af aL M2 w' cs0 _ _ _ (Dz p (bV k a l c))
 refine af.eH de hK2 (n:=100) (g:=37) (o:=ff [1000] true) (args:=[.ptr 3 0,.v (.string p)]) (by rw [Ql];trivial) (by kernel_rfl) fun ν2 w2 a2 hle2 hsub2 hgr2 ha2=>?_
 obtain ⟨y1,as1,rfl,q1,ha2⟩:=ha2.cons_inv
 obtain ⟨y2,as2,rfl,q2,ha3⟩:=ha2.cons_inv
 obtain rfl:=ha3.aB
 obtain rfl:=VR.ah.1 q2
 obtain ⟨bb,hbb,rfl⟩:=VR.aC.1 q1
 have hbb:=hbb.symm.trans (hle2 3 (b2,0) rfl)
 cases hbb
 have hs2:W.hp.Sub w2.hp:=(Hp.dX hsub).trans hsub2
 refine (h2 w2 hs2 p).mono fun e w3 ⟨hB3,k',a',l',c',us,he3,hd3,hz3⟩=>⟨hB3,.agg #[.int .i64 k',.slice a' l' c'],he3,fun M3 hK3=>⟨by show ak (bE aL 37 100 (Dz p (bV k a l c)) (ff [1000] true) (bV k' a' l' c'));rw [OJ];trivial,?_⟩⟩
 show af aL M3 w3 cs0 _ _ _ (D4 p (bV k a l c) (bV k' a' l' c'))
 refine af.eH de hK3 (n:=100) (g:=22) (o:=ff [1000] true) (args:=[bV k a l c,bV k' a' l' c']) (by rw [P4];trivial) (by kernel_rfl) fun ν4 w4 a4 hle4 hsub4 hgr4 ha4=>?_
 obtain ⟨y1,as1,rfl,q1,ha2⟩:=ha4.cons_inv
 obtain ⟨y2,as2,rfl,q2,ha3⟩:=ha2.cons_inv
 obtain rfl:=ha3.aB
 obtain rfl:=VR.ah.1 q1
 obtain rfl:=VR.ah.1 q2
 have hs4:W.hp.Sub w4.hp:=((Hp.dX hsub).trans (Hp.dX hsub2)).trans hsub4
 have g1:qm w4 a l zs:=hd w4 hs4
 have g2:qm w4 a' l' us:=hd3 w4 hs4
 refine (tH (k:=k) (k':=k') g1 g2).mono fun e w5 ⟨he5,hB5⟩=>⟨hB5,_,he5,fun M5 hK5=>⟨by show ak (bE aL 22 100 (D4 p (bV k a l c) (bV k' a' l' c')) (ff [1000] true) (.v (.bool _)));rw [PW];trivial,?_⟩⟩
 show af aL M5 w5 cs0 _ _ _ (Ld p (bV k a l c) (bV k' a' l' c') _)
 refine af.ax de (n:=100) (o:=ff [1000] true) (v:=.bool (hJ (z1 p) (z2 p))) (by rw [P3,← hz,← hz3];simp [ak,hJ]) fun ν' M1 w1 s' w' _ hB' hr=>⟨aI hM (hK5.base.trans hB') hr,rfl⟩
end paths
end Go.Proofs.Ytbjmmnegkpeboaa
set_option linter.unusedVariables false
namespace Go.Rx
open Go.RowKit (Below)
section
variable {E:Env} {ν:aU} {M:Own} {w0 w:World} {s s':SH} {cs0:List Frame} {f:FuncId} {R:Ending→World→Prop}
theorem af.Fx {G F:SF} {g:FuncId} {args:List SV} (hG:dm E g args .normal=some G) (hlag:re E F=true) {H0 H:Hp} {M00:Own} {w00:World} (hk:Kept H0 M00 w00 H M w0)
  (hc:∀ ν' w a,ν.Le ν'→H.Sub w.hp→GR ν' E→ay ν' args a→(∀ i so m,s.look i=some (so,m)→∃ b o,ν' i=some b∧w.heap[b.1]?=some o∧OR ν' i so o)→
   Calls E.P g a.toArray w fun e w'=>Below w.heap.size w w'∧∃ y x so b c o,e=.returned y∧s.room=true∧w.heap.size≤b∧w'.heap[b]?=some o∧OR (ν'.put s.nx (b,c)) s.nx so o∧VR (ν'.put s.nx (b,c)) x y∧(∀ M2,Kept H0 M00 w00 (H.fY w w' b) M2 w'→
    ∃ F' s3,finish E F x (s.new so)=some (F',s3)∧s3.ob∧af E M2 w' cs0 f R ν ⟨F',[],s3⟩)):af E M w0 cs0 f R ν ⟨G,[F],s⟩:=by
 refine af.call hG fun ν' M1 w1 w a cs hle hB hr hg ha hcal=>?_
 have hsub:=hk.now hB hr
 refine (hc ν' w a hle hsub hg ha (fun i so m hl=>by obtain ⟨_,_,b,o,h1,h2,h3,_⟩:=hr.look hl;exact ⟨b,o,h1,h2,h3⟩)).mono fun e w' ⟨hbel,y,x,so,b,c,o,he,hroom,hbn,hob,hor,hv,hnext⟩=>⟨y,he,fun fr cs' hcs=>?_⟩
 subst hcs
 have holdb:∀ i d,i<2 ^ s.d→s.H.get i≠none→ν' i=some d→d.1<w.heap.size:=by
  intro i d hi hx hd
  cases hx':s.H.get i with
  | none=>exact absurd hx' hx
  | some x=>
   obtain ⟨b',o',hb',ho',_,_⟩:=hr.obj i hi _ hx'
   rw [hd] at hb';cases hb'
   exact (Array.getElem?_eq_some_iff.1 ho').1
 obtain ⟨hle2,hrA⟩:=HR.sb (hr.grow hbel) hroom (Nat.le_trans hr.size hbn) hob (fun i d hi hx hd=>by have:=holdb i d hi hx hd;omega) hor
 have hnx:s.nx<2 ^ s.d:=c4.1 hroom
 have hput:∀ j,j≠s.nx→(ν'.put s.nx (b,c)) j=ν' j:=fun j e=>by simp [aU.put,e]
 have hown:∀ k,(cG (ν'.put s.nx (b,c)) M1 (s.new so)) k→k=b∨(k<w.heap.size∧(w1.heap.size≤k∨M1 k)):=by
  rintro k ⟨i,x',c',hi,hx',hb'⟩
  have hi:i<2 ^ s.d:=hi
  have hx':(s.H.set s.nx (some (so,true))).get i=some (x',true):=hx'
  rw [Tr.dA hr.full hnx hi] at hx'
  by_cases e:i=s.nx
  ·subst e
   rw [aU.bM] at hb';cases hb'
   exact .inl rfl
  ·rw [if_neg e] at hx'
   rw [hput i e] at hb'
   obtain ⟨b2,o2,hb2,ho2,_,h4⟩:=hr.obj i hi _ hx'
   rw [hb'] at hb2;cases hb2
   exact .inr ⟨(Array.getElem?_eq_some_iff.1 ho2).1,h4 rfl⟩
 have hB2:dz M w0 (cG (ν'.put s.nx (b,c)) M1 (s.new so)) w':=by
  refine ⟨Nat.le_trans hB.size (Nat.le_trans hr.size hbel.size),hbel.os.trans (hr.os.trans hB.os),hbel.tape.trans (hr.tape.trans hB.tape),hbel.output.trans (hr.output.trans hB.output),fun k hb hM=>?_,fun k hb=>?_,hB.ro,fun b h=>h.elim,fun k hb=>?_⟩
  ·obtain ⟨h1,h2⟩:=hB.frame k hb hM
   have hb1:=Nat.lt_of_lt_of_le hb hB.size
   have hb2:=Nat.lt_of_lt_of_le hb1 hr.size
   refine ⟨(hbel.block k hb2).trans ((hr.frame k hb1 h2).trans h1),fun hl=>?_⟩
   rcases hown k hl with h | ⟨_,h | h⟩
   ·omega
   ·omega
   ·exact h2 h
  ·rcases hb with hb | hb
   ·exact .inl (Nat.le_trans hB.size (Nat.le_trans hr.size (Nat.le_trans hbel.size hb)))
   ·rcases hown k hb with h | ⟨_,h⟩
    ·exact .inl (Nat.le_trans hB.size (Nat.le_trans hr.size (by omega)))
    ·exact hB.own k h
  ·exact Nat.lt_of_lt_of_le (hB.rlt k hb) (Nat.le_trans hr.size hbel.size)
 have hK2:Kept H0 M00 w00 (H.fY w w' b) (cG (ν'.put s.nx (b,c)) M1 (s.new so)) w':=by
  refine ⟨hk.sub0.trans (Hp.pW hsub hbn),fun k o' hb=>?_,fun k o' hb h=>?_,hk.base.trans hB2⟩
  ·have hw':=Hp.nK hsub hbel k o' (Hp.gr k o' hb)
   refine ⟨(Array.getElem?_eq_some_iff.1 hw').1,fun hl=>?_,hw'⟩
   have hne:k≠b:=fun e=>by
    unfold Hp.fY at hb
    rw [if_pos e] at hb;cases hb
   rcases hown k hl with h | ⟨h1,h2⟩
   ·exact hne h
   ·have hb:=Hp.gr k o' hb
    simp only [Hp.grow,if_pos h1] at hb
    obtain ⟨h3,h4,_⟩:=hk.still k o' hb
    have h5:=(hB.frame k h3 h4).2
    rcases h2 with h | h
    ·have:=hB.size;omega
    ·exact h5 h
  ·have hlt:k<w.heap.size:=Nat.lt_of_lt_of_le hb (Nat.le_trans hk.base.size (Nat.le_trans hB.size hr.size))
   have h:=Hp.gr k o' h
   simp only [Hp.grow,if_pos hlt] at h
   exact hk.old k o' hb h
 obtain ⟨F',s3,hfin,ob,hsafe⟩:=hnext _ hK2
 have hr2:=vp hrA
 cases hcal with
 | wait hw ht=>
 have hhl:=ot hlag hw
 subst hhl
 have hw2:eS E (ν'.put s.nx (b,c)) (cG (ν'.put s.nx (b,c)) M1 (s.new so)) w' [] F fr:=eS.mono hle2 ⟨hw.base,hw.ret,hw.mode,hw.todo.c7 fun b hb=>by cases hb⟩
 have ht2:bn E (ν'.put s.nx (b,c)) (cG (ν'.put s.nx (b,c)) M1 (s.new so)) w' cs0 [] F.kind [] cs':=by
  generalize F.kind=kk at ht
  cases ht with
  | nil h=>exact .nil List.nodup_nil
 obtain ⟨_,hMR⟩:=eG hw2 hr2 (hg.mono hle2) hv hfin ht2 ob
 exact hsafe (ν'.put s.nx (b,c)) _ _ _ (hle.trans hle2) (dz.refl (fun b hb=>hB2.rlt b hb) fun b h=>h) hMR
theorem af.HF (K:aW E M w0) {H0 H:Hp} {M00:Own} {w00:World} (hk:Kept H0 M00 w00 H M w0) {n:Nat} {g:FuncId} {S:SM} {o:List (Nat × gX)} {args:List SV} (h:ak (bI E g n S o)) (hG:er E g n S o=dm E g args .normal)
  (hc:∀ ν' w a,ν.Le ν'→H.Sub w.hp→GR ν' E→ay ν' args a→(∀ i so m,iR E g n S o i=some (so,m)→∃ b o,ν' i=some b∧w.heap[b.1]?=some o∧OR ν' i so o)→Calls E.P g a.toArray w fun e w'=>Below w.heap.size w w'∧∃ y mk so b c ob,e=.returned y∧w.heap.size≤b∧w'.heap[b]?=some ob∧(∀ (ν2:aU) i,ν2 i=some (b,c)→OR ν2 i so ob∧VR ν2 (mk i) y)∧
   ak (sr E g n S o mk so)∧∀ M2,Kept H0 M00 w00 (H.fY w w' b) M2 w'→af E M2 w' cs0 f R ν (kI E g n S o mk so)):af E M w0 cs0 f R ν S:=by
 unfold bI at h
 cases hT:po E (kp g) n (S.with o) with
 | none=>rw [hT] at h;exact aR h
 | some T=>
  rw [hT] at h
  dsimp only at h
  split at h
  ·rename_i F hF
   obtain ⟨hlag,hob⟩:=eI h
   unfold er at hG
   rw [hT] at hG
   obtain ⟨top,callers,mem⟩:=T
   dsimp only at hF hG hob
   subst hF
   refine af.go K hT hob (af.Fx (F:=F) hG.symm hlag hk fun ν' w a hle hsub hgr ha hlk=>?_)
   refine (hc ν' w a hle hsub hgr ha (fun i so m hl=>hlk i so m (by unfold iR at hl;rw [hT] at hl;exact hl))).mono fun e w' ⟨hB,y,mk,so,b,c,ob,he,hbn,hbo,hall,h1,h2⟩=>?_
   obtain ⟨h3,h4⟩:=Ak h1
   have h5:=h3
   unfold td at h5
   rw [hT] at h5
   dsimp only at h5
   cases hroom:mem.room
   ·rw [hroom] at h5;cases h5
   rw [hroom] at h5
   simp only [cond_true] at h5
   obtain ⟨r,hr,he2⟩:=Option.map_eq_some_iff.1 h5
   obtain ⟨q1,q2⟩:=hall (ν'.put mem.nx (b,c)) mem.nx (aU.bM _ _ _)
   refine ⟨hB,y,mk mem.nx,so,b,c,ob,he,rfl,hbn,hbo,q1,q2,fun M2 hK=>⟨r.1,r.2,hr,?_,?_⟩⟩
   ·have:(kI E g n S o mk so).mem=r.2:=by rw [← he2]
    have h6:(kI E g n S o mk so).mem.ob:=h4
    rw [this] at h6;exact h6
   ·have:(⟨r.1,[],r.2⟩:SM)=kI E g n S o mk so:=he2
    rw [this];exact h2 M2 hK
  ·exact aR h
end
end Go.Rx
set_option linter.unusedSimpArgs false
set_option linter.unusedVariables false
set_option maxRecDepth 100000
namespace Go.Proofs.Ytbjmmnegkpeboaa
open Go Go.Rx Go.RowKit Go.Proofs
namespace paths
def Nc:List (FuncId × Sum):=[(39,qI),(41,uS)]
noncomputable def jh:Env:={ EP [] [] with sums:=fun f=>Nc.lookup f }
noncomputable def tF:SM:=(bC jh 20 [.ptr 0 0,.ptr 1 0] (bO 6 2 0 [cD [],cD []])).getD dC
def wv (n:Nat):Nat→SV:=fun i=>.sl i 0 n none
def wq (l:List ByteArray):SO:=.row (strs l) 9 (0,0) (some 1)
def oT:List (Nat × gX):=ff [1000] true
def FG:SV:=.func (.func 36) [] [.ptr 2 0,.ptr 3 0]
noncomputable def Ji (l:List ByteArray) (n:Nat):SM:=kI jh 38 100 tF oT (wv n) (wq l)
noncomputable def Jh:SM:=bq jh 38 100 tF oT (.v (.slice none 0 0))
noncomputable def KQ (l m:List ByteArray) (n k:Nat):SM:=kI jh 38 100 (Ji l n) oT (wv k) (wq m)
noncomputable def J7 (l:List ByteArray) (n:Nat):SM:=bq jh 38 100 (Ji l n) oT (.v (.slice none 0 0))
noncomputable def Kf (m:List ByteArray) (k:Nat):SM:=kI jh 38 100 Jh oT (wv k) (wq m)
noncomputable def K3:SM:=bq jh 38 100 Jh oT (.v (.slice none 0 0))
theorem O0 (u:Unit):bI jh 38 100 tF oT=[]:=by kernel_rfl
theorem QC (l:List ByteArray) (n:Nat):sr jh 38 100 tF oT (wv n) (wq l)=[0=0]:=by kernel_rfl
theorem QN (u:Unit):bE jh 38 100 tF oT (.v (.slice none 0 0))=[0=0]:=by kernel_rfl
theorem Ra (l:List ByteArray) (n:Nat):bI jh 38 100 (Ji l n) oT=[]:=by kernel_rfl
theorem RC (u:Unit):bI jh 38 100 Jh oT=[]:=by kernel_rfl
theorem Px (l m:List ByteArray) (n k:Nat):sr jh 38 100 (Ji l n) oT (wv k) (wq m)=[]:=by kernel_rfl
theorem PO (l:List ByteArray) (n:Nat):bE jh 38 100 (Ji l n) oT (.v (.slice none 0 0))=[]:=by kernel_rfl
theorem RA (m:List ByteArray) (k:Nat):sr jh 38 100 Jh oT (wv k) (wq m)=[]:=by kernel_rfl
theorem Rg (u:Unit):bE jh 38 100 Jh oT (.v (.slice none 0 0))=[]:=by kernel_rfl
theorem QI (l m:List ByteArray) (n k N:Nat) (v w l':List SV):bR jh 20 200 (KQ l m n k) [(0,.app v w)] (.sl 6 0 N none) 6 (.row l' 9 (0,0) (some 1))=[0=0∧(eh (bh (strs (bu (bh (v++w)))))).length=N∧nZ=none,strs (eh (bh (strs (bu (bh (v++w)))))++List.replicate (n+k - (eh (bh (strs (bu (bh (v++w)))))).length) (⟨⟨[]⟩⟩:ByteArray))=l',l'.all ab=true,strs (bu (bh (v++w)))=strs (bh (strs (bu (bh (v++w)))))∧n+k=(bh (strs (bu (bh (v++w))))).length∧gi (bh (strs (bu (bh (v++w)))))∧9=9∧(0,0)=(0,0)∧1=1,v++w=strs (bh (v++w))∧n+k=(bh (v++w)).length∧gi (bh (v++w))∧9=9∧(0,0)=(0,0)∧1=1∧Value.func (Fn.func 40) { toList:=[]:Array Value } { toList:=[]:Array Value }=Value.func (Fn.func 40) { toList:=[]:Array Value } { toList:=[]:Array Value },((List.take (k*1) (List.drop 0 (strs m))=w∧w.length=k*1)∧k≠0∧(2*(n+k)+1024)*16≤140737488355328)∧List.take (n*1) (strs l)=v∧v.length=n*1∧w.all SV.flat=true]:=by kernel_rfl
theorem Q2 (l:List ByteArray) (n N:Nat) (l':List SV):bR jh 20 200 (J7 l n) oT (.sl 4 0 N none) 4 (.row l' 9 (0,0) (some 1))=[0=0∧(eh (bh (strs (bu (bh (strs l)))))).length=N∧nZ=none,strs (eh (bh (strs (bu (bh (strs l)))))++List.replicate (n - (eh (bh (strs (bu (bh (strs l)))))).length) (⟨⟨[]⟩⟩:ByteArray))=l',l'.all ab=true,strs (bu (bh (strs l)))=strs (bh (strs (bu (bh (strs l)))))∧n=(bh (strs (bu (bh (strs l))))).length∧gi (bh (strs (bu (bh (strs l)))))∧9=9∧(0,0)=(0,0)∧1=1,strs l=strs (bh (strs l))∧n=(bh (strs l)).length∧gi (bh (strs l))∧9=9∧(0,0)=(0,0)∧1=1∧Value.func (Fn.func 40) { toList:=[]:Array Value } { toList:=[]:Array Value }=Value.func (Fn.func 40) { toList:=[]:Array Value } { toList:=[]:Array Value }]:=by kernel_rfl
theorem PH (m:List ByteArray) (k N:Nat) (v w l':List SV):bR jh 20 200 (Kf m k) [(0,.app v w)] (.sl 5 0 N none) 5 (.row l' 9 (0,0) (some 1))=[0=0∧(eh (bh (strs (bu (bh ([]++w)))))).length=N∧nZ=none,strs (eh (bh (strs (bu (bh ([]++w)))))++List.replicate (k - (eh (bh (strs (bu (bh ([]++w)))))).length) (⟨⟨[]⟩⟩:ByteArray))=l',l'.all ab=true,strs (bu (bh ([]++w)))=strs (bh (strs (bu (bh ([]++w)))))∧k=(bh (strs (bu (bh ([]++w))))).length∧gi (bh (strs (bu (bh ([]++w)))))∧9=9∧(0,0)=(0,0)∧1=1,[]++w=strs (bh ([]++w))∧k=(bh ([]++w)).length∧gi (bh ([]++w))∧9=9∧(0,0)=(0,0)∧1=1∧Value.func (Fn.func 40) { toList:=[]:Array Value } { toList:=[]:Array Value }=Value.func (Fn.func 40) { toList:=[]:Array Value } { toList:=[]:Array Value },((List.take (k*1) (List.drop 0 (strs m))=w∧w.length=k*1)∧k≠0∧(2*k+1024)*16≤140737488355328)∧v=[]]:=by kernel_rfl
theorem PE (v:Value):ax jh 20 200 K3 oT v=[Value.slice none 0 0=v,Value.slice none 0 0=Value.slice none 0 0,Value.slice none 0 0=Value.slice none 0 0∧Value.func (Fn.func 40) { toList:=[]:Array Value } { toList:=[]:Array Value }=Value.func (Fn.func 40) { toList:=[]:Array Value } { toList:=[]:Array Value }]:=by kernel_rfl
def KM:SV:=.func (.func 36) [] [.ptr 1 0,.ptr 2 0]
noncomputable def G6:SM:=(bC jh 38 [.ptr 0 0,KM] (bO 6 3 0 [C5,cD [],cD []])).getD dC
theorem Oj (v:Value):ax jh 38 100 G6 oT v=[Value.slice none 0 0=v,Value.slice none 0 0=Value.slice none 0 0∧Value.func (Fn.func 40) { toList:=[]:Array Value } { toList:=[]:Array Value }=Value.func (Fn.func 40) { toList:=[]:Array Value } { toList:=[]:Array Value }]:=by kernel_rfl
theorem Hy {M0 M:Own} {w00 w0:World} (hM:∀ z,¬ M0 z) (hB:dz M0 w00 M w0) (hX:MX w00):aW jh M w0:=
 aW.Bg (Checked.mixed Try.checked) (by kernel_rfl) (gu.of ke rfl eY) (ep.DX (X:=MX) (l:=Nc) rfl (fun r h=>by
  simp only [Nc,List.mem_cons,List.not_mem_nil,or_false] at h
  rcases h with rfl | rfl
  ·exact wU
  ·exact Eb) fun ν s w hr _=>hX.keep fun k hk=>(hr.frame k (Nat.lt_of_lt_of_le hk hB.size) (hB.frame k hk (hM k)).2).trans (hB.frame k hk (hM k)).1) (fun f g h=>by cases h)
theorem iX.cells {w:World} {b:Nat} {E:List cg} (h:iX w b E):∃ v,w.heap[b]?=some (.cells #[.map v] 63 (0,0)):=by
 rcases h with ⟨m,cl,h1,h2,h4⟩ | ⟨h1,h2⟩
 ·exact ⟨_,h2.row⟩
 ·exact ⟨_,h2⟩
theorem iX.size {w:World} {b:Nat} {E:List cg} (h:iX w b E):∀ e∈E,e.1.p.size≤1000000000:=by
 rcases h with ⟨m,cl,h1,h2,h4⟩ | ⟨h1,h2⟩
 ·exact h4.size
 ·rw [h1];exact fun e he=>(nomatch he)
theorem vc.mono {H H':Hp} {a:Option Addr} {l:Nat} {zs:List Int} (h:vc H a l zs) (hs:H.Sub H'):vc H' a l zs:=fun w hw=>h w (hs.trans hw)
theorem sf.mono {H H':Hp} {b:Nat} {z:ByteArray→Int × List Int} (h:sf H b z) (hs:H.Sub H'):sf H' b z:=fun w hw p=>
 (h w (hs.trans hw) p).mono fun e w' ⟨h1,k,a,l,c,zs,h2,h3,h4⟩=>⟨h1,k,a,l,c,zs,h2,h3.mono hs,h4⟩
structure dJ (W:World) (b:Nat) (z:ByteArray→Int × List Int) (E:List cg):Prop where
 tree:iX W b E
 get:sf W.hp b z
 few:E.length≤1000
theorem dJ.keep {W w:World} {b:Nat} {z:ByteArray→Int × List Int} {E:List cg} (h:dJ W b z E) (hs:W.hp.Sub w.hp):dJ w b z E:=⟨h.tree.keep hs,h.get.mono hs,h.few⟩
theorem pB {W w:World} (h:W.hp.Sub w.hp):∀ k,k<W.heap.size→w.heap[k]?=W.heap[k]?:=fun k hk=>by
 have h1:=h k W.heap[k] (Array.getElem?_eq_getElem hk)
 rw [Array.getElem?_eq_getElem hk];exact h1
theorem wZ {ν':aU} {j x:Nat} {o:Obj} (h:OR ν' x (gW j) o) {bb:Nat} (hj:ν' j=some (bb,0)):o=.cells #[bX bb] 27 (0,0):=by
 obtain ⟨zs,rest,rfl,hz,hx⟩:=h
 obtain ⟨z1,u,rfl,r1,hu⟩:=hz.cons_inv
 obtain rfl:=hu.aB
 obtain ⟨bb',hbb,rfl⟩:=VR.aC.1 r1
 rw [hj] at hbb;cases hbb
 have h0:rest=[]:=by
  have:([Value.pointer (some ⟨bb,0,none⟩)]++rest).length=1:=hx
  simpa using this
 subst h0;rfl
theorem lu {w:World} {x b bb:Nat} {v:Option Nat} (hx:w.heap[x]?=some (.cells #[bX bb] 27 (0,0))) (hb:w.heap[b]?=some (.cells #[.map v] 63 (0,0))):x≠b:=by
 rintro rfl
 rw [hx] at hb
 have:=Option.some.inj hb
 injection this with e1 e2 e3
 have:=congrArg (fun a:Array Value=>a[0]?) e1
 simp [bX] at this
theorem As {w:World} {x1 x2 b1 b2:Nat} (hn:b1≠b2) (hx1:w.heap[x1]?=some (.cells #[bX b1] 27 (0,0))) (hx2:w.heap[x2]?=some (.cells #[bX b2] 27 (0,0))):x1≠x2:=by
 rintro rfl
 rw [hx1] at hx2
 have:=Option.some.inj hx2
 injection this with e _ _
 have:=congrArg (fun a:Array Value=>a[0]?) e
 simp [bX,hn] at this
def pd (z1 z2:ByteArray→Int × List Int) (q:ByteArray):Bool:=hJ (z1 q) (z2 q)
theorem Gw {w:World} {x1 x2 b1 b2:Nat} {z1 z2:ByteArray→Int × List Int} {E1 E2:List cg} (hn:b1≠b2) (h1:dJ w b1 z1 E1) (h2:dJ w b2 z2 E2) (hx1:w.heap[x1]?=some (.cells #[bX b1] 27 (0,0))) (hx2:w.heap[x2]?=some (.cells #[bX b2] 27 (0,0))):uh w x1 x2 (pd z1 z2):=by
 intro w' hs q _
 obtain ⟨v1,c1⟩:=h1.tree.cells
 obtain ⟨v2,c2⟩:=h2.tree.cells
 have n12:=As hn hx1 hx2
 refine xc (b1:=b1) (b2:=b2) ?_ (hs _ _ hx1) (hs _ _ hx2) (hs _ _ c1) (hs _ _ c2) (h1.get.mono hs) (h2.get.mono hs) q
 simp only [List.nodup_cons,List.mem_cons,List.not_mem_nil,or_false,not_or,not_false_eq_true,List.nodup_nil,and_true]
 exact ⟨⟨n12,lu hx1 c1,lu hx1 c2⟩,⟨lu hx2 c1,lu hx2 c2⟩,hn⟩
theorem Bm {w:World} {b x1 x2 b1 b2:Nat} {E:List cg} {D:ByteArray→Bool} (hm:MX w) (h:iX w b E) (few:E.length≤1000) (hn:b1≠b2) (hx1:w.heap[x1]?=some (.cells #[bX b1] 27 (0,0))) (hx2:w.heap[x2]?=some (.cells #[bX b2] 27 (0,0))) (hp:uh w x1 x2 D):
  Calls Try.prog 38 #[bX b,.func (.func 36) #[] #[bX x1,bX x2]] w (zk w (bu ((E.map fun e=>e.1.p).filter D))):=by
 have n12:=As hn hx1 hx2
 rcases h with ⟨m,cl,hne,hA,hB⟩ | ⟨rfl,hZ⟩
 ·refine uI hm hA hB few ?_ hx1 hx2 hp
  have hmx:∀ {x bb:Nat},w.heap[x]?=some (.cells #[bX bb] 27 (0,0))→m≠x:=by
   rintro x bb hx rfl
   rw [hA.map] at hx;cases hx
  simp only [List.nodup_cons,List.mem_cons,List.not_mem_nil,or_false,not_or,not_false_eq_true,List.nodup_nil,and_true]
  exact ⟨⟨hne,(lu hx1 hA.row).symm,(lu hx2 hA.row).symm⟩,⟨hmx hx1,hmx hx2⟩,n12⟩
 ·have hM:∀ z,¬ (aT [(b,0),(x1,0),(x2,0)] ([SO.row [.v (.map none)] 63 (0,0) none,SO.look [],SO.look []].map fun o=>(o,false))) z:=fun z=>a6 (os:=[SO.row [.v (.map none)] 63 (0,0) none,SO.look [],SO.look []])
  have ho:∀ (j:Nat) (o':SO) (b' c':Nat),[SO.row [.v (.map none)] 63 (0,0) none,SO.look [],SO.look []][j]?=some o'→[(b,0),(x1,0),(x2,0)][j]?=some (b',c')→∃ r,w.heap[b']?=some r∧OR (aE [(b,0),(x1,0),(x2,0)]) j o' r:=by
   intro j o' b' c' q1 q2
   match j with
   | 0=>
    simp only [List.getElem?_cons_zero,Option.some.injEq] at q1 q2
    subst q1
    cases q2
    exact ⟨_,hZ,[.map none],[],rfl,ay.cons (VR.ah.2 rfl) ay.nil,rfl⟩
   | 1=>
    simp only [List.getElem?_cons_succ,List.getElem?_cons_zero,Option.some.injEq] at q1 q2
    subst q1
    cases q2
    exact ⟨_,hx1,[],_,_,_,rfl,ay.nil,fun k y h=>by simp at h⟩
   | 2=>
    simp only [List.getElem?_cons_succ,List.getElem?_cons_zero,Option.some.injEq] at q1 q2
    subst q1
    cases q2
    exact ⟨_,hx2,[],_,_,_,rfl,ay.nil,fun k y h=>by simp at h⟩
   | j+3=>simp at q1
  refine aY (E:=jh) rfl (d:=6) (l:=[(b,0),(x1,0),(x2,0)]) (os:=[.row [.v (.map none)] 63 (0,0) none,.look [],.look []]) rfl (by simp) ?_ ho rfl (args:=[.ptr 0 0,KM]) (a:=[bX b,.func (.func 36) #[] #[bX x1,bX x2]]) (S0:=G6) (by kernel_rfl) (ay.cons (VR.aC.2 ⟨(b,0),rfl,rfl⟩) (ay.cons ?_ ay.nil)) fun cs0=>?_
  ·simp only [List.map_cons,List.map_nil,List.nodup_cons,List.mem_cons,List.not_mem_nil,or_false,not_or,not_false_eq_true,List.nodup_nil,and_true]
   exact ⟨⟨(lu hx1 hZ).symm,(lu hx2 hZ).symm⟩,n12⟩
  ·exact VR.cX.2 ⟨[],[bX x1,bX x2],rfl,ay.nil,ay.cons (VR.aC.2 ⟨(x1,0),rfl,rfl⟩) (ay.cons (VR.aC.2 ⟨(x2,0),rfl,rfl⟩) ay.nil)⟩
  ·have hK0:=Kept.start (H0:=w.hp) (M:=aT [(b,0),(x1,0),(x2,0)] ([SO.row [.v (.map none)] 63 (0,0) none,SO.look [],SO.look []].map fun o=>(o,false))) (w:=w) (Hp.Sub.refl _) (fun z o _=>hM z) (dh (by
    intro j o' m' b' c' q1 q2
    rw [List.getElem?_map] at q1
    obtain ⟨o2,q3,q4⟩:=Option.map_eq_some_iff.1 q1
    cases q4
    exact ho j o' b' c' q3 q2)) (fun _ h=>h)
   refine af.ax (Hy hM hK0.base hm) (n:=100) (o:=oT) (v:=.slice none 0 0) (by rw [Oj];simp [ak]) fun ν' M1 w1 s' w' _ hB' hr=>⟨aI hM hB' hr,_,rfl,.inl ⟨?_,rfl⟩⟩
   exact List.length_eq_zero_iff.1 (bB []).length_eq
section
variable {W:World} {cs0:List Frame} {b b1 b2:Nat} {z z1 z2:ByteArray→Int × List Int} {E E1 E2:List cg} {M:Own} {ν:aU}
theorem CX (hX:MX W) (hM:∀ z,¬ M z) (hn:b1≠b2) (h1:dJ W b1 z1 E1) (h2:dJ W b2 z2 E2) (hb:dJ W b z E) {i:Nat} (hν0:ν 0=some (b1,0)) (hν1:ν 1=some (b2,0)) (hνi:ν i=some (b,0)) {S:SM} {H:Hp} {M1:Own} {w1:World} (hk:Kept W.hp M W H M1 w1) {R:Ending→World→Prop}
  (q1:ak (bI jh 38 100 S oT)) (q2:er jh 38 100 S oT=dm jh 38 [.ptr i 0,FG] .normal)
  (lk1:iR jh 38 100 S oT 2=some (gW 0,true)) (lk2:iR jh 38 100 S oT 3=some (gW 1,true))
  (q3:∀ (l:List ByteArray) n,ak (sr jh 38 100 S oT (wv n) (wq l))) (q4:ak (bE jh 38 100 S oT (.v (.slice none 0 0))))
  (nxN:∀ L,L=bu ((E.map fun e=>e.1.p).filter (pd z1 z2))→L≠[]→∀ H' M2 w2,Kept W.hp M W H' M2 w2→af jh M2 w2 cs0 20 R ν (kI jh 38 100 S oT (wv L.length) (wq L)))
  (nxZ:bu ((E.map fun e=>e.1.p).filter (pd z1 z2))=[]→∀ H' M2 w2,Kept W.hp M W H' M2 w2→af jh M2 w2 cs0 20 R ν (bq jh 38 100 S oT (.v (.slice none 0 0)))):
  af jh M1 w1 cs0 20 R ν S:=by
 have hw:∀ {ν':aU} {w:World} {a:List Value},ν.Le ν'→H.Sub w.hp→ay ν' [.ptr i 0,FG] a→(∀ i so m,iR jh 38 100 S oT i=some (so,m)→∃ b o,ν' i=some b∧w.heap[b.1]?=some o∧OR ν' i so o)→
   Calls Try.prog 38 a.toArray w (zk w (bu ((E.map fun e=>e.1.p).filter (pd z1 z2)))):=by
  intro ν' w a hle hsub ha hlk
  obtain ⟨y1,as1,rfl,r1,ha2⟩:=ha.cons_inv
  obtain ⟨y2,as2,rfl,r2,ha3⟩:=ha2.cons_inv
  obtain rfl:=ha3.aB
  obtain ⟨bb,hbb,rfl⟩:=VR.aC.1 r1
  have hbb:=hbb.symm.trans (hle i (b,0) hνi)
  cases hbb
  obtain ⟨fa,fb,rfl,s1,s2⟩:=VR.cX.1 r2
  obtain rfl:=s1.aB
  obtain ⟨p1,fb1,rfl,t1,s3⟩:=s2.cons_inv
  obtain ⟨p2,fb2,rfl,t2,s4⟩:=s3.cons_inv
  obtain rfl:=s4.aB
  obtain ⟨x1,e1,rfl⟩:=VR.aC.1 t1
  obtain ⟨x2,e2,rfl⟩:=VR.aC.1 t2
  obtain ⟨x1',ob1,e1',hx1,o1⟩:=hlk 2 (gW 0) true lk1
  obtain ⟨x2',ob2,e2',hx2,o2⟩:=hlk 3 (gW 1) true lk2
  rw [e1] at e1';cases e1'
  rw [e2] at e2';cases e2'
  rw [wZ o1 (hle 0 _ hν0)] at hx1
  rw [wZ o2 (hle 1 _ hν1)] at hx2
  have hs:=hk.sub0.trans hsub
  exact Bm (hX.keep (pB hs)) (hb.tree.keep hs) hb.few hn hx1 hx2 (Gw hn (h1.keep hs) (h2.keep hs) hx1 hx2)
 by_cases hL:bu ((E.map fun e=>e.1.p).filter (pd z1 z2))=[]
 ·refine af.GZ (Hy hM hk.base hX) hk (n:=100) (g:=38) (o:=oT) (args:=[.ptr i 0,FG]) q1 q2 fun ν' w a hle hsub hgr ha hlk=>?_
  refine (hw hle hsub ha hlk).mono fun e w' ⟨hB,v,he,hv⟩=>?_
  rcases hv with ⟨_,rfl⟩ | ⟨h0,_⟩
  ·exact ⟨hB,_,he,fun M2 hK2=>⟨q4,nxZ hL _ M2 w' hK2⟩⟩
  ·exact absurd hL h0
 ·refine af.HF (Hy hM hk.base hX) hk (n:=100) (g:=38) (o:=oT) (args:=[.ptr i 0,FG]) q1 q2 fun ν' w a hle hsub hgr ha hlk=>?_
  refine (hw hle hsub ha hlk).mono fun e w' ⟨hB,v,he,hv⟩=>?_
  rcases hv with ⟨h0,_⟩ | ⟨_,hs⟩
  ·exact absurd h0 hL
  ·generalize hLL:bu ((E.map fun e=>e.1.p).filter (pd z1 z2))=L at hs hL
   obtain ⟨g,cc,rest,hy,hbase,hnc,hh,hsz⟩:=hs
   refine ⟨hB,v,wv L.length,wq L,g,cc,_,he,hbase,hh,fun ν2 j hj=>⟨⟨L.map Value.string,rest,rfl,?_,by rw [aD,List.length_append,List.length_map];omega,(g,cc),hj,hsz⟩,VR.aQ.2 ⟨(g,cc),hj,hnc,hy⟩⟩,q3 L _,fun M2 hK2=>nxN L hLL.symm hL _ M2 w' hK2⟩
   have:strs L=(L.map Value.string).map SV.v:=by unfold strs;simp
   rw [this];exact ay.lits _ _
end
def lr (z1 z2:ByteArray→Int × List Int) (E1 E2:List cg):List ByteArray:=eh (bu (bu ((E1.map fun e=>e.1.p).filter (pd z1 z2))++bu ((E2.map fun e=>e.1.p).filter (pd z1 z2))))
theorem vq {W:World} {b:Nat} {z:ByteArray→Int × List Int} {E:List cg} (h:dJ W b z E) (D:ByteArray→Bool):(bu ((E.map fun e=>e.1.p).filter D)).length≤1000∧∀ s∈bu ((E.map fun e=>e.1.p).filter D),s.size≤1000000000:=by
 constructor
 ·rw [(bB _).length_eq]
  exact Nat.le_trans (List.length_filter_le _ _) (by rw [List.length_map];exact h.few)
 ·intro s hs
  obtain ⟨e,he,rfl⟩:=List.mem_map.1 (List.mem_filter.1 ((bB _).mem_iff.1 hs)).1
  exact h.tree.size e he
theorem y6 (L:List ByteArray):(strs L).all SV.flat=true:=by
 unfold strs;rw [List.all_eq_true];intro x hx
 obtain ⟨r,hr,rfl⟩:=List.mem_map.1 hx
 obtain ⟨q,_,rfl⟩:=List.mem_map.1 hr;rfl
theorem ru {K:List ByteArray} (h:K≠[]):eh (bu K)≠[]:=fun e=>by
 obtain ⟨x,hx⟩:=List.exists_mem_of_ne_nil _ h
 have:x∈eh (bu K):=by rw [ui];exact (bB K).mem_iff.2 hx
 rw [e] at this;cases this
theorem mM {E:Env} {M:Own} {W w0:World} {cs0:List Frame} {f:FuncId} {ν:aU} {m j:Nat} {S:SM} {o:List (Nat × gX)} {L T:List ByteArray} {M0:Own} (K:aW E M w0) (hM:∀ z,¬ M0 z) {H:Hp} (hk:Kept W.hp M0 W H M w0) (hne:L≠[]) (h:uw (bR E f m S o (.sl j 0 L.length none) j (.row (strs (L++T)) 9 (0,0) (some 1)))):
  af E M w0 cs0 f (zk W L) ν S:=
 af.bR K h.out fun ν' w' y b ob hv hb ho hor hw hB=>by
  obtain ⟨ν3,M3,w3,s',hB,hr⟩:=hB
  have hn:W.heap.size≤b.1:=jV (M3:=M3) (w3:=w3) hM hk hw
  refine ⟨aI hM (hk.base.trans hB) hr,y,rfl,.inr ⟨hne,?_⟩⟩
  have hs:cy W w' y ((L++T).map Value.string) L.length 1 9:=cy.e8 hv hb ho hor hn fun zs hz=>by
   have h2:strs (L++T)=((L++T).map Value.string).map SV.v:=by unfold strs;simp
   rw [h2] at hz
   exact eF hz (ay.lits ν' _)
  obtain ⟨g,c,rest,h1,h2,h3,h4,h5⟩:=hs
  rw [List.map_append,List.append_assoc] at h4 h5
  exact ⟨g,c,T.map Value.string++rest,h1,h2,h3,h4,h5⟩
theorem yR {W:World} {b1 b2:Nat} {z1 z2:ByteArray→Int × List Int} {E1 E2:List cg} (hX:MX W) (hn:b1≠b2) (h1:dJ W b1 z1 E1) (h2:dJ W b2 z2 E2):
  Calls Try.prog 20 #[bX b1,bX b2] W (zk W (lr z1 z2 E1 E2)):=by
 obtain ⟨v1,c1⟩:=h1.tree.cells
 obtain ⟨v2,c2⟩:=h2.tree.cells
 have ho:∀ (j:Nat) (o':SO) (b' c':Nat),[SO.look [],SO.look []][j]?=some o'→[(b1,0),(b2,0)][j]?=some (b',c')→∃ r,W.heap[b']?=some r∧OR (aE [(b1,0),(b2,0)]) j o' r:=by
  intro j o' b' c' q1 q2
  match j with
  | 0=>
   simp only [List.getElem?_cons_zero,Option.some.injEq] at q1 q2
   subst q1
   cases q2
   exact ⟨_,c1,[],_,_,_,rfl,ay.nil,fun k y h=>by simp at h⟩
  | 1=>
   simp only [List.getElem?_cons_succ,List.getElem?_cons_zero,Option.some.injEq] at q1 q2
   subst q1
   cases q2
   exact ⟨_,c2,[],_,_,_,rfl,ay.nil,fun k y h=>by simp at h⟩
  | j+2=>simp at q1
 refine aY (E:=jh) rfl (d:=6) (l:=[(b1,0),(b2,0)]) (os:=[.look [],.look []]) rfl (by simp) (by simpa using hn) ho rfl (args:=[.ptr 0 0,.ptr 1 0]) (a:=[bX b1,bX b2]) (S0:=tF) (by kernel_rfl) (ay.cons (VR.aC.2 ⟨(b1,0),rfl,rfl⟩) (ay.cons (VR.aC.2 ⟨(b2,0),rfl,rfl⟩) ay.nil)) fun cs0=>?_
 have hM:∀ z,¬ (aT [(b1,0),(b2,0)] ([SO.look [],SO.look []].map fun o=>(o,false))) z:=fun z=>a6 (os:=[SO.look [],SO.look []])
 have hK0:=Kept.start (H0:=W.hp) (M:=aT [(b1,0),(b2,0)] ([SO.look [],SO.look []].map fun o=>(o,false))) (w:=W) (Hp.Sub.refl _) (fun z o _=>hM z) (dh (by
  intro j o' m b' c' q1 q2
  rw [List.getElem?_map] at q1
  obtain ⟨o2,q3,q4⟩:=Option.map_eq_some_iff.1 q1
  cases q4
  exact ho j o' b' c' q3 q2)) (fun _ h=>h)
 have hq0:aE [(b1,0),(b2,0)] 0=some (b1,0):=rfl
 have hq1:aE [(b1,0),(b2,0)] 1=some (b2,0):=rfl
 generalize aE [(b1,0),(b2,0)]=ν at hq0 hq1 ⊢
 obtain ⟨n1,s1⟩:=vq h1 (pd z1 z2)
 obtain ⟨n2,s2⟩:=vq h2 (pd z1 z2)
 refine CX hX hM hn h1 h2 h1 hq0 hq1 hq0 hK0 (by rw [O0 ()];trivial) (by kernel_rfl) (by kernel_rfl) (by kernel_rfl) (fun l n=>by rw [QC];simp [ak]) (by rw [QN ()];simp [ak]) (fun L1 hL1 hne1 H2 M2 w2 hk2=>?_) (fun hL1 H2 M2 w2 hk2=>?_)
 ·show af jh M2 w2 cs0 _ _ ν (Ji L1 L1.length)
  rw [← hL1] at n1 s1
  refine CX hX hM hn h1 h2 h2 hq0 hq1 hq1 hk2 (by rw [Ra];trivial) (by kernel_rfl) (by kernel_rfl) (by kernel_rfl) (fun l n=>by rw [Px];trivial) (by rw [PO];trivial) (fun L2 hL2 hne2 H3 M3 w3 hk3=>?_) (fun hL2 H3 M3 w3 hk3=>?_)
  ·show af jh M3 w3 cs0 _ _ ν (KQ L1 L2 L1.length L2.length)
   rw [← hL2] at n2 s2
   have hout:lr z1 z2 E1 E2=eh (bu (L1++L2)):=by unfold lr;rw [← hL1,← hL2]
   have hK:L1++L2≠[]:=by simp [hne1]
   have hsm:gi (L1++L2):=⟨hK,by rw [List.length_append];omega,fun s hs=>(List.mem_append.1 hs).elim (s1 s) (s2 s)⟩
   have hss:=mK hsm
   have hsl:=(bB (L1++L2)).length_eq
   rw [List.length_append] at hsl
   have hl2:L2.length≠0:=fun e=>hne2 (List.length_eq_zero_iff.1 e)
   have hap:strs L1++strs L2=strs (L1++L2):=by unfold strs;rw [List.map_append,List.map_append]
   rw [hout]
   refine mM (Hy hM hk3.base hX) hM hk3 (ru hK) (m:=200) (o:=[(0,.app (strs L1) (strs L2))]) (j:=6) (T:=List.replicate (L1.length+L2.length - (eh (bu (L1++L2))).length) (⟨#[]⟩:ByteArray)) ⟨?_⟩
   rw [QI]
   simp only [ak,hap,bS,au,aD,y6,hsl,List.length_append,and_self,and_true,true_and]
   repeat' apply And.intro
   all_goals first | rfl | assumption | exact hsm.2.1 | exact hsm.2.2 | exact hss.1 | exact hss.2.1 | exact hss.2.2 | exact hl2 | omega | exact List.take_of_length_le (by simp [aD]) | skip
  ·show af jh M3 w3 cs0 _ _ ν (J7 L1 L1.length)
   have hout:lr z1 z2 E1 E2=eh (bu L1):=by unfold lr;rw [← hL1,hL2,List.append_nil]
   have hsm:gi L1:=⟨hne1,by omega,s1⟩
   have hss:=mK hsm
   have hsl:=(bB L1).length_eq
   rw [hout]
   refine mM (Hy hM hk3.base hX) hM hk3 (ru hne1) (m:=200) (o:=oT) (j:=4) (T:=List.replicate (L1.length - (eh (bu L1)).length) (⟨#[]⟩:ByteArray)) ⟨?_⟩
   rw [Q2]
   simp only [ak,bS,au,aD,hsl,and_self,and_true,true_and]
   repeat' apply And.intro
   all_goals first | rfl | assumption | exact hsm.2.1 | exact hsm.2.2 | exact hss.1 | exact hss.2.1 | exact hss.2.2 | omega | skip
 ·show af jh M2 w2 cs0 _ _ ν Jh
  refine CX hX hM hn h1 h2 h2 hq0 hq1 hq1 hk2 (by rw [RC ()];trivial) (by kernel_rfl) (by kernel_rfl) (by kernel_rfl) (fun l n=>by rw [RA];trivial) (by rw [Rg ()];trivial) (fun L2 hL2 hne2 H3 M3 w3 hk3=>?_) (fun hL2 H3 M3 w3 hk3=>?_)
  ·show af jh M3 w3 cs0 _ _ ν (Kf L2 L2.length)
   rw [← hL2] at n2 s2
   have hout:lr z1 z2 E1 E2=eh (bu L2):=by unfold lr;rw [hL1,← hL2];rfl
   have hsm:gi L2:=⟨hne2,by omega,s2⟩
   have hss:=mK hsm
   have hsl:=(bB L2).length_eq
   have hl2:L2.length≠0:=fun e=>hne2 (List.length_eq_zero_iff.1 e)
   rw [hout]
   refine mM (Hy hM hk3.base hX) hM hk3 (ru hne2) (m:=200) (o:=[(0,.app [] (strs L2))]) (j:=5) (T:=List.replicate (L2.length - (eh (bu L2)).length) (⟨#[]⟩:ByteArray)) ⟨?_⟩
   rw [PH]
   simp only [ak,List.nil_append,bS,au,aD,hsl,and_self,and_true,true_and]
   repeat' apply And.intro
   all_goals first | rfl | assumption | exact hsm.2.1 | exact hsm.2.2 | exact hss.1 | exact hss.2.1 | exact hss.2.2 | exact hl2 | omega | exact List.take_of_length_le (by simp [aD]) | skip
  ·show af jh M3 w3 cs0 _ _ ν K3
   have hout:lr z1 z2 E1 E2=[]:=by
    unfold lr;rw [hL1,hL2]
    rw [List.append_nil,show bu []=[] from List.length_eq_zero_iff.1 (bB []).length_eq];rfl
   rw [hout]
   refine af.ax (Hy hM hk3.base hX) (n:=200) (o:=oT) (v:=.slice none 0 0) ?_ fun ν'' M4 w4 s4 w5 _ hB4 hr4=>⟨aI hM (hk3.base.trans hB4) hr4,_,rfl,.inl ⟨rfl,rfl⟩⟩
   rw [PE]
   simp only [ak,and_self,and_true,true_and]
def IS:SV:=.func (.func 35) [] [.ptr 1 0]
def qp (p:ByteArray):Option (SO × Bool):=some (.row [.v (.string p)] 9 (0,0) none,false)
noncomputable def El (l:List SV) (off n c:Nat) (p:ByteArray):SM:=(bC aL 53 [.sl 0 off n (some c),IS] (bO 6 2 0 [cD l,qp p])).getD dC
noncomputable def Is:List SI:=dn aL 2 60 (El [] 0 0 0 ⟨#[]⟩) [(1000,.b true)]
noncomputable def si (off n c:Nat) (i:Int):SF:={ fn:=53,tm:=eO 19 6 ([.sl 0 off n (some c),IS,.aJ,.aJ,.aJ,.aJ,.aJ,.v (.int .i64 n),.v (.int .i64 i)]++List.replicate 10 .aJ),todo:=Is,defers:=[],ret:=false,kind:=.normal,ro:=none }
theorem RD (l:List SV) (off n c:Nat) (p:ByteArray) (i i':Int) (x:bU) (v:Value):reach aL 2 60 (El l off n c p) (ff [0,1,2,3,4,5,6,7] false++[(1000,.b true)]) [(0,0),(1,1)] [0] (si off n c 0) 6 [cD l,qp p]=[off=off∧n=n∧some c=some c,Fn.func 35=Fn.func 35,0=0,vZ (↑n:Int)=vZ (↑n:Int),vZ 0=vZ 0,l=l,l.all ab=true,Value.string p=Value.string p]:=by kernel_rfl
theorem Rl (l:List SV) (off n c:Nat) (p:ByteArray) (i i':Int) (x:bU) (v:Value):ax aL 53 60 (SM.at (si off n c i) 6 [cD l,qp p]) (ff [0,1] false++[(1000,.b true)]) v=[vZ (-1:Int)=v,decide (i<(↑n:Int))=false]:=by kernel_rfl
theorem Rk (l:List SV) (off n c:Nat) (p:ByteArray) (i i':Int) (x:bU) (v:Value):reach aL 2 100 (SM.at (si off n c i) 6 [cD l,qp p]) ([(2,.cells (oC x))]++ff [0] true++ff [1,3,4,5,6,7,8,9,10,11,12,13,14,15,16,17,18,19] false++[(1000,.b true)]) [(0,0),(1,1)] [0] (si off n c i') 6 [cD l,qp p]=[off=off∧n=n∧some c=some c,Fn.func 35=Fn.func 35,0=0,vZ (↑n:Int)=vZ (↑n:Int),vZ (IntKind.i64.wrap (i+1))=vZ i',l=l,l.all ab=true,Value.string p=Value.string p,false=false,(x.1.toList==p.toList)=false,(x.1.toList==p.toList)=false,(x.1.toList==p.toList)=false,(x.1.toList==p.toList)=false,(x.1.toList==p.toList)=false,(x.1.toList==p.toList)=false,(x.1.toList==p.toList)=false,(x.1.toList==p.toList)=false,List.take 3 (List.drop (off+i.toNat*3) l)=oC x∧(oC x).length=3,ao i n=true,decide (i<(↑n:Int))=true]:=by kernel_rfl
theorem Qj (l:List SV) (off n c:Nat) (p:ByteArray) (i i':Int) (x:bU) (v:Value):ax aL 53 100 (SM.at (si off n c i) 6 [cD l,qp p]) ([(2,.cells (oC x))]++ff [0,3,4,5,6,7,8,9,10,11,12,13,14,15,16,17,18,19] true++ff [1,20] false++[(1000,.b true)]) v=[vZ i=v,true=true,(x.1.toList==p.toList)=true,true=true,(x.1.toList==p.toList)=true,true=true,true=true,true=true,(x.1.toList==p.toList)=true,(x.2==4)=true,(x.1.toList==p.toList)=true,(x.2==4)=true,(x.2==4)=true,(x.2==4)=true,(x.1.toList==p.toList)=true,(x.1.toList==p.toList)=true,(x.1.toList==p.toList)=true,(x.1.toList==p.toList)=true,List.take 3 (List.drop (off+i.toNat*3) l)=oC x∧(oC x).length=3,ao i n=true,decide (i<(↑n:Int))=true]:=by kernel_rfl
theorem Pj (l:List SV) (off n c:Nat) (p:ByteArray) (i i':Int) (x:bU) (v:Value):ax aL 53 100 (SM.at (si off n c i) 6 [cD l,qp p]) ([(2,.cells (oC x))]++ff [0,3,4,5,6,10,12,13,14,15,16,17,18,19] true++ff [1,7,8,9,11,20] false++[(1000,.b true)]) v=[vZ i=v,true=true,(x.1.toList==p.toList)=true,(x.2==5)=true,(x.1.toList==p.toList)=true,(x.2==5)=true,(x.2==5)=true,(x.2==5)=true,(x.1.toList==p.toList)=true,(x.2==4)=false,(x.1.toList==p.toList)=true,(x.2==4)=false,(x.2==4)=false,(x.2==4)=false,(x.1.toList==p.toList)=true,(x.1.toList==p.toList)=true,(x.1.toList==p.toList)=true,(x.1.toList==p.toList)=true,List.take 3 (List.drop (off+i.toNat*3) l)=oC x∧(oC x).length=3,ao i n=true,decide (i<(↑n:Int))=true]:=by kernel_rfl
theorem Qd (l:List SV) (off n c:Nat) (p:ByteArray) (i i':Int) (x:bU) (v:Value):ax aL 53 100 (SM.at (si off n c i) 6 [cD l,qp p]) ([(2,.cells (oC x))]++ff [0,3,4,5,6,10,12,16,18,19] true++ff [1,7,8,9,11,13,14,15,17,20] false++[(1000,.b true)]) v=[vZ i=v,(x.2==6)=true,(x.1.toList==p.toList)=true,(x.2==5)=false,(x.1.toList==p.toList)=true,(x.2==5)=false,(x.2==5)=false,(x.2==5)=false,(x.1.toList==p.toList)=true,(x.2==4)=false,(x.1.toList==p.toList)=true,(x.2==4)=false,(x.2==4)=false,(x.2==4)=false,(x.1.toList==p.toList)=true,(x.1.toList==p.toList)=true,(x.1.toList==p.toList)=true,(x.1.toList==p.toList)=true,List.take 3 (List.drop (off+i.toNat*3) l)=oC x∧(oC x).length=3,ao i n=true,decide (i<(↑n:Int))=true]:=by kernel_rfl
theorem Qx (l:List SV) (off n c:Nat) (p:ByteArray) (i i':Int) (x:bU) (v:Value):reach aL 2 100 (SM.at (si off n c i) 6 [cD l,qp p]) ([(2,.cells (oC x))]++ff [0,3,4,5,6,10,12,16,18] true++ff [1,7,8,9,11,13,14,15,17,19,20,21,22,23,24,25,26,27] false++[(1000,.b true)]) [(0,0),(1,1)] [0] (si off n c i') 6 [cD l,qp p]=[off=off∧n=n∧some c=some c,Fn.func 35=Fn.func 35,0=0,vZ (↑n:Int)=vZ (↑n:Int),vZ (IntKind.i64.wrap (i+1))=vZ i',l=l,l.all ab=true,Value.string p=Value.string p,(x.2==6)=false,(x.1.toList==p.toList)=true,(x.2==5)=false,(x.1.toList==p.toList)=true,(x.2==5)=false,(x.2==5)=false,(x.2==5)=false,(x.1.toList==p.toList)=true,(x.2==4)=false,(x.1.toList==p.toList)=true,(x.2==4)=false,(x.2==4)=false,(x.2==4)=false,(x.1.toList==p.toList)=true,(x.1.toList==p.toList)=true,(x.1.toList==p.toList)=true,(x.1.toList==p.toList)=true,List.take 3 (List.drop (off+i.toNat*3) l)=oC x∧(oC x).length=3,ao i n=true,decide (i<(↑n:Int))=true]:=by kernel_rfl
def cL (p:ByteArray) (x:bU):Bool:=(x.p.toList==p.toList)&&((x.k==4)||(x.k==5)||(x.k==6))
def Ah (p:ByteArray):List bU→Nat→Int
 | [],_=>-1
 | x::D,i=>if cL p x then (i:Int) else Ah p D (i+1)
theorem wy (p:ByteArray):∀ (D:List bU) (i:Nat),(decide (Ah p D i≥0))=D.any (cL p)
 | [],i=>rfl
 | x::D,i=>by
  unfold Ah
  rw [List.any_cons]
  cases h:cL p x
  ·rw [if_neg (by decide),Bool.false_or];exact wy p D (i+1)
  ·rw [if_pos rfl,Bool.true_or];exact decide_eq_true (by omega)
theorem LA {p:ByteArray} {x:bU} (h:(x.p.toList==p.toList)=false):cL p x=false:=by unfold cL;rw [h];rfl
def KU (l:List SV):bU:=match l with
 | [.v (.string p),.v (.int _ k),.v (.int _ e)]=>⟨p,k,e⟩
 | _=>⟨⟨#[]⟩,0,0⟩
theorem FP (e:bU):KU (oC e)=e:=rfl
def j9 (off:Nat) (ys:List SV) (n:Nat):List bU:=z6 KU 3 n (ys.drop off)
theorem BD (off:Nat) (D:List bU):j9 off (ar oC off D) D.length=D:=by
 unfold j9 ar
 rw [List.drop_left' (by simp)]
 exact l5 c8 FP D
section
variable {W:World} {cs0:List Frame} {M:Own} {ν:aU} {D:List bU} {off c:Nat} {p:ByteArray}
theorem De (hM:∀ z,¬ M z) (hν:∀ i b,ν i=some b→i=0∨i=1) (few:D.length≤1000):∀ (j i:Nat),i+j=D.length→
  af aL M W cs0 53 (fun e w'=>Below W.heap.size W w'∧e=.returned (.int .i64 (Ah p (D.drop i) i))) ν (SM.at (si off D.length c (i:Int)) 6 [cD (ar oC off D),qp p])
 | 0,i,hj=>by
  rw [List.drop_eq_nil_of_le (by omega)]
  refine af.ax de (n:=60) (o:=(ff [0,1] false++[(1000,.b true)])) (v:=.int .i64 (-1)) ?_ fun ν' M1 w1 s' w' _ hB hr=>⟨aI hM hB hr,rfl⟩
  rw [Rl (i':=0) (x:=⟨⟨#[]⟩,0,0⟩)]
  simp only [ak,decide_eq_false (show ¬ (i:Int)<(D.length:Int) by omega),and_self,and_true,true_and]
 | j+1,i,hj=>by
  have hi:i<D.length:=by omega
  have nx:=De hM hν few j (i+1) (by omega)
  generalize hx:D[i]=x
  have hxi:D[i]?=some x:=by rw [← hx];exact List.getElem?_eq_getElem hi
  have t1:decide ((i:Int)<(D.length:Int))=true:=decide_eq_true (by omega)
  have r1:=aO hi
  have ws:=aM (k:=i) (by omega)
  have ra:=fM (off:=off) c8 hxi
  have hcl:(ar oC off D).all ab=true:=bw dK
  have hd:D.drop i=x::D.drop (i+1):=by rw [List.drop_eq_getElem_cons hi,hx]
  rw [hd]
  unfold Ah
  by_cases h1:(x.p.toList==p.toList)=true
  ·have h1':(x.1.toList==p.toList)=true:=h1
   by_cases h4:x.k=4
   ·have e:cL p x=true:=by unfold cL;rw [h1,h4];rfl
    have q4:(x.2==(4:Int))=true:=by rw [show x.2=4 from h4];rfl
    rw [if_pos e]
    refine af.ax de (n:=100) (o:=([(2,.cells (oC x))]++ff [0,3,4,5,6,7,8,9,10,11,12,13,14,15,16,17,18,19] true++ff [1,20] false++[(1000,.b true)])) (v:=.int .i64 i) ?_ fun ν' M1 w1 s' w' _ hB hr=>⟨aI hM hB hr,rfl⟩
    rw [Qj (i':=0)]
    simp only [ak,t1,r1,ra,h1',q4,c8,Int.toNat_natCast,and_self,and_true,true_and]
   ·have q4:(x.2==(4:Int))=false:=by simpa using h4
    by_cases h5:x.k=5
    ·have e:cL p x=true:=by unfold cL;rw [h1,h5];rfl
     have q5:(x.2==(5:Int))=true:=by rw [show x.2=5 from h5];rfl
     rw [if_pos e]
     refine af.ax de (n:=100) (o:=([(2,.cells (oC x))]++ff [0,3,4,5,6,10,12,13,14,15,16,17,18,19] true++ff [1,7,8,9,11,20] false++[(1000,.b true)])) (v:=.int .i64 i) ?_ fun ν' M1 w1 s' w' _ hB hr=>⟨aI hM hB hr,rfl⟩
     rw [Pj (i':=0)]
     simp only [ak,t1,r1,ra,h1',q4,q5,c8,Int.toNat_natCast,and_self,and_true,true_and]
    ·have q5:(x.2==(5:Int))=false:=by simpa using h5
     by_cases h6:x.k=6
     ·have e:cL p x=true:=by unfold cL;rw [h1,h6];rfl
      have q6:(x.2==(6:Int))=true:=by rw [show x.2=6 from h6];rfl
      rw [if_pos e]
      refine af.ax de (n:=100) (o:=([(2,.cells (oC x))]++ff [0,3,4,5,6,10,12,16,18,19] true++ff [1,7,8,9,11,13,14,15,17,20] false++[(1000,.b true)])) (v:=.int .i64 i) ?_ fun ν' M1 w1 s' w' _ hB hr=>⟨aI hM hB hr,rfl⟩
      rw [Qd (i':=0)]
      simp only [ak,t1,r1,ra,h1',q4,q5,q6,c8,Int.toNat_natCast,and_self,and_true,true_and]
     ·have q6:(x.2==(6:Int))=false:=by simpa using h6
      have e:cL p x=false:=by
       unfold cL
       rw [h1,show (x.k==4)=false from q4,show (x.k==5)=false from q5,show (x.k==6)=false from q6];rfl
      rw [if_neg (by rw [e];decide)]
      refine af.reach de (k:=2) (n:=100) (o:=([(2,.cells (oC x))]++ff [0,3,4,5,6,10,12,16,18] true++ff [1,7,8,9,11,13,14,15,17,19,20,21,22,23,24,25,26,27] false++[(1000,.b true)])) (ren:=[(0,0),(1,1)]) (eqs:=[0]) ?_ (by kernel_rfl) (fun i b h=>by rcases hν i b h with h | h <;> rw [h] <;> rfl) nx
      rw [Qx (v:=.int .i64 0)]
      simp only [ak,t1,r1,ra,ws,hcl,h1',q4,q5,q6,c8,Int.toNat_natCast,and_self,and_true,true_and]
      try (repeat' apply And.intro)
      all_goals first | rfl | skip
  ·have h1':(x.1.toList==p.toList)=false:=by simpa using h1
   rw [if_neg (by rw [LA h1'];decide)]
   refine af.reach de (k:=2) (n:=100) (o:=([(2,.cells (oC x))]++ff [0] true++ff [1,3,4,5,6,7,8,9,10,11,12,13,14,15,16,17,18,19] false++[(1000,.b true)])) (ren:=[(0,0),(1,1)]) (eqs:=[0]) ?_ (by kernel_rfl) (fun i b h=>by rcases hν i b h with h | h <;> rw [h] <;> rfl) nx
   rw [Rk (v:=.int .i64 0)]
   simp only [ak,t1,r1,ra,ws,hcl,h1',c8,Int.toNat_natCast,and_self,and_true,true_and]
   try (repeat' apply And.intro)
   all_goals first | rfl | skip
end
theorem xR {ν ν':aU} {i j:Nat} {ys:List SV} {ob:Obj} (hy:ys.all ab=true) (h:OR ν i (.look ys) ob):OR ν' j (.look ys) ob:=by
 obtain ⟨zs,c,e,fz,rfl,hz,hx⟩:=h
 exact ⟨zs,c,e,fz,rfl,gd hy hz,hx⟩
theorem zq {ν ν':aU} {i j:Nat} {p:ByteArray} {ob:Obj} (h:OR ν i (.row [.v (.string p)] 9 (0,0) none) ob):OR ν' j (.row [.v (.string p)] 9 (0,0) none) ob:=by
 obtain ⟨zs,rest,rfl,hz,r⟩:=h
 exact ⟨zs,rest,rfl,gd rfl hz,r⟩
noncomputable def Hb (a:Option Addr) (c:Nat) (f:Value):SM:=(bC aL 53 [.v (.slice a 0 c),.v f] (bO 6 0 0 [])).getD dC
theorem OY (a:Option Addr) (c:Nat) (f v:Value):ax aL 53 60 (Hb a c f) ([(1000,.b true)]++ff [0] false) v=[vZ (-1:Int)=v,false=false]:=by kernel_rfl
def I3:Co:=fun args sh=>match args with
 | [.sl j off n (some c),.func (.func f) [] [.ptr i 0]]=>match sh.look j,sh.look i with
  | some (.look ys,_),some (.row [.v (.string p)] e z none,_)=>some (.int .i64 (Ah p (j9 off ys n) 0),f=35∧ys=ar oC off (j9 off ys n)∧n=(j9 off ys n).length∧n≤1000∧e=9∧z=(0,0))
  | _,_=>none
 | [.v (.slice a n c),.func (.func f) [] [.ptr i 0]]=>some (.int .i64 (-1),n=0)
 | _=>none
theorem IK {X:World→Prop}:cr Try.prog X (53,eE I3):=by
 refine fP ⟨_,Try.func53,by kernel_rfl,by kernel_rfl⟩ fun args sh v q h hq ν M w0 w a hr hX ha=>?_
 unfold I3 at h
 split at h
 ·rename_i j off n c f i
  split at h
  ·rename_i ys mk p e z uP hl1 hl2
   cases h
   obtain ⟨rfl,hys,hn,few,rfl,rfl⟩:=hq
   generalize j9 off ys n=D at hys hn
   subst hys hn
   obtain ⟨y1,as1,rfl,q1,ha2⟩:=ha.cons_inv
   obtain ⟨y2,as2,rfl,q2,ha3⟩:=ha2.cons_inv
   obtain rfl:=ha3.aB
   obtain ⟨bj,hbj,hle,rfl⟩:=VR.aQ.1 q1
   obtain ⟨fa,fb,rfl,s1,s2⟩:=VR.cX.1 q2
   obtain rfl:=s1.aB
   obtain ⟨p1,fb1,rfl,t1,s3⟩:=s2.cons_inv
   obtain rfl:=s3.aB
   obtain ⟨bi,hbi,rfl⟩:=VR.aC.1 t1
   obtain ⟨hi1,hg1,b1,o1,hb1,ho1,hor1,_⟩:=hr.look hl1
   rw [hbj] at hb1;cases hb1
   obtain ⟨hi2,hg2,b2,o2,hb2,ho2,hor2,_⟩:=hr.look hl2
   rw [hbi] at hb2;cases hb2
   have hji:j≠i:=by
    rintro rfl
    rw [hl1] at hl2;cases hl2
   have hne:bj.1≠bi.1:=fun e=>hji (hr.inj j i hi1 hi2 (by rw [hg1];simp) (by rw [hg2];simp) bj bi hbj hbi e)
   have hcl:(ar oC off D).all ab=true:=bw dK
   have ho:∀ (k:Nat) (o':SO) (b' c':Nat),[SO.look (ar oC off D),SO.row [.v (.string p)] 9 (0,0) none][k]?=some o'→[(bj.1,bj.2),(bi.1,bi.2)][k]?=some (b',c')→∃ r,w.heap[b']?=some r∧OR (aE [(bj.1,bj.2),(bi.1,bi.2)]) k o' r:=by
    intro k o' b' c' q1 q2
    match k with
    | 0=>
     simp only [List.getElem?_cons_zero,Option.some.injEq] at q1 q2
     subst q1
     cases q2
     exact ⟨_,ho1,xR hcl hor1⟩
    | 1=>
     simp only [List.getElem?_cons_succ,List.getElem?_cons_zero,Option.some.injEq] at q1 q2
     subst q1
     cases q2
     exact ⟨_,ho2,zq hor2⟩
    | k+2=>simp at q1
   refine aY (E:=aL) rfl (d:=6) (l:=[(bj.1,bj.2),(bi.1,bi.2)]) (os:=[.look (ar oC off D),.row [.v (.string p)] 9 (0,0) none]) rfl (by simp) (by simpa using hne) ho rfl (args:=[.sl 0 off D.length (some c),IS]) (S0:=El (ar oC off D) off D.length c p) (by kernel_rfl) (ay.cons (VR.aQ.2 ⟨_,rfl,hle,rfl⟩) (ay.cons (VR.cX.2 ⟨[],_,rfl,ay.nil,ay.cons (VR.aC.2 ⟨_,rfl,rfl⟩) ay.nil⟩) ay.nil)) fun cs0=>?_
   have hM:∀ z,¬ (aT [(bj.1,bj.2),(bi.1,bi.2)] ([SO.look (ar oC off D),SO.row [.v (.string p)] 9 (0,0) none].map fun o=>(o,false))) z:=fun z=>a6 (os:=[_,_])
   have hν:∀ i b,aE [(bj.1,bj.2),(bi.1,bi.2)] i=some b→i=0∨i=1:=fun i b h=>by
    match i with
    | 0=>exact .inl rfl
    | 1=>exact .inr rfl
    | i+2=>simp [aE] at h
   have nx:=De (W:=w) (cs0:=cs0) (c:=c) (off:=off) (p:=p) hM hν few D.length 0 (by omega)
   refine af.reach de (k:=2) (n:=60) (o:=(ff [0,1,2,3,4,5,6,7] false++[(1000,.b true)])) (ren:=[(0,0),(1,1)]) (eqs:=[0]) (F:=si off D.length c 0) (d:=6) (l:=[cD (ar oC off D),qp p]) ?_ (by kernel_rfl) (fun i b h=>by rcases hν i b h with h | h <;> rw [h] <;> rfl) nx
   rw [RD (i:=0) (i':=0) (x:=⟨⟨#[]⟩,0,0⟩) (v:=.int .i64 0)]
   simp only [ak,hcl,and_self,and_true,true_and]
   try (repeat' apply And.intro)
   all_goals first | rfl | skip
  ·cases h
 ·rename_i a' n c f i
  cases h
  obtain rfl:=hq
  obtain ⟨y1,as1,rfl,q1,ha2⟩:=ha.cons_inv
  obtain ⟨y2,as2,rfl,q2,ha3⟩:=ha2.cons_inv
  obtain rfl:=ha3.aB
  obtain rfl:=VR.ah.1 q1
  refine cp (E:=aL) rfl rfl (args:=[.v (.slice a' 0 c),.v y2]) (S0:=Hb a' c y2) (by kernel_rfl) (ay.cons (VR.ah.2 rfl) (ay.cons (VR.ah.2 rfl) ay.nil)) fun cs0=>?_
  refine af.ax de (n:=60) (o:=[(1000,.b true)]++ff [0] false) (v:=.int .i64 (-1)) ?_ fun ν' M1 w1 s' w' _ hB hr=>⟨aI bo hB hr,rfl⟩
  rw [OY]
  simp only [ak,and_self,and_true,true_and]
 ·cases h
def NA:List (FuncId × Sum):=[(53,eE I3)]
noncomputable def Im:Env:={ EP [] [] with sums:=fun f=>NA.lookup f }
def p7 (v:SV):SO:=.row [v] 23 (0,0) none
noncomputable def G4 (l:List SV) (off n c:Nat) (q:ByteArray):SM:=(bC Im 18 [.v (.string q),.ptr 0 0] (bO 6 2 0 [some (p7 (.sl 1 off n (some c)),false),cD l])).getD dC
noncomputable def Hc (a:Option Addr) (n c:Nat) (q:ByteArray):SM:=(bC Im 18 [.v (.string q),.ptr 0 0] (bO 6 1 0 [some (p7 (.v (.slice a n c)),false)])).getD dC
theorem OZ (l:List SV) (off n c:Nat) (q:ByteArray) (v:Value):ax Im 18 100 (G4 l off n c q) (ff [1000] true) v=[(Value.bool !decide (Ah q (j9 off l n) 0≥0))=v,35=35∧l=ar oC off (j9 off l n)∧n=(j9 off l n).length∧n≤1000∧9=9∧(0,0)=(0,0)]:=by kernel_rfl
theorem Ox (a:Option Addr) (n c:Nat) (q:ByteArray) (v:Value):ax Im 18 100 (Hc a n c q) (ff [1000] true) v=[Value.bool true=v,n=0]:=by kernel_rfl
end paths
end Go.Proofs.Ytbjmmnegkpeboaa
set_option linter.unusedSimpArgs false
set_option linter.unusedVariables false
set_option maxRecDepth 100000
namespace Go.Proofs.Ytbjmmnegkpeboaa
open Go Go.Rx Go.RowKit Go.Proofs
namespace paths
namespace rp
def It:SV:=.func (.func 18) [] [.ptr 1 0]
noncomputable def CL (l:List SV) (n c:Nat):SM:=(bC aL 17 [.v (.int .i64 1),It,.sl 0 0 n (some c)] (bO 6 2 0 [cD l,cD []])).getD dC
noncomputable def Ij:List SI:=dn aL 2 60 (CL [] 0 0) [(1000,.b true)]
noncomputable def me (n c:Nat) (x:SV) (i:Int):SF:={ fn:=17,tm:=eO 26 6 ([.v (.int .i64 1),It,.aJ,.aJ,.aJ,.aJ,x,.aJ,.aJ,.sl 0 0 n (some c),.v (.int .i64 n),.v (.int .i64 i)]++List.replicate 14 .aJ),todo:=Ij,defers:=[],ret:=false,kind:=.normal,ro:=none }
def Er (l:List SV):Option (SO × Bool):=some (.row l 48 (0,0) (some 2),true)
def pY (l:List SV):List (Option (SO × Bool)):=[cD l,cD []]
def p6 (l m:List SV):List (Option (SO × Bool)):=[cD l,cD [],Er m]
def fS (q:ByteArray):List SV:=[.v (.int .i64 1),.v (.string q)]
noncomputable def Fi (l:List SV) (n c:Nat) (i:Int) (q:ByteArray) (d:Bool):SM:=bq aL 18 60 (SM.at (me n c aK i) 6 (pY l)) (ff [0] true++[(2,.cells [.v (.string q)])]) (.v (.bool d))
noncomputable def FH (l m:List SV) (n c k:Nat) (i:Int) (q:ByteArray) (d:Bool):SM:=bq aL 18 60 (SM.at (me n c (.sl 2 0 k none) i) 6 (p6 l m)) (ff [0] true++[(2,.cells [.v (.string q)])]) (.v (.bool d))
theorem Ps (l:List SV) (n c:Nat):reach aL 2 60 (CL l n c) [(1000,.b true)] [(0,0),(1,1)] [0] (me n c aK 0) 6 (pY l)=[vZ 1=vZ 1,Fn.func 18=Fn.func 18,0=0,Value.slice none 0 0=Value.slice none 0 0,0=0∧n=n∧some c=some c,vZ (↑n:Int)=vZ (↑n:Int),vZ 0=vZ 0,l=l,l.all ab=true]:=by kernel_rfl
theorem MP (l:List SV) (n c:Nat) (i:Int) (q:ByteArray):bI aL 18 60 (SM.at (me n c aK i) 6 (pY l)) (ff [0] true++[(2,.cells [.v (.string q)])])=[l[0+i.toNat*1]?=some (SV.v (Value.string q)),ao i n=true,decide (i<(↑n:Int))=true]:=by kernel_rfl
theorem MZ (l:List SV) (n c:Nat) (i:Int) (q:ByteArray) (d:Bool):bE aL 18 60 (SM.at (me n c aK i) 6 (pY l)) (ff [0] true++[(2,.cells [.v (.string q)])]) (.v (.bool d))=[l[0+i.toNat*1]?=some (SV.v (Value.string q)),ao i n=true,decide (i<(↑n:Int))=true]:=by kernel_rfl
theorem Mf (l:List SV) (n c:Nat) (i i':Int) (q:ByteArray):reach aL 2 60 (Fi l n c i q false) (ff [0] false) [(0,0),(1,1)] [0] (me n c aK i') 6 (pY l)=[vZ 1=vZ 1,Fn.func 18=Fn.func 18,0=0,Value.slice none 0 0=Value.slice none 0 0,0=0∧n=n∧some c=some c,vZ (↑n:Int)=vZ (↑n:Int),vZ (IntKind.i64.wrap (i+1))=vZ i',l=l,l.all ab=true,false=false]:=by kernel_rfl
theorem Nx (l l':List SV) (n c:Nat) (i i':Int) (q:ByteArray):reach aL 2 60 (Fi l n c i q true) (ff [0] true++ff [1] false) [(0,0),(1,1),(2,3)] [0,2] (me n c (.sl 2 0 1 none) i') 6 (p6 l l')=[vZ 1=vZ 1,Fn.func 18=Fn.func 18,0=0,0=0∧1=1∧nZ=none,0=0∧n=n∧some c=some c,vZ (↑n:Int)=vZ (↑n:Int),vZ (IntKind.i64.wrap (i+1))=vZ i',l=l,l.all ab=true,[]++List.take 2 (List.drop 0 (aX (List.replicate 1 (List.map SV.v [vZ 0,Value.string ⟨⟨[]⟩⟩])).flatten 0 (aX (aX (List.map SV.v [vZ 0,Value.string ⟨⟨[]⟩⟩]) 0 [SV.v (vZ 1)]) 1 [SV.v (Value.string q)])))=l',l'.all ab=true,false=false,true=true]:=by kernel_rfl
theorem Mv (l m:List SV) (n c k:Nat) (i:Int) (q:ByteArray):bI aL 18 60 (SM.at (me n c (.sl 2 0 k none) i) 6 (p6 l m)) (ff [0] true++[(2,.cells [.v (.string q)])])=[l[0+i.toNat*1]?=some (SV.v (Value.string q)),ao i n=true,decide (i<(↑n:Int))=true]:=by kernel_rfl
theorem Mt (l m:List SV) (n c k:Nat) (i:Int) (q:ByteArray) (d:Bool):bE aL 18 60 (SM.at (me n c (.sl 2 0 k none) i) 6 (p6 l m)) (ff [0] true++[(2,.cells [.v (.string q)])]) (.v (.bool d))=[l[0+i.toNat*1]?=some (SV.v (Value.string q)),ao i n=true,decide (i<(↑n:Int))=true]:=by kernel_rfl
theorem Nk (l m:List SV) (n c k:Nat) (i i':Int) (q:ByteArray):reach aL 2 60 (FH l m n c k i q false) (ff [0] false) [(0,0),(1,1),(2,2)] [0,2] (me n c (.sl 2 0 k none) i') 6 (p6 l m)=[vZ 1=vZ 1,Fn.func 18=Fn.func 18,0=0,0=0∧k=k∧nZ=none,0=0∧n=n∧some c=some c,vZ (↑n:Int)=vZ (↑n:Int),vZ (IntKind.i64.wrap (i+1))=vZ i',l=l,l.all ab=true,m=m,m.all ab=true,false=false]:=by kernel_rfl
theorem NI (l m w l':List SV) (n c k:Nat) (i i':Int) (q:ByteArray):reach aL 2 60 (FH l m n c k i q true) [(0,.b true),(1,.app m w)] [(0,0),(1,1),(2,4)] [0,2] (me n c (.sl 2 0 (k+1) none) i') 6 (p6 l l')=[vZ 1=vZ 1,Fn.func 18=Fn.func 18,0=0,0=0∧k+1=k+1∧nZ=none,0=0∧n=n∧some c=some c,vZ (↑n:Int)=vZ (↑n:Int),vZ (IntKind.i64.wrap (i+1))=vZ i',l=l,l.all ab=true,m++w=l',l'.all ab=true,((List.take 2 (List.drop 0 (aX (List.replicate 1 (List.map SV.v [vZ 0,Value.string ⟨⟨[]⟩⟩])).flatten 0 (aX (aX (List.map SV.v [vZ 0,Value.string ⟨⟨[]⟩⟩]) 0 [SV.v (vZ 1)]) 1 [SV.v (Value.string q)])))=w∧w.length=1*2)∧1≠0∧(2*(k+1)+1024)*24≤140737488355328)∧List.take (k*2) m=m∧m.length=k*2∧w.all SV.flat=true,true=true]:=by kernel_rfl
theorem Na (l:List SV) (n c:Nat) (i:Int) (v:Value):ax aL 17 60 (SM.at (me n c aK i) 6 (pY l)) (ff [0] false) v=[Value.slice none 0 0=v,decide (i<(↑n:Int))=false]:=by kernel_rfl
theorem MT (l m:List SV) (n c k:Nat) (i:Int):bR aL 17 60 (SM.at (me n c (.sl 2 0 k none) i) 6 (p6 l m)) (ff [0] false) (.sl 2 0 k none) 2 (.row m 48 (0,0) (some 2))=[0=0∧k=k∧nZ=none,m=m,m.all ab=true,decide (i<(↑n:Int))=false]:=by kernel_rfl
def bD (l:List ByteArray):List SV:=l.flatMap fS
def jR (l:List ByteArray):List Value:=l.flatMap fun q=>[.int .i64 1,.string q]
theorem pj (a b:List ByteArray):bD (a++b)=bD a++bD b:=by simp [bD]
theorem jL (q:ByteArray):bD [q]=fS q:=by simp [bD]
theorem bH:∀ a:List ByteArray,(bD a).length=a.length*2
 | []=>rfl
 | q::a=>by
  have:=bH a
  have e:bD (q::a)=fS q++bD a:=by simp [bD]
  rw [e,List.length_append,this,List.length_cons,show (fS q).length=2 from rfl];omega
theorem gI:∀ l:List ByteArray,(jR l).map SV.v=bD l
 | []=>rfl
 | q::l=>by
  have e:bD (q::l)=fS q++bD l:=by simp [bD]
  have e2:jR (q::l)=[.int .i64 1,.string q]++jR l:=by simp [jR]
  rw [e,e2,List.map_append,gI l];rfl
theorem bz (l:List ByteArray):(bD l).all ab=true:=by
 rw [← gI,List.all_eq_true];intro x hx
 obtain ⟨v,_,rfl⟩:=List.mem_map.1 hx
 rfl
theorem bY (l:List ByteArray):(bD l).all SV.flat=true:=by
 unfold bD
 rw [List.all_eq_true];intro x hx
 obtain ⟨q,_,hq⟩:=List.mem_flatMap.1 hx
 simp only [fS,List.mem_cons,List.not_mem_nil,or_false] at hq
 rcases hq with rfl | rfl <;> rfl
theorem pD {ν:aU} {l:List ByteArray} {zs:List Value} (h:ay ν (bD l) zs):zs=jR l:=by
 rw [← gI] at h
 exact eF h (ay.lits ν _)
def jr (w w':World) (l:List ByteArray) (v:Value):Prop:=(l=[]∧v=.slice none 0 0)∨(l≠[]∧cy w w' v (jR l) l.length 2 48)
def Md (w:World) (l:List ByteArray) (e:Ending) (w':World):Prop:=Below w.heap.size w w'∧∃ v,e=.returned v∧jr w w' l v
theorem dP {D:ByteArray→Bool} {L:List ByteArray} {i:Nat} (h:i<L.length):(L.take (i+1)).filter D=(L.take i).filter D++(if D L[i]=true then [L[i]] else []):=by
 rw [List.take_add_one,List.getElem?_eq_getElem h,List.filter_append]
 congr 1
 cases hd:D L[i] <;> simp [hd]
section
variable {W:World} {cs0:List Frame} {M:Own} {ν:aU} {x1:Nat} {D:ByteArray→Bool} {L:List ByteArray} {c:Nat}
def sm (W:World) (x1:Nat) (D:ByteArray→Bool):Prop:=∀ w,W.hp.Sub w.hp→∀ q,Calls Try.prog 18 #[.string q,bX x1] w fun e w'=>Below w.heap.size w w'∧e=.returned (.bool (D q))
theorem AG (hp:sm W x1 D) (hν1:ν 1=some (x1,0)) {S:SM} {q:ByteArray} {o:List (Nat × gX)} {H:Hp} {M1:Own} {w1:World} (hk:Kept W.hp M W H M1 w1) {R:Ending→World→Prop}
  (h1:ak (bI aL 18 60 S o)) (h2:er aL 18 60 S o=dm aL 18 [.v (.string q),.ptr 1 0] .normal) (h3:ak (bE aL 18 60 S o (.v (.bool (D q)))))
  (nx:∀ H' M2 w2,Kept W.hp M W H' M2 w2→af aL M2 w2 cs0 17 R ν (bq aL 18 60 S o (.v (.bool (D q))))):
  af aL M1 w1 cs0 17 R ν S:=by
 refine af.eH de hk (n:=60) (g:=18) (o:=o) (args:=[.v (.string q),.ptr 1 0]) h1 h2 fun ν' w a hle hsub hgr ha=>?_
 obtain ⟨y1,as1,rfl,q1,ha2⟩:=ha.cons_inv
 obtain ⟨y2,as2,rfl,q2,ha3⟩:=ha2.cons_inv
 obtain rfl:=ha3.aB
 obtain rfl:=VR.ah.1 q1
 obtain ⟨bb,hbb,rfl⟩:=VR.aC.1 q2
 have hbb:=hbb.symm.trans (hle 1 (x1,0) hν1)
 cases hbb
 exact (hp w (hk.sub0.trans hsub) q).mono fun e w' ⟨hB,he⟩=>⟨hB,_,he,fun M2 hK2=>⟨h3,nx _ M2 w' hK2⟩⟩
theorem wg (hM:∀ z,¬ M z) (hp:sm W x1 D) (hν1:ν 1=some (x1,0)) (hν:∀ i b,ν i=some b→i=0∨i=1) (few:L.length≤100000):
  ∀ (j i:Nat),i+j=L.length→∀ H M1 w1,Kept W.hp M W H M1 w1→(L.take i).filter D≠[]→
   af aL M1 w1 cs0 17 (Md W (L.filter D)) ν (SM.at (me L.length c (.sl 2 0 ((L.take i).filter D).length none) (i:Int)) 6 (p6 (strs L) (bD ((L.take i).filter D))))
 | 0,i,hj,H,M1,w1,hk,hne=>by
  rw [List.take_of_length_le (by omega)] at hne ⊢
  refine af.bR de (n:=60) (o:=ff [0] false) (x:=.sl 2 0 (L.filter D).length none) (i:=2) (so:=.row (bD (L.filter D)) 48 (0,0) (some 2)) (by
   rw [MT]
   simp only [ak,bz,and_self,and_true,true_and]
   exact decide_eq_false (by omega)) fun ν' w' y b1 ob hv hb ho hor hw hB'=>?_
  obtain ⟨M3,w3,M4,s',hBb,hr⟩:=hB'
  have hn:W.heap.size≤b1.1:=by
   rcases hk.base.own _ hw with h | h
   ·exact h
   ·exact absurd h (hM _)
  exact ⟨aI hM (hk.base.trans hBb) hr,y,rfl,.inr ⟨hne,cy.e8 hv hb ho hor hn fun zs hz=>pD hz⟩⟩
 | j+1,i,hj,H,M1,w1,hk,hne=>by
  have hi:i<L.length:=by omega
  have hq:L[i]?=some L[i]:=List.getElem?_eq_getElem hi
  have hfl:((L.take i).filter D).length≤100000:=Nat.le_trans (List.length_filter_le _ _) (by rw [List.length_take];omega)
  have hsn:=dP (D:=D) hi
  refine AG hp hν1 hk (q:=L[i]) (o:=ff [0] true++[(2,.cells [.v (.string L[i])])]) ?_ (by kernel_rfl) ?_ fun H' M2 w2 hk2=>?_
  ·rw [Mv]
   simp only [ak,lW hq,aO hi,decide_eq_true (show (i:Int)<(L.length:Int) by omega),and_self,and_true,true_and]
  ·rw [Mt]
   simp only [ak,lW hq,aO hi,decide_eq_true (show (i:Int)<(L.length:Int) by omega),and_self,and_true,true_and]
  ·cases hd:D L[i]
   ·rw [hd,if_neg (by decide),List.append_nil] at hsn
    have nx:=wg hM hp hν1 hν few j (i+1) (by omega) H' M2 w2 hk2 (by rw [hsn];exact hne)
    rw [hsn] at nx
    refine af.reach de (k:=2) (n:=60) (o:=ff [0] false) (ren:=[(0,0),(1,1),(2,2)]) (eqs:=[0,2]) (S:=FH (strs L) (bD ((L.take i).filter D)) L.length c ((L.take i).filter D).length (i:Int) L[i] false) ?_ (by kernel_rfl) (fun i b h=>by rcases hν i b h with h | h <;> rw [h] <;> rfl) nx
    rw [Nk]
    simp only [ak,aM (k:=i) (by omega),au,bz,and_self,and_true,true_and]
   ·rw [hd,if_pos rfl] at hsn
    have nx:=wg hM hp hν1 hν few j (i+1) (by omega) H' M2 w2 hk2 (by rw [hsn];simp)
    rw [hsn,List.length_append,show ([L[i]]:List ByteArray).length=1 from rfl,pj,jL] at nx
    refine af.reach de (k:=2) (n:=60) (o:=[(0,.b true),(1,.app (bD ((L.take i).filter D)) (fS L[i]))]) (ren:=[(0,0),(1,1),(2,4)]) (eqs:=[0,2]) (S:=FH (strs L) (bD ((L.take i).filter D)) L.length c ((L.take i).filter D).length (i:Int) L[i] true) ?_ (by kernel_rfl) (fun i b h=>by rcases hν i b h with h | h <;> rw [h] <;> rfl) nx
    rw [NI]
    simp only [ak,aM (k:=i) (by omega),au,bz,bY,bH,List.all_append,and_self,and_true,true_and]
    repeat' apply And.intro
    all_goals first | rfl | omega | exact List.take_of_length_le (by rw [bH];exact Nat.le_refl _) | skip
theorem Am (hM:∀ z,¬ M z) (hp:sm W x1 D) (hν1:ν 1=some (x1,0)) (hν:∀ i b,ν i=some b→i=0∨i=1) (few:L.length≤100000):
  ∀ (j i:Nat),i+j=L.length→∀ H M1 w1,Kept W.hp M W H M1 w1→(L.take i).filter D=[]→
   af aL M1 w1 cs0 17 (Md W (L.filter D)) ν (SM.at (me L.length c aK (i:Int)) 6 (pY (strs L)))
 | 0,i,hj,H,M1,w1,hk,hne=>by
  rw [List.take_of_length_le (by omega)] at hne
  refine af.ax de (n:=60) (o:=ff [0] false) (v:=.slice none 0 0) ?_ fun ν' M1 w1 s' w' _ hB' hr=>⟨aI hM (hk.base.trans hB') hr,_,rfl,.inl ⟨hne,rfl⟩⟩
  rw [Na]
  simp only [ak,and_self,and_true,true_and]
  exact decide_eq_false (by omega)
 | j+1,i,hj,H,M1,w1,hk,hne=>by
  have hi:i<L.length:=by omega
  have hq:L[i]?=some L[i]:=List.getElem?_eq_getElem hi
  have hsn:=dP (D:=D) hi
  rw [hne,List.nil_append] at hsn
  refine AG hp hν1 hk (q:=L[i]) (o:=ff [0] true++[(2,.cells [.v (.string L[i])])]) ?_ (by kernel_rfl) ?_ fun H' M2 w2 hk2=>?_
  ·rw [MP]
   simp only [ak,lW hq,aO hi,decide_eq_true (show (i:Int)<(L.length:Int) by omega),and_self,and_true,true_and]
  ·rw [MZ]
   simp only [ak,lW hq,aO hi,decide_eq_true (show (i:Int)<(L.length:Int) by omega),and_self,and_true,true_and]
  ·cases hd:D L[i]
   ·rw [hd,if_neg (by decide)] at hsn
    have nx:=Am hM hp hν1 hν few j (i+1) (by omega) H' M2 w2 hk2 hsn
    refine af.reach de (k:=2) (n:=60) (o:=ff [0] false) (ren:=[(0,0),(1,1)]) (eqs:=[0]) (S:=Fi (strs L) L.length c (i:Int) L[i] false) ?_ (by kernel_rfl) (fun i b h=>by rcases hν i b h with h | h <;> rw [h] <;> rfl) nx
    rw [Mf]
    simp only [ak,aM (k:=i) (by omega),au,aK,and_self,and_true,true_and]
   ·rw [hd,if_pos rfl] at hsn
    have nx:=wg (cs0:=cs0) (c:=c) hM hp hν1 hν few j (i+1) (by omega) H' M2 w2 hk2 (by rw [hsn];simp)
    rw [hsn,show ([L[i]]:List ByteArray).length=1 from rfl,jL] at nx
    refine af.reach de (k:=2) (n:=60) (o:=ff [0] true++ff [1] false) (ren:=[(0,0),(1,1),(2,3)]) (eqs:=[0,2]) (S:=Fi (strs L) L.length c (i:Int) L[i] true) ?_ (by kernel_rfl) (fun i b h=>by rcases hν i b h with h | h <;> rw [h] <;> rfl) nx
    rw [Nx]
    simp only [ak,aM (k:=i) (by omega),au,and_self,and_true,true_and]
    repeat' apply And.intro
    all_goals first | rfl | omega | skip
end
theorem x7 {W:World} {g x1 c:Nat} {D:ByteArray→Bool} {L:List ByteArray} {rest:List Value} {e:TypeId} {fz:Nat × Nat} {cs1:Array Value} {e1:TypeId} {f1:Nat × Nat} (hn:g≠x1) (hg:W.heap[g]?=some (.cells (L.map Value.string++rest).toArray e fz))
  (hx1:W.heap[x1]?=some (.cells cs1 e1 f1)) (hp:sm W x1 D) (few:L.length≤100000) (hlc:L.length≤c):
  Calls Try.prog 17 #[.int .i64 1,.func (.func 18) #[] #[bX x1],.slice (some ⟨g,0,none⟩) L.length c] W (Md W (L.filter D)):=by
 have ho:∀ (j:Nat) (o':SO) (b' c':Nat),[SO.look (strs L),SO.look []][j]?=some o'→[(g,0),(x1,0)][j]?=some (b',c')→∃ r,W.heap[b']?=some r∧OR (aE [(g,0),(x1,0)]) j o' r:=by
  intro j o' b' c' q1 q2
  match j with
  | 0=>
   simp only [List.getElem?_cons_zero,Option.some.injEq] at q1 q2
   subst q1
   cases q2
   refine ⟨_,hg,L.map Value.string,_,_,_,rfl,ay.lits _ _,fun k y h=>?_⟩
   rw [List.getElem?_toArray,List.getElem?_append_left (List.getElem?_eq_some_iff.1 h).1];exact h
  | 1=>
   simp only [List.getElem?_cons_succ,List.getElem?_cons_zero,Option.some.injEq] at q1 q2
   subst q1
   cases q2
   exact ⟨_,hx1,[],_,_,_,rfl,ay.nil,fun k y h=>by simp at h⟩
  | j+2=>simp at q1
 refine aY (E:=aL) rfl (d:=6) (l:=[(g,0),(x1,0)]) (os:=[.look (strs L),.look []]) rfl (by simp) (by simpa using hn) ho rfl (args:=[.v (.int .i64 1),It,.sl 0 0 L.length (some c)]) (a:=[.int .i64 1,.func (.func 18) #[] #[bX x1],.slice (some ⟨g,0,none⟩) L.length c]) (S0:=CL (strs L) L.length c) (by kernel_rfl) (ay.cons (VR.ah.2 rfl) (ay.cons ?_ (ay.cons (VR.aQ.2 ⟨(g,0),rfl,hlc,rfl⟩) ay.nil))) fun cs0=>?_
 ·exact VR.cX.2 ⟨[],[bX x1],rfl,ay.nil,ay.cons (VR.aC.2 ⟨(x1,0),rfl,rfl⟩) ay.nil⟩
 have hM:∀ z,¬ (aT [(g,0),(x1,0)] ([SO.look (strs L),SO.look []].map fun o=>(o,false))) z:=fun z=>a6 (os:=[SO.look (strs L),SO.look []])
 have hK0:=Kept.start (H0:=W.hp) (M:=aT [(g,0),(x1,0)] ([SO.look (strs L),SO.look []].map fun o=>(o,false))) (w:=W) (Hp.Sub.refl _) (fun z o _=>hM z) (dh (by
  intro j o' m b' c' q1 q2
  rw [List.getElem?_map] at q1
  obtain ⟨o2,q3,q4⟩:=Option.map_eq_some_iff.1 q1
  cases q4
  exact ho j o' b' c' q3 q2)) (fun _ h=>h)
 have hν:∀ i b,aE [(g,0),(x1,0)] i=some b→i=0∨i=1:=fun i b h=>by
  match i with
  | 0=>exact .inl rfl
  | 1=>exact .inr rfl
  | i+2=>simp [aE] at h
 have nx:=Am (cs0:=cs0) (ν:=aE [(g,0),(x1,0)]) (c:=c) hM hp rfl hν few L.length 0 (by omega) W.hp _ W hK0 rfl
 refine af.reach de (k:=2) (n:=60) (o:=[(1000,.b true)]) (ren:=[(0,0),(1,1)]) (eqs:=[0]) (F:=me L.length c aK 0) (d:=6) (l:=pY (strs L)) ?_ (by kernel_rfl) (fun i b h=>by rcases hν i b h with h | h <;> rw [h] <;> rfl) nx
 rw [Ps]
 simp only [ak,au,aK,and_self,and_true,true_and]
noncomputable def CK (f:Value):SM:=(bC aL 17 [.v (.int .i64 1),.v f,.v (.slice none 0 0)] (bO 6 0 0 [])).getD dC
theorem PR (f v:Value):ax aL 17 60 (CK f) ([(1000,.b true)]++ff [0] false) v=[Value.slice none 0 0=v,false=false]:=by kernel_rfl
theorem Bn {W:World} (f:Value):Calls Try.prog 17 #[.int .i64 1,f,.slice none 0 0] W (Md W []):=by
 refine (cp (E:=aL) rfl rfl (args:=[.v (.int .i64 1),.v f,.v (.slice none 0 0)]) (a:=[.int .i64 1,f,.slice none 0 0]) (S0:=CK f) (by kernel_rfl) (ay.cons (VR.ah.2 rfl) (ay.cons (VR.ah.2 rfl) (ay.cons (VR.ah.2 rfl) ay.nil))) fun cs0=>?_)
 refine af.ax de (n:=60) (o:=[(1000,.b true)]++ff [0] false) (v:=.slice none 0 0) ?_ fun ν' M1 w1 s' w' _ hB' hr=>⟨aI bo hB' hr,_,rfl,.inl ⟨rfl,rfl⟩⟩
 rw [PR]
 simp only [ak,and_self,and_true,true_and]
end rp
end paths
end Go.Proofs.Ytbjmmnegkpeboaa
set_option linter.unusedSimpArgs false
set_option linter.unusedVariables false
set_option maxRecDepth 100000
namespace Go.Proofs.Ytbjmmnegkpeboaa
open Go Go.Rx Go.RowKit Go.Proofs
namespace paths
theorem N8 {M:Own} {w0:World}:aW Im M w0:=
 aW.Bg (Checked.mixed Try.checked) (by kernel_rfl) (gu.of ke rfl eY) (ep.list (X:=fun _=>True) (l:=NA) rfl (fun r h=>by
  simp only [NA,List.mem_cons,List.not_mem_nil,or_false] at h
  rcases h with rfl
  exact IK) fun ν s w hr _=>trivial) (fun f g h=>by cases h)
theorem Di {W:World} {x:Nat} {a:Option Addr} {l c:Nat} {D:List bU} (hx:W.heap[x]?=some (.cells #[.slice a l c] 23 (0,0))) (h:gC W a l c D) (few:D.length≤1000) (q:ByteArray):
  Calls Try.prog 18 #[.string q,bX x] W fun e w'=>Below W.heap.size W w'∧e=.returned (.bool (!D.any (cL q))):=by
 have zero:D=[]→l=0→Calls Try.prog 18 #[.string q,bX x] W fun e w'=>Below W.heap.size W w'∧e=.returned (.bool (!D.any (cL q))):=by
  rintro rfl rfl
  have ho:∀ (j:Nat) (o':SO) (b' c':Nat),[p7 (.v (.slice a 0 c))][j]?=some o'→[(x,0)][j]?=some (b',c')→∃ r,W.heap[b']?=some r∧OR (aE [(x,0)]) j o' r:=by
   intro j o' b' c' q1 q2
   match j with
   | 0=>
    simp only [List.getElem?_cons_zero,Option.some.injEq] at q1 q2
    subst q1
    cases q2
    exact ⟨_,hx,[.slice a 0 c],[],rfl,ay.cons (VR.ah.2 rfl) ay.nil,rfl⟩
   | j+1=>simp at q1
  refine aY (E:=Im) rfl (d:=6) (l:=[(x,0)]) (os:=[p7 (.v (.slice a 0 c))]) rfl (by simp) (by simp) ho rfl (args:=[.v (.string q),.ptr 0 0]) (S0:=Hc a 0 c q) (by kernel_rfl) (ay.cons (VR.ah.2 rfl) (ay.cons (VR.aC.2 ⟨_,rfl,rfl⟩) ay.nil)) fun cs0=>?_
  refine af.ax N8 (n:=100) (o:=ff [1000] true) (v:=.bool true) ?_ fun ν' M1 w1 s' w' _ hB hr=>⟨aI (fun z=>a6 (os:=[_])) hB hr,rfl⟩
  rw [Ox]
  simp only [ak,and_self,and_true,true_and]
 rcases h with ⟨hl,hD⟩ | ⟨b,off,cs,e,fz,rfl,hl,hlc,hh,hoff,hc⟩
 ·exact zero hD hl
 ·cases D with
  | nil=>exact zero rfl hl.symm
  | cons y D=>
   generalize hE:y::D=E at hl hc few
   subst hl
   have hne:x≠b:=by
    rintro rfl
    rw [hx] at hh
    have:=Option.some.inj hh
    injection this with e1 _ _
    have h0:=hc 0 (.string y.p) (by rw [← hE];rfl)
    rw [← e1] at h0
    match off,h0 with
    | 0,h0=>cases h0
    | off+1,h0=>simp at h0
   have ho:∀ (j:Nat) (o':SO) (b' c':Nat),[p7 (.sl 1 off E.length (some c)),SO.look (ar oC off E)][j]?=some o'→[(x,0),(b,0)][j]?=some (b',c')→∃ r,W.heap[b']?=some r∧OR (aE [(x,0),(b,0)]) j o' r:=by
    intro j o' b' c' q1 q2
    match j with
    | 0=>
     simp only [List.getElem?_cons_zero,Option.some.injEq] at q1 q2
     subst q1
     cases q2
     exact ⟨_,hx,_,[],rfl,ay.cons (VR.aQ.2 ⟨(b,0),rfl,hlc,rfl⟩) ay.nil,rfl⟩
    | 1=>
     simp only [List.getElem?_cons_succ,List.getElem?_cons_zero,Option.some.injEq] at q1 q2
     subst q1
     cases q2
     exact ⟨_,hh,eK (h:=oV) (fun ν x=>ay.lits ν (oV x)) hoff hc⟩
    | j+2=>simp at q1
   refine aY (E:=Im) rfl (d:=6) (l:=[(x,0),(b,0)]) (os:=[p7 (.sl 1 off E.length (some c)),.look (ar oC off E)]) rfl (by simp) (by simpa using hne) ho rfl (args:=[.v (.string q),.ptr 0 0]) (S0:=G4 (ar oC off E) off E.length c q) (by kernel_rfl) (ay.cons (VR.ah.2 rfl) (ay.cons (VR.aC.2 ⟨_,rfl,rfl⟩) ay.nil)) fun cs0=>?_
   refine af.ax N8 (n:=100) (o:=ff [1000] true) (v:=.bool (!E.any (cL q))) ?_ fun ν' M1 w1 s' w' _ hB hr=>⟨aI (fun z=>a6 (os:=[_,_])) hB hr,rfl⟩
   rw [OZ]
   simp only [ak,BD,wy,few,and_self,and_true,true_and]
noncomputable def uy (a:Option Addr) (n c:Nat):SM:=(bC aL 9 [.ptr 0 0,.ptr 1 0,.v (.slice a n c)] (bO 6 2 0 [cD [],cD []])).getD dC
noncomputable def Mb (a:Option Addr) (n c:Nat) (l:List ByteArray) (k:Nat):SM:=kI aL 20 100 (uy a n c) oT (wv k) (wq l)
noncomputable def L7 (a:Option Addr) (n c:Nat):SM:=bq aL 20 100 (uy a n c) oT (.v (.slice none 0 0))
def JH:SV:=.func (.func 18) [] [.ptr 2 0]
theorem N7 (a:Option Addr) (n c:Nat):bI aL 20 100 (uy a n c) oT=[]:=by kernel_rfl
theorem Rn (a:Option Addr) (n c:Nat) (l:List ByteArray) (k:Nat):sr aL 20 100 (uy a n c) oT (wv k) (wq l)=[]:=by kernel_rfl
theorem Qo (a:Option Addr) (n c:Nat):bE aL 20 100 (uy a n c) oT (.v (.slice none 0 0))=[]:=by kernel_rfl
theorem PD (a:Option Addr) (n c:Nat) (l:List ByteArray) (k:Nat):bI aL 17 100 (Mb a n c l k) oT=[]:=by kernel_rfl
theorem Q4 (a:Option Addr) (n c:Nat) (l:List ByteArray) (k:Nat) (y:Value):bE aL 17 100 (Mb a n c l k) oT (.v y)=[]:=by kernel_rfl
theorem Pt (a:Option Addr) (n c:Nat) (l:List ByteArray) (k:Nat) (y v:Value):ax aL 9 100 (bq aL 17 100 (Mb a n c l k) oT (.v y)) oT v=[y=v]:=by kernel_rfl
theorem QB (a:Option Addr) (n c:Nat):bI aL 17 100 (L7 a n c) oT=[]:=by kernel_rfl
theorem Qh (a:Option Addr) (n c:Nat) (y:Value):bE aL 17 100 (L7 a n c) oT (.v y)=[]:=by kernel_rfl
theorem PN (a:Option Addr) (n c:Nat) (y v:Value):ax aL 9 100 (bq aL 17 100 (L7 a n c) oT (.v y)) oT v=[y=v]:=by kernel_rfl
theorem qe {W w w1 w2:World} {H:Hp} {N:List ByteArray} {v:Value} (hs:W.heap.size≤w.heap.size) (h:rp.jr w w1 N v) (hk:(H.grow w w1).Sub w2.hp):rp.jr W w2 N v:=by
 rcases h with h | ⟨h0,g,cc,rest,hy,hbase,hnc,hh,hsz⟩
 ·exact .inl h
 ·refine .inr ⟨h0,g,cc,rest,hy,Nat.le_trans hs hbase,hnc,hk _ _ ?_,hsz⟩
  unfold Hp.grow
  rw [if_neg (by omega)];exact hh
def NV (W:World) (N:List ByteArray) (e:Ending) (w':World):Prop:=Below W.heap.size W w'∧∃ v,e=.returned v∧rp.jr W w' N v
theorem Df {ν':aU} {x:Nat} {o:Obj} {v:Value} (h:OR ν' x (p7 (.v v)) o):o=.cells #[v] 23 (0,0):=by
 obtain ⟨zs,rest,rfl,hz,hx⟩:=h
 obtain ⟨z1,u,rfl,r1,hu⟩:=hz.cons_inv
 obtain rfl:=hu.aB
 obtain rfl:=VR.ah.1 r1
 have h0:rest=[]:=by
  have:([z1]++rest).length=1:=hx
  simpa using this
 subst h0;rfl
theorem sM {W:World} {b1 b2:Nat} {z1 z2:ByteArray→Int × List Int} {E1 E2:List cg} {a:Option Addr} {l c:Nat} {D:List bU} (hX:MX W) (hn:b1≠b2) (h1:dJ W b1 z1 E1) (h2:dJ W b2 z2 E2) (hO:gC W a l c D) (few:D.length≤1000):
  Calls Try.prog 9 #[bX b1,bX b2,.slice a l c] W (NV W ((lr z1 z2 E1 E2).filter fun q=>!D.any (cL q))):=by
 obtain ⟨v1,c1⟩:=h1.tree.cells
 obtain ⟨v2,c2⟩:=h2.tree.cells
 have ho:∀ (j:Nat) (o':SO) (b' c':Nat),[SO.look [],SO.look []][j]?=some o'→[(b1,0),(b2,0)][j]?=some (b',c')→∃ r,W.heap[b']?=some r∧OR (aE [(b1,0),(b2,0)]) j o' r:=by
  intro j o' b' c' q1 q2
  match j with
  | 0=>
   simp only [List.getElem?_cons_zero,Option.some.injEq] at q1 q2
   subst q1
   cases q2
   exact ⟨_,c1,[],_,_,_,rfl,ay.nil,fun k y h=>by simp at h⟩
  | 1=>
   simp only [List.getElem?_cons_succ,List.getElem?_cons_zero,Option.some.injEq] at q1 q2
   subst q1
   cases q2
   exact ⟨_,c2,[],_,_,_,rfl,ay.nil,fun k y h=>by simp at h⟩
  | j+2=>simp at q1
 refine aY (E:=aL) rfl (d:=6) (l:=[(b1,0),(b2,0)]) (os:=[.look [],.look []]) rfl (by simp) (by simpa using hn) ho rfl (args:=[.ptr 0 0,.ptr 1 0,.v (.slice a l c)]) (a:=[bX b1,bX b2,.slice a l c]) (S0:=uy a l c) (by kernel_rfl) (ay.cons (VR.aC.2 ⟨(b1,0),rfl,rfl⟩) (ay.cons (VR.aC.2 ⟨(b2,0),rfl,rfl⟩) (ay.cons (VR.ah.2 rfl) ay.nil))) fun cs0=>?_
 have hM:∀ z,¬ (aT [(b1,0),(b2,0)] ([SO.look [],SO.look []].map fun o=>(o,false))) z:=fun z=>a6 (os:=[SO.look [],SO.look []])
 have hK0:=Kept.start (H0:=W.hp) (M:=aT [(b1,0),(b2,0)] ([SO.look [],SO.look []].map fun o=>(o,false))) (w:=W) (Hp.Sub.refl _) (fun z o _=>hM z) (dh (by
  intro j o' m b' c' q1 q2
  rw [List.getElem?_map] at q1
  obtain ⟨o2,q3,q4⟩:=Option.map_eq_some_iff.1 q1
  cases q4
  exact ho j o' b' c' q3 q2)) (fun _ h=>h)
 have hq0:aE [(b1,0),(b2,0)] 0=some (b1,0):=rfl
 have hq1:aE [(b1,0),(b2,0)] 1=some (b2,0):=rfl
 generalize aE [(b1,0),(b2,0)]=ν at hq0 hq1 ⊢
 have hd:∀ {ν':aU} {w:World} {aa:List Value},ν.Le ν'→W.hp.Sub w.hp→ay ν' [.ptr 0 0,.ptr 1 0] aa→Calls Try.prog 20 aa.toArray w (zk w (lr z1 z2 E1 E2)):=by
  intro ν' w aa hle hsub ha
  obtain ⟨y1,as1,rfl,r1,ha2⟩:=ha.cons_inv
  obtain ⟨y2,as2,rfl,r2,ha3⟩:=ha2.cons_inv
  obtain rfl:=ha3.aB
  obtain ⟨bb,hbb,rfl⟩:=VR.aC.1 r1
  have hbb:=hbb.symm.trans (hle 0 (b1,0) hq0)
  cases hbb
  obtain ⟨bb,hbb,rfl⟩:=VR.aC.1 r2
  have hbb:=hbb.symm.trans (hle 1 (b2,0) hq1)
  cases hbb
  exact yR (hX.keep (pB hsub)) hn (h1.keep hsub) (h2.keep hsub)
 have small:(lr z1 z2 E1 E2).length≤100000:=by
  unfold lr
  rw [jI]
  obtain ⟨n1,_⟩:=vq h1 (pd z1 z2)
  obtain ⟨n2,_⟩:=vq h2 (pd z1 z2)
  refine Nat.le_trans (?_:_≤(bu (bu ((E1.map fun e=>e.1.p).filter (pd z1 z2))++bu ((E2.map fun e=>e.1.p).filter (pd z1 z2)))).length) (by rw [(bB _).length_eq,List.length_append];omega)
  unfold Lib.compact Lib.compactUpTo
  rw [List.length_map,List.length_map]
  exact Nat.le_trans (List.length_filter_le _ _) (by simp)
 have pairs:∀ {w:World} {x:Nat},W.hp.Sub w.hp→w.heap[x]?=some (.cells #[.slice a l c] 23 (0,0))→rp.sm w x fun q=>!D.any (cL q):=fun {w x} hs hx w2 hs2 q=>
  Di (hs2 _ _ hx) (hO.keep (pB (hs.trans hs2))) few q
 by_cases hL:lr z1 z2 E1 E2=[]
 ·refine af.eH de hK0 (n:=100) (g:=20) (o:=oT) (args:=[.ptr 0 0,.ptr 1 0]) (by rw [N7];trivial) (by kernel_rfl) fun ν' w aa hle hsub hgr ha=>?_
  refine (hd hle hsub ha).mono fun e w' ⟨hB,v,he,hv⟩=>?_
  obtain rfl:v=.slice none 0 0:=by
   rcases hv with ⟨_,h⟩ | ⟨h0,_⟩
   ·exact h
   ·exact absurd hL h0
  refine ⟨hB,_,he,fun M2 hK2=>⟨by rw [Qo];trivial,?_⟩⟩
  show af aL M2 w' cs0 _ _ ν (L7 a l c)
  refine af.eH de hK2 (n:=100) (g:=17) (o:=oT) (args:=[.v (.int .i64 1),JH,.v (.slice none 0 0)]) (by rw [QB];trivial) (by kernel_rfl) fun ν2 w2 aa hle2 hsub2 hgr2 ha2=>?_
  obtain ⟨y1,as1,rfl,q1,ha2⟩:=ha2.cons_inv
  obtain ⟨y2,as2,rfl,q2,ha3⟩:=ha2.cons_inv
  obtain ⟨y3,as3,rfl,q3,ha4⟩:=ha3.cons_inv
  obtain rfl:=ha4.aB
  obtain rfl:=VR.ah.1 q1
  obtain rfl:=VR.ah.1 q3
  refine (rp.Bn y2).mono fun e w3 ⟨hB3,v,he3,hv⟩=>⟨hB3,v,he3,fun M4 hK4=>⟨by rw [Qh];trivial,?_⟩⟩
  refine af.ax de (n:=100) (o:=oT) (v:=v) (by rw [PN];simp [ak]) fun ν'' M5 w5 s5 w6 _ hB5 hr5=>⟨aI hM (hK4.base.trans hB5) hr5,v,rfl,?_⟩
  rw [hL]
  exact qe (sQ hK2.sub0 hsub2) hv (hK4.now hB5 hr5)
 ·refine af.Cx de hK0 (n:=100) (g:=20) (o:=oT) (args:=[.ptr 0 0,.ptr 1 0]) (by rw [N7];trivial) (by kernel_rfl) fun ν' w aa hle hsub hgr ha=>?_
  refine (hd hle hsub ha).mono fun e w' ⟨hB,v,he,hv⟩=>?_
  rcases hv with ⟨h0,_⟩ | ⟨_,hs⟩
  ·exact absurd h0 hL
  generalize lr z1 z2 E1 E2=L at hs hL small ⊢
  obtain ⟨g,cc,rest,hy,hbase,hnc,hh,hsz⟩:=hs
  refine ⟨hB,v,wv L.length,wq L,g,cc,_,he,hbase,hh,fun ν2 j hj=>⟨⟨L.map Value.string,rest,rfl,?_,by rw [aD,List.length_append,List.length_map];omega,(g,cc),hj,hsz⟩,VR.aQ.2 ⟨(g,cc),hj,hnc,hy⟩⟩,by rw [Rn];trivial,fun M2 hK2=>?_⟩
  ·have:strs L=(L.map Value.string).map SV.v:=by unfold strs;simp
   rw [this];exact ay.lits _ _
  show af aL M2 w' cs0 _ _ ν (Mb a l c L L.length)
  refine af.GZ de hK2 (n:=100) (g:=17) (o:=oT) (args:=[.v (.int .i64 1),JH,.sl 3 0 L.length none]) (by rw [PD];trivial) (by kernel_rfl) fun ν2 w2 aa hle2 hsub2 hgr2 ha2 hlk=>?_
  obtain ⟨y1,as1,rfl,q1,ha2⟩:=ha2.cons_inv
  obtain ⟨y2,as2,rfl,q2,ha3⟩:=ha2.cons_inv
  obtain ⟨y3,as3,rfl,q3,ha4⟩:=ha3.cons_inv
  obtain rfl:=ha4.aB
  obtain rfl:=VR.ah.1 q1
  obtain ⟨fa,fb,rfl,r1,r2⟩:=VR.cX.1 q2
  obtain rfl:=r1.aB
  obtain ⟨p1,fb1,rfl,t1,r3⟩:=r2.cons_inv
  obtain rfl:=r3.aB
  obtain ⟨x1,e1,rfl⟩:=VR.aC.1 t1
  obtain ⟨g',eg,hgl,rfl⟩:=VR.aQ.1 q3
  obtain ⟨x1',ob1,e1',hx1,o1⟩:=hlk 2 (p7 (.v (.slice a l c))) true (by kernel_rfl)
  rw [e1] at e1';cases e1'
  rw [Df o1] at hx1
  obtain ⟨g'',og,eg',hg,o3⟩:=hlk 3 (wq L) true (by kernel_rfl)
  rw [eg] at eg';cases eg'
  obtain ⟨ys,rest',rfl,hys,hxg⟩:=o3
  have hys:ys=_:=eF (by have:strs L=(L.map Value.string).map SV.v:=(by unfold strs;simp);rw [← this];exact hys) (ay.lits ν2 (L.map Value.string))
  subst hys
  have hne:g'.1≠x1.1:=by
   intro e
   rw [e,hx1] at hg
   have:=Option.some.inj hg
   injection this with _ e _
   cases e
  have hgl':L.length≤g'.2:=hgl
  refine (rp.x7 (c:=g'.2) (rest:=rest') hne hg hx1 (pairs (hK2.sub0.trans hsub2) hx1) small hgl').mono fun e w3 ⟨hB3,v3,he3,hv3⟩=>⟨hB3,v3,he3,fun M4 hK4=>⟨by rw [Q4];trivial,?_⟩⟩
  refine af.ax de (n:=100) (o:=oT) (v:=v3) (by rw [Pt];simp [ak]) fun ν'' M5 w5 s5 w6 _ hB5 hr5=>⟨aI hM (hK4.base.trans hB5) hr5,v3,rfl,?_⟩
  exact qe (sQ hK2.sub0 hsub2) hv3 (hK4.now hB5 hr5)
noncomputable def x8 (p:ByteArray):SM:=(bC aL 23 [.ptr 0 0,.v (.string p)] (bO 6 1 0 [cD []])).getD dC
noncomputable def EO (p:ByteArray) (x:SV):SM:=bq aL 37 100 (x8 p) (ff [1000] true) x
noncomputable def KX (p:ByteArray) (x y:SV):SM:=bq aL 33 100 (EO p x) (ff [1000] true) y
theorem Rr (p:ByteArray):bI aL 37 100 (x8 p) (ff [1000] true)=[]:=by kernel_rfl
theorem Oz (p:ByteArray) (k:Int) (a:Option Addr) (l c:Nat):bE aL 37 100 (x8 p) (ff [1000] true) (bV k a l c)=[]:=by kernel_rfl
theorem QY (p:ByteArray) (k:Int) (a:Option Addr) (l c:Nat):bI aL 33 100 (EO p (bV k a l c)) (ff [1000] true)=[]:=by kernel_rfl
theorem RL (p:ByteArray) (k k':Int) (a a':Option Addr) (l c l' c':Nat):bE aL 33 100 (EO p (bV k a l c)) (ff [1000] true) (bV k' a' l' c')=[]:=by kernel_rfl
theorem RE (p:ByteArray) (k k':Int) (a a':Option Addr) (l c l' c':Nat) (v:Value):ax aL 23 100 (KX p (bV k a l c) (bV k' a' l' c')) (ff [1000] true) v=[Value.agg { toList:=[vZ k',Value.slice a' l' c']:Array Value }=v]:=by kernel_rfl
def Ml (H:Hp) (w:World) (z:Int × List Int) (e:Ending) (w':World):Prop:=Below w.heap.size w w'∧∃ k a l c zs,e=.returned (.agg #[.int .i64 k,.slice a l c])∧vc (H.grow w w') a l zs∧(k,zs)=z
theorem yF {H:Hp} {w w':World} {x:aA} {ys:List Int} {a:Option Addr} {c l:Nat} (hD:qm w x.a x.l ys) (h:xy w w' x ys a c l):vc (H.grow w w') a l ys:=by
 rcases h with ⟨h1,h2,h3,h4⟩ | ⟨h1,h2,g,h3,h4⟩
 ·subst h2 h3
  have:ys=[]:=List.length_eq_zero_iff.1 (by rw [hD.1.1];exact hD.2 h1)
  rw [this];exact fun _ _=>lJ
 ·subst h2 h3
  exact (BG (x:=⟨⟨#[]⟩,0,x.k,x.a,x.l,x.c⟩) hD rfl h4).MM
def MF:Hp:=fun _=>none
theorem Gs {H Hx:Hp} {W w2 w3 w4:World} (hs:W.heap.size≤w2.heap.size) (hn:(Hx.grow w2 w3).Sub w4.hp):(MF.grow w2 w3).Sub (H.grow W w4):=fun k o hk=>by
 unfold Hp.grow MF at hk
 split at hk
 ·cases hk
 ·rename_i hlt
  unfold Hp.grow
  rw [if_neg (by omega)]
  exact hn k o (by unfold Hp.grow;rw [if_neg hlt];exact hk)
theorem rE {W:World} {b:Nat} {z:ByteArray→Int × List Int} {cs:Array Value} {e1:TypeId} {f1:Nat × Nat} (hb:W.heap[b]?=some (.cells cs e1 f1)) (h:sf W.hp b z) (p:ByteArray) (H:Hp):
  Calls Try.prog 23 #[bX b,.string p] W (Ml H W (z p)):=by
 have ho:∀ (j:Nat) (o':SO) (b' c':Nat),[SO.look []][j]?=some o'→[(b,0)][j]?=some (b',c')→∃ r,W.heap[b']?=some r∧OR (aE [(b,0)]) j o' r:=by
  intro j o' b' c' q1 q2
  match j with
  | 0=>
   simp only [List.getElem?_cons_zero,Option.some.injEq] at q1 q2
   subst q1
   cases q2
   exact ⟨_,hb,[],_,_,_,rfl,ay.nil,fun k y h=>by simp at h⟩
  | j+1=>simp at q1
 refine aY (E:=aL) rfl (d:=6) (l:=[(b,0)]) (os:=[.look []]) rfl (by simp) (by simp) ho rfl (args:=[.ptr 0 0,.v (.string p)]) (a:=[bX b,.string p]) (S0:=x8 p) (by kernel_rfl) (ay.cons (VR.aC.2 ⟨(b,0),rfl,rfl⟩) (ay.cons (VR.ah.2 rfl) ay.nil)) fun cs0=>?_
 have hM:∀ z,¬ (aT [(b,0)] ([SO.look []].map fun o=>(o,false))) z:=fun z=>a6 (os:=[SO.look []])
 have hK0:=Kept.start (H0:=W.hp) (M:=aT [(b,0)] ([SO.look []].map fun o=>(o,false))) (w:=W) (Hp.Sub.refl _) (fun z o _=>hM z) (dh (by
  intro j o' m b' c' q1 q2
  rw [List.getElem?_map] at q1
  obtain ⟨o2,q3,q4⟩:=Option.map_eq_some_iff.1 q1
  cases q4
  exact ho j o' b' c' q3 q2)) (fun _ h=>h)
 refine af.eH de hK0 (n:=100) (g:=37) (o:=ff [1000] true) (args:=[.ptr 0 0,.v (.string p)]) (by rw [Rr];trivial) (by kernel_rfl) fun ν' w a hle hsub hgr ha=>?_
 obtain ⟨y1,as1,rfl,q1,ha2⟩:=ha.cons_inv
 obtain ⟨y2,as2,rfl,q2,ha3⟩:=ha2.cons_inv
 obtain rfl:=ha3.aB
 obtain rfl:=VR.ah.1 q2
 obtain ⟨bb,hbb,rfl⟩:=VR.aC.1 q1
 have hbb:=hbb.symm.trans (hle 0 (b,0) rfl)
 cases hbb
 refine (h w hsub p).mono fun e w' ⟨hB,k,a,l,c,zs,he,hd,hz⟩=>⟨hB,.agg #[.int .i64 k,.slice a l c],he,fun M2 hK2=>⟨by show ak (bE aL 37 100 (x8 p) (ff [1000] true) (bV k a l c));rw [Oz];trivial,?_⟩⟩
 show af aL M2 w' cs0 _ _ _ (EO p (bV k a l c))
 refine af.eH de hK2 (n:=100) (g:=33) (o:=ff [1000] true) (args:=[bV k a l c]) (by rw [QY];trivial) (by kernel_rfl) fun ν2 w2 a2 hle2 hsub2 hgr2 ha2=>?_
 obtain ⟨y1,as1,rfl,q1,ha2⟩:=ha2.cons_inv
 obtain rfl:=ha2.aB
 obtain rfl:=VR.ah.1 q1
 have hs2:W.hp.Sub w2.hp:=(Hp.dX hsub).trans hsub2
 have hD:=hd w2 hs2
 refine (ka (x:=⟨⟨#[]⟩,k,a,l,c⟩) hD.1).mono fun e w3 ⟨hB3,a',c',l',he3,hcl⟩=>⟨hB3,.agg #[.int .i64 k,.slice a' l' c'],he3,fun M3 hK3=>⟨by show ak (bE aL 33 100 (EO p (bV k a l c)) (ff [1000] true) (bV k a' l' c'));rw [RL];trivial,?_⟩⟩
 show af aL M3 w3 cs0 _ _ _ (KX p (bV k a l c) (bV k a' l' c'))
 refine af.ax de (n:=100) (o:=ff [1000] true) (v:=.agg #[.int .i64 k,.slice a' l' c']) (by rw [RE];simp [ak]) fun ν' M1 w4 s' w5 _ hB' hr=>⟨aI hM (hK3.base.trans hB') hr,k,a',l',c',zs,rfl,?_,hz⟩
 have hcd:=yF (H:=MF) (x:=⟨⟨#[]⟩,k,a,l,c⟩) hD hcl
 exact hcd.mono (Gs (sQ (Hp.Sub.refl _) hs2) (hK3.now hB' hr))
end paths
end Go.Proofs.Ytbjmmnegkpeboaa
set_option linter.unusedSimpArgs false
set_option linter.unusedVariables false
set_option maxRecDepth 100000
namespace Go.Proofs.Ytbjmmnegkpeboaa
open Go Go.Rx Go.RowKit Go.Proofs
namespace paths
namespace ca
def Er (l:List SV):Option (SO × Bool):=some (.row l 48 (0,0) (some 2),true)
def fS (q:ByteArray):List SV:=[.v (.int .i64 2),.v (.string q)]
noncomputable def CY (l:List SV) (off n c:Nat):SM:=(bC aL 11 [.ptr 0 0,.ptr 1 0,.sl 2 off n (some c)] (bO 6 3 0 [cD [],cD [],cD l])).getD dC
noncomputable def HB:List SI:=dn aL 2 60 (CY [] 0 0 0) [(1000,.b true)]
noncomputable def jc (off n c:Nat) (x:SV) (i:Int):SF:={ fn:=11,tm:=eO 38 6 ([.ptr 0 0,.ptr 1 0,.aJ,.aJ,.aJ,.aJ,x,.aJ,.aJ,.sl 2 off n (some c),.v (.int .i64 n),.v (.int .i64 i)]++List.replicate 26 .aJ),todo:=HB,defers:=[],ret:=false,kind:=.normal,ro:=none }
def fA (l:List SV):List (Option (SO × Bool)):=[cD [],cD [],cD l]
def fj (l m:List SV):List (Option (SO × Bool)):=[cD [],cD [],cD l,Er m]
def rc (k:Nat):SV:=.sl 3 0 k none
noncomputable def EM (l m:List SV) (off n c k:Nat) (i:Int) (x:bU) (k1:Int) (a1:Option Addr) (l1 c1:Nat):SM:=bq aL 23 100 (SM.at (jc off n c aK i) 6 (fA l)) ([(2,.cells (oC x))]++ff [0,3,4,5,6,7,8,9,10,11,12,13,14,15,16,17,18,19,20] true++ff [1] false) (bV k1 a1 l1 c1)
noncomputable def CI (l m:List SV) (off n c k:Nat) (i:Int) (x:bU) (k1 k2:Int) (a1 a2:Option Addr) (l1 c1 l2 c2:Nat):SM:=bq aL 23 100 (EM l m off n c k i x k1 a1 l1 c1) (ff (List.range 20) true) (bV k2 a2 l2 c2)
noncomputable def Ez (l m:List SV) (off n c k:Nat) (i:Int) (x:bU) (k1 k2:Int) (a1 a2:Option Addr) (l1 c1 l2 c2:Nat) (t:Bool):SM:=bq aL 22 100 (CI l m off n c k i x k1 k2 a1 a2 l1 c1 l2 c2) (ff (List.range 20) true) (.v (.bool t))
noncomputable def DP (l m:List SV) (off n c k:Nat) (i:Int) (x:bU) (k1:Int) (a1:Option Addr) (l1 c1:Nat):SM:=bq aL 23 100 (SM.at (jc off n c (rc k) i) 6 (fj l m)) ([(2,.cells (oC x))]++ff [0,3,4,5,6,7,8,9,10,11,12,13,14,15,16,17,18,19,20] true++ff [1] false) (bV k1 a1 l1 c1)
noncomputable def DW (l m:List SV) (off n c k:Nat) (i:Int) (x:bU) (k1 k2:Int) (a1 a2:Option Addr) (l1 c1 l2 c2:Nat):SM:=bq aL 23 100 (DP l m off n c k i x k1 a1 l1 c1) (ff (List.range 20) true) (bV k2 a2 l2 c2)
noncomputable def Dw (l m:List SV) (off n c k:Nat) (i:Int) (x:bU) (k1 k2:Int) (a1 a2:Option Addr) (l1 c1 l2 c2:Nat) (t:Bool):SM:=bq aL 22 100 (DW l m off n c k i x k1 k2 a1 a2 l1 c1 l2 c2) (ff (List.range 20) true) (.v (.bool t))
theorem Mq (l m w l':List SV) (off n c k:Nat) (i i':Int) (x:bU) (v:Value):reach aL 2 60 (CY l off n c) (ff [0,1,2,3,4,5,6,7] false++[(1000,.b true)]) [(0,0),(1,1),(2,2)] [2] (jc off n c aK 0) 6 (fA l)=[0=0,0=0,Value.slice none 0 0=Value.slice none 0 0,off=off∧n=n∧some c=some c,vZ (↑n:Int)=vZ (↑n:Int),vZ 0=vZ 0,l=l,l.all ab=true]:=by kernel_rfl
theorem H6 (l m w l':List SV) (off n c k:Nat) (i i':Int) (x:bU) (v:Value):reach aL 2 100 (SM.at (jc off n c aK i) 6 (fA l)) ([(2,.cells (oC x))]++ff [0] true++ff [1,3,4,5,6,7,8,9,10,11,12,13,14,15,16,17,18,19,20,21,22,23] false++[(1000,.b true)]) [(0,0),(1,1),(2,2)] [2] (jc off n c aK i') 6 (fA l)=[0=0,0=0,Value.slice none 0 0=Value.slice none 0 0,off=off∧n=n∧some c=some c,vZ (↑n:Int)=vZ (↑n:Int),vZ (IntKind.i64.wrap (i+1))=vZ i',l=l,l.all ab=true,false=false,(x.2==4)=false,(x.2==4)=false,(x.2==4)=false,(x.2==4)=false,(x.2==4)=false,(x.2==4)=false,(x.2==4)=false,(x.2==4)=false,(x.2==4)=false,(x.2==4)=false,(x.2==4)=false,(x.2==4)=false,List.take 3 (List.drop (off+i.toNat*3) l)=oC x∧(oC x).length=3,ao i n=true,decide (i<(↑n:Int))=true]:=by kernel_rfl
theorem IA (l m w l':List SV) (off n c k:Nat) (i i':Int) (x:bU) (v:Value):reach aL 2 100 (SM.at (jc off n c (rc k) i) 6 (fj l m)) ([(2,.cells (oC x))]++ff [0] true++ff [1,3,4,5,6,7,8,9,10,11,12,13,14,15,16,17,18,19,20,21,22,23,24,25] false++[(1000,.b true)]) [(0,0),(1,1),(2,2),(3,3)] [2,3] (jc off n c (rc k) i') 6 (fj l m)=[0=0,0=0,0=0∧k=k∧nZ=none,off=off∧n=n∧some c=some c,vZ (↑n:Int)=vZ (↑n:Int),vZ (IntKind.i64.wrap (i+1))=vZ i',l=l,l.all ab=true,m=m,m.all ab=true,false=false,(x.2==4)=false,(x.2==4)=false,(x.2==4)=false,(x.2==4)=false,(x.2==4)=false,(x.2==4)=false,(x.2==4)=false,(x.2==4)=false,(x.2==4)=false,(x.2==4)=false,(x.2==4)=false,(x.2==4)=false,List.take 3 (List.drop (off+i.toNat*3) l)=oC x∧(oC x).length=3,ao i n=true,decide (i<(↑n:Int))=true]:=by kernel_rfl
theorem HZ (l m w l':List SV) (off n c k:Nat) (i i':Int) (x:bU) (v:Value):ax aL 11 60 (SM.at (jc off n c aK i) 6 (fA l)) (ff [0,1] false++[(1000,.b true)]) v=[Value.slice none 0 0=v,decide (i<(↑n:Int))=false]:=by kernel_rfl
theorem Iw (l m w l':List SV) (off n c k:Nat) (i i':Int) (x:bU) (v:Value):bR aL 11 60 (SM.at (jc off n c (rc k) i) 6 (fj l m)) (ff [0,1,2,3] false++[(1000,.b true)]) (.sl 3 0 k none) 3 (.row m 48 (0,0) (some 2))=[0=0∧k=k∧nZ=none,m=m,m.all ab=true,decide (i<(↑n:Int))=false]:=by kernel_rfl
theorem HM (l m w l':List SV) (off n c k:Nat) (i i':Int) (x:bU) (v:Value) (k1 k2:Int) (a1 a2:Option Addr) (l1 c1 l2 c2:Nat):bI aL 23 100 (SM.at (jc off n c aK i) 6 (fA l)) ([(2,.cells (oC x))]++ff [0,3,4,5,6,7,8,9,10,11,12,13,14,15,16,17,18,19,20] true++ff [1] false)=[(x.2==4)=true,(x.2==4)=true,(x.2==4)=true,(x.2==4)=true,(x.2==4)=true,(x.2==4)=true,(x.2==4)=true,List.take 3 (List.drop (off+i.toNat*3) l)=oC x∧(oC x).length=3,ao i n=true,decide (i<(↑n:Int))=true]:=by kernel_rfl
theorem IB (l m w l':List SV) (off n c k:Nat) (i i':Int) (x:bU) (v:Value) (k1 k2:Int) (a1 a2:Option Addr) (l1 c1 l2 c2:Nat):bE aL 23 100 (SM.at (jc off n c aK i) 6 (fA l)) ([(2,.cells (oC x))]++ff [0,3,4,5,6,7,8,9,10,11,12,13,14,15,16,17,18,19,20] true++ff [1] false) (bV k1 a1 l1 c1)=[(x.1==x.1)=true,(x.2==4)=true,(x.2==4)=true,(x.2==4)=true,(x.2==4)=true,(x.2==4)=true,(x.2==4)=true,(x.2==4)=true,(x.2==4)=true,List.take 3 (List.drop (off+i.toNat*3) l)=oC x∧(oC x).length=3,ao i n=true,decide (i<(↑n:Int))=true]:=by kernel_rfl
theorem H8 (l m w l':List SV) (off n c k:Nat) (i i':Int) (x:bU) (v:Value) (k1 k2:Int) (a1 a2:Option Addr) (l1 c1 l2 c2:Nat):bI aL 23 100 (EM l m off n c k i x k1 a1 l1 c1) (ff (List.range 20) true)=[(x.2==4)=true]:=by kernel_rfl
theorem H7 (l m w l':List SV) (off n c k:Nat) (i i':Int) (x:bU) (v:Value) (k1 k2:Int) (a1 a2:Option Addr) (l1 c1 l2 c2:Nat):bE aL 23 100 (EM l m off n c k i x k1 a1 l1 c1) (ff (List.range 20) true) (bV k2 a2 l2 c2)=[(x.2==4)=true]:=by kernel_rfl
theorem IQ (l m w l':List SV) (off n c k:Nat) (i i':Int) (x:bU) (v:Value) (k1 k2:Int) (a1 a2:Option Addr) (l1 c1 l2 c2:Nat):bI aL 22 100 (CI l m off n c k i x k1 k2 a1 a2 l1 c1 l2 c2) (ff (List.range 20) true)=[(x.2==4)=true]:=by kernel_rfl
theorem IM (l m w l':List SV) (off n c k:Nat) (i i':Int) (x:bU) (v:Value) (k1 k2:Int) (a1 a2:Option Addr) (l1 c1 l2 c2:Nat) (t:Bool):bE aL 22 100 (CI l m off n c k i x k1 k2 a1 a2 l1 c1 l2 c2) (ff (List.range 20) true) (.v (.bool t))=[(x.2==4)=true]:=by kernel_rfl
theorem I2 (l m w l':List SV) (off n c k:Nat) (i i':Int) (x:bU) (v:Value) (k1 k2:Int) (a1 a2:Option Addr) (l1 c1 l2 c2:Nat):reach aL 2 100 (Ez l m off n c k i x k1 k2 a1 a2 l1 c1 l2 c2 true) (ff [0,1] true++ff [2,3,4,5,6,7,8,9,10] false) [(0,0),(1,1),(2,2)] [2] (jc off n c aK i') 6 (fA l)=[0=0,0=0,Value.slice none 0 0=Value.slice none 0 0,off=off∧n=n∧some c=some c,vZ (↑n:Int)=vZ (↑n:Int),vZ (IntKind.i64.wrap (i+1))=vZ i',l=l,l.all ab=true,false=false,(x.2==4)=true,(x.2==4)=true]:=by kernel_rfl
theorem Ja (l m w l':List SV) (off n c k:Nat) (i i':Int) (x:bU) (v:Value) (k1 k2:Int) (a1 a2:Option Addr) (l1 c1 l2 c2:Nat):reach aL 2 100 (Ez l m off n c k i x k1 k2 a1 a2 l1 c1 l2 c2 false) (ff [0,1,2] true++ff [3,4,5,6,7,8,9,10,11,12,13] false) [(0,0),(1,1),(2,2),(3,5)] [2,3] (jc off n c (rc 1) i') 6 (fj l l')=[0=0,0=0,0=0∧1=1∧nZ=none,off=off∧n=n∧some c=some c,vZ (↑n:Int)=vZ (↑n:Int),vZ (IntKind.i64.wrap (i+1))=vZ i',l=l,l.all ab=true,[]++List.take 2 (List.drop 0 (aX (List.replicate 1 (List.map SV.v [vZ 0,Value.string ⟨⟨[]⟩⟩])).flatten 0 (aX (aX (List.map SV.v [vZ 0,Value.string ⟨⟨[]⟩⟩]) 0 [SV.v (vZ 2)]) 1 [SV.v (Value.string x.1)])))=l',l'.all ab=true,false=false,true=true,(x.2==4)=true,(x.2==4)=true]:=by kernel_rfl
theorem IU (l m w l':List SV) (off n c k:Nat) (i i':Int) (x:bU) (v:Value) (k1 k2:Int) (a1 a2:Option Addr) (l1 c1 l2 c2:Nat):bI aL 23 100 (SM.at (jc off n c (rc k) i) 6 (fj l m)) ([(2,.cells (oC x))]++ff [0,3,4,5,6,7,8,9,10,11,12,13,14,15,16,17,18,19,20] true++ff [1] false)=[(x.2==4)=true,(x.2==4)=true,(x.2==4)=true,(x.2==4)=true,(x.2==4)=true,(x.2==4)=true,(x.2==4)=true,List.take 3 (List.drop (off+i.toNat*3) l)=oC x∧(oC x).length=3,ao i n=true,decide (i<(↑n:Int))=true]:=by kernel_rfl
theorem HH (l m w l':List SV) (off n c k:Nat) (i i':Int) (x:bU) (v:Value) (k1 k2:Int) (a1 a2:Option Addr) (l1 c1 l2 c2:Nat):bE aL 23 100 (SM.at (jc off n c (rc k) i) 6 (fj l m)) ([(2,.cells (oC x))]++ff [0,3,4,5,6,7,8,9,10,11,12,13,14,15,16,17,18,19,20] true++ff [1] false) (bV k1 a1 l1 c1)=[(x.1==x.1)=true,(x.2==4)=true,(x.2==4)=true,(x.2==4)=true,(x.2==4)=true,(x.2==4)=true,(x.2==4)=true,(x.2==4)=true,(x.2==4)=true,List.take 3 (List.drop (off+i.toNat*3) l)=oC x∧(oC x).length=3,ao i n=true,decide (i<(↑n:Int))=true]:=by kernel_rfl
theorem HV (l m w l':List SV) (off n c k:Nat) (i i':Int) (x:bU) (v:Value) (k1 k2:Int) (a1 a2:Option Addr) (l1 c1 l2 c2:Nat):bI aL 23 100 (DP l m off n c k i x k1 a1 l1 c1) (ff (List.range 20) true)=[(x.2==4)=true]:=by kernel_rfl
theorem H4 (l m w l':List SV) (off n c k:Nat) (i i':Int) (x:bU) (v:Value) (k1 k2:Int) (a1 a2:Option Addr) (l1 c1 l2 c2:Nat):bE aL 23 100 (DP l m off n c k i x k1 a1 l1 c1) (ff (List.range 20) true) (bV k2 a2 l2 c2)=[(x.2==4)=true]:=by kernel_rfl
theorem I7 (l m w l':List SV) (off n c k:Nat) (i i':Int) (x:bU) (v:Value) (k1 k2:Int) (a1 a2:Option Addr) (l1 c1 l2 c2:Nat):bI aL 22 100 (DW l m off n c k i x k1 k2 a1 a2 l1 c1 l2 c2) (ff (List.range 20) true)=[(x.2==4)=true]:=by kernel_rfl
theorem Jd (l m w l':List SV) (off n c k:Nat) (i i':Int) (x:bU) (v:Value) (k1 k2:Int) (a1 a2:Option Addr) (l1 c1 l2 c2:Nat) (t:Bool):bE aL 22 100 (DW l m off n c k i x k1 k2 a1 a2 l1 c1 l2 c2) (ff (List.range 20) true) (.v (.bool t))=[(x.2==4)=true]:=by kernel_rfl
theorem I1 (l m w l':List SV) (off n c k:Nat) (i i':Int) (x:bU) (v:Value) (k1 k2:Int) (a1 a2:Option Addr) (l1 c1 l2 c2:Nat):reach aL 2 100 (Dw l m off n c k i x k1 k2 a1 a2 l1 c1 l2 c2 true) (ff [0,1] true++ff [2,3,4,5,6,7,8,9,10,11,12] false) [(0,0),(1,1),(2,2),(3,3)] [2,3] (jc off n c (rc k) i') 6 (fj l m)=[0=0,0=0,0=0∧k=k∧nZ=none,off=off∧n=n∧some c=some c,vZ (↑n:Int)=vZ (↑n:Int),vZ (IntKind.i64.wrap (i+1))=vZ i',l=l,l.all ab=true,m=m,m.all ab=true,false=false,(x.2==4)=true,(x.2==4)=true]:=by kernel_rfl
theorem IF (l m w l':List SV) (off n c k:Nat) (i i':Int) (x:bU) (v:Value) (k1 k2:Int) (a1 a2:Option Addr) (l1 c1 l2 c2:Nat):reach aL 2 100 (Dw l m off n c k i x k1 k2 a1 a2 l1 c1 l2 c2 false) (ff [0,1,2] true++[(3,.app m w)]++ff [4,5,6,7,8,9,10,11,12,13,14,15] false) [(0,0),(1,1),(2,2),(3,6)] [2,3] (jc off n c (rc (k+1)) i') 6 (fj l l')=[0=0,0=0,0=0∧k+1=k+1∧nZ=none,off=off∧n=n∧some c=some c,vZ (↑n:Int)=vZ (↑n:Int),vZ (IntKind.i64.wrap (i+1))=vZ i',l=l,l.all ab=true,m++w=l',l'.all ab=true,((List.take 2 (List.drop 0 (aX (List.replicate 1 (List.map SV.v [vZ 0,Value.string ⟨⟨[]⟩⟩])).flatten 0 (aX (aX (List.map SV.v [vZ 0,Value.string ⟨⟨[]⟩⟩]) 0 [SV.v (vZ 2)]) 1 [SV.v (Value.string x.1)])))=w∧w.length=1*2)∧1≠0∧(2*(k+1)+1024)*24≤140737488355328)∧List.take (k*2) m=m∧m.length=k*2∧w.all SV.flat=true,true=true,(x.2==4)=true,(x.2==4)=true]:=by kernel_rfl
def bD (l:List ByteArray):List SV:=l.flatMap fS
def jR (l:List ByteArray):List Value:=l.flatMap fun q=>[.int .i64 2,.string q]
theorem pj (a b:List ByteArray):bD (a++b)=bD a++bD b:=by simp [bD]
theorem jL (q:ByteArray):bD [q]=fS q:=by simp [bD]
theorem bH:∀ a:List ByteArray,(bD a).length=a.length*2
 | []=>rfl
 | q::a=>by
  have:=bH a
  have e:bD (q::a)=fS q++bD a:=by simp [bD]
  rw [e,List.length_append,this,List.length_cons,show (fS q).length=2 from rfl];omega
theorem gI:∀ l:List ByteArray,(jR l).map SV.v=bD l
 | []=>rfl
 | q::l=>by
  have e:bD (q::l)=fS q++bD l:=by simp [bD]
  have e2:jR (q::l)=[.int .i64 2,.string q]++jR l:=by simp [jR]
  rw [e,e2,List.map_append,gI l];rfl
theorem bz (l:List ByteArray):(bD l).all ab=true:=by
 rw [← gI,List.all_eq_true];intro x hx
 obtain ⟨v,_,rfl⟩:=List.mem_map.1 hx
 rfl
theorem bY (l:List ByteArray):(bD l).all SV.flat=true:=by
 unfold bD
 rw [List.all_eq_true];intro x hx
 obtain ⟨q,_,hq⟩:=List.mem_flatMap.1 hx
 simp only [fS,List.mem_cons,List.not_mem_nil,or_false] at hq
 rcases hq with rfl | rfl <;> rfl
theorem pD {ν:aU} {l:List ByteArray} {zs:List Value} (h:ay ν (bD l) zs):zs=jR l:=by
 rw [← gI] at h
 exact eF h (ay.lits ν _)
def jr (w w':World) (l:List ByteArray) (v:Value):Prop:=(l=[]∧v=.slice none 0 0)∨(l≠[]∧cy w w' v (jR l) l.length 2 48)
def e9 (z1 z2:ByteArray→Int × List Int) (x:bU):Bool:=(x.k==4)&&hJ (z1 x.p) (z2 x.p)
def aG (z1 z2:ByteArray→Int × List Int) (D:List bU):List ByteArray:=(D.filter (e9 z1 z2)).map fun x=>x.p
theorem kf (z1 z2:ByteArray→Int × List Int) {D:List bU} {i:Nat} (h:i<D.length):aG z1 z2 (D.take (i+1))=aG z1 z2 (D.take i)++(if e9 z1 z2 D[i]=true then [D[i].p] else []):=by
 unfold aG
 rw [List.take_add_one,List.getElem?_eq_getElem h,List.filter_append,List.map_append]
 congr 1
 cases hd:e9 z1 z2 D[i] <;> simp [hd]
section
variable {W:World} {cs0:List Frame} {M:Own} {ν:aU} {b1 b2:Nat} {z1 z2:ByteArray→Int × List Int} {E1 E2:List cg} {D:List bU} {off c:Nat}
theorem sR (h1:dJ W b1 z1 E1) (h2:dJ W b2 z2 E2) (hν0:ν 0=some (b1,0)) (hν1:ν 1=some (b2,0)) {S:SM} {p:ByteArray} {o o2:List (Nat × gX)} {H:Hp} {M1:Own} {w1:World} (hk:Kept W.hp M W H M1 w1) {R:Ending→World→Prop}
  (q1:ak (bI aL 23 100 S o)) (q2:er aL 23 100 S o=dm aL 23 [.ptr 0 0,.v (.string p)] .normal)
  (q3:∀ k a l c,ak (bE aL 23 100 S o (bV k a l c)))
  (q4:∀ k a l c,ak (bI aL 23 100 (bq aL 23 100 S o (bV k a l c)) o2)) (q5:∀ k a l c,er aL 23 100 (bq aL 23 100 S o (bV k a l c)) o2=dm aL 23 [.ptr 1 0,.v (.string p)] .normal)
  (q6:∀ k a l c k' a' l' c',ak (bE aL 23 100 (bq aL 23 100 S o (bV k a l c)) o2 (bV k' a' l' c')))
  (q7:∀ k a l c k' a' l' c',ak (bI aL 22 100 (bq aL 23 100 (bq aL 23 100 S o (bV k a l c)) o2 (bV k' a' l' c')) o2))
  (q8:∀ k a l c k' a' l' c',er aL 22 100 (bq aL 23 100 (bq aL 23 100 S o (bV k a l c)) o2 (bV k' a' l' c')) o2=dm aL 22 [bV k a l c,bV k' a' l' c'] .normal)
  (q9:∀ k a l c k' a' l' c' t,ak (bE aL 22 100 (bq aL 23 100 (bq aL 23 100 S o (bV k a l c)) o2 (bV k' a' l' c')) o2 (.v (.bool t))))
  (nx:∀ H' M2 w2 k a l c k' a' l' c',Kept W.hp M W H' M2 w2→af aL M2 w2 cs0 11 R ν (bq aL 22 100 (bq aL 23 100 (bq aL 23 100 S o (bV k a l c)) o2 (bV k' a' l' c')) o2 (.v (.bool (!hJ (z1 p) (z2 p)))))):
  af aL M1 w1 cs0 11 R ν S:=by
 obtain ⟨v1,c1⟩:=h1.tree.cells
 obtain ⟨v2,c2⟩:=h2.tree.cells
 refine af.eH de hk (n:=100) (g:=23) (o:=o) (args:=[.ptr 0 0,.v (.string p)]) q1 q2 fun ν' w a hle hsub hgr ha=>?_
 obtain ⟨y1,as1,rfl,r1,ha2⟩:=ha.cons_inv
 obtain ⟨y2,as2,rfl,r2,ha3⟩:=ha2.cons_inv
 obtain rfl:=ha3.aB
 obtain rfl:=VR.ah.1 r2
 obtain ⟨bb,hbb,rfl⟩:=VR.aC.1 r1
 have hbb:=hbb.symm.trans (hle 0 (b1,0) hν0)
 cases hbb
 have hs:=hk.sub0.trans hsub
 refine (rE (hs _ _ c1) (h1.get.mono hs) p H).mono fun e w' ⟨hB,k,a,l,c,zs,he,hd,hz⟩=>⟨hB,.agg #[.int .i64 k,.slice a l c],he,fun M2 hK2=>⟨q3 k a l c,?_⟩⟩
 refine af.eH de hK2 (n:=100) (g:=23) (o:=o2) (args:=[.ptr 1 0,.v (.string p)]) (q4 k a l c) (q5 k a l c) fun ν2 w2 a2 hle2 hsub2 hgr2 ha2=>?_
 obtain ⟨y1,as1,rfl,r1,ha2⟩:=ha2.cons_inv
 obtain ⟨y2,as2,rfl,r2,ha3⟩:=ha2.cons_inv
 obtain rfl:=ha3.aB
 obtain rfl:=VR.ah.1 r2
 obtain ⟨bb,hbb,rfl⟩:=VR.aC.1 r1
 have hbb:=hbb.symm.trans (hle2 1 (b2,0) hν1)
 cases hbb
 have hs2:=hK2.sub0.trans hsub2
 refine (rE (hs2 _ _ c2) (h2.get.mono hs2) p (H.grow w w')).mono fun e w3 ⟨hB3,k',a',l',c',us,he3,hd3,hz3⟩=>⟨hB3,.agg #[.int .i64 k',.slice a' l' c'],he3,fun M3 hK3=>⟨q6 k a l c k' a' l' c',?_⟩⟩
 refine af.eH de hK3 (n:=100) (g:=22) (o:=o2) (args:=[bV k a l c,bV k' a' l' c']) (q7 k a l c k' a' l' c') (q8 k a l c k' a' l' c') fun ν4 w4 a4 hle4 hsub4 hgr4 ha4=>?_
 obtain ⟨y1,as1,rfl,r1,ha2⟩:=ha4.cons_inv
 obtain ⟨y2,as2,rfl,r2,ha3⟩:=ha2.cons_inv
 obtain rfl:=ha3.aB
 obtain rfl:=VR.ah.1 r1
 obtain rfl:=VR.ah.1 r2
 have g1:qm w4 a l zs:=hd w4 ((Hp.dX hsub2).trans hsub4)
 have g2:qm w4 a' l' us:=hd3 w4 hsub4
 refine (tH (k:=k) (k':=k') g1 g2).mono fun e w5 ⟨he5,hB5⟩=>⟨hB5,_,he5,fun M5 hK5=>⟨q9 k a l c k' a' l' c' _,?_⟩⟩
 have ht:((k==k')&&(Lib.bytesOf zs==Lib.bytesOf us))=!hJ (z1 p) (z2 p):=by rw [← hz,← hz3];unfold hJ;simp
 rw [ht]
 exact nx _ M5 w5 k a l c k' a' l' c' hK5
end
def L5 (W:World) (N:List ByteArray) (e:Ending) (w':World):Prop:=Below W.heap.size W w'∧∃ v,e=.returned v∧jr W w' N v
section
variable {W:World} {cs0:List Frame} {M:Own} {ν:aU} {b1 b2:Nat} {z1 z2:ByteArray→Int × List Int} {E1 E2:List cg} {D:List bU} {off c:Nat}
theorem qw (h1:dJ W b1 z1 E1) (h2:dJ W b2 z2 E2) (hM:∀ z,¬ M z) (hν0:ν 0=some (b1,0)) (hν1:ν 1=some (b2,0)) (hν:∀ i b,ν i=some b→i=0∨i=1∨i=2) (few:D.length≤1000):∀ (j i:Nat),i+j=D.length→∀ H M1 w1,Kept W.hp M W H M1 w1→aG z1 z2 (D.take i)≠[]→af aL M1 w1 cs0 11 (L5 W (aG z1 z2 D)) ν (SM.at (jc off D.length c (rc (aG z1 z2 (D.take i)).length) (i:Int)) 6 (fj (ar oC off D) (bD (aG z1 z2 (D.take i)))))
 | 0,i,hj,H,M1,w1,hk,hne=>by
  rw [List.take_of_length_le (by omega)] at hne ⊢
  refine af.bR de (n:=60) (o:=(ff [0,1,2,3] false++[(1000,.b true)])) (x:=.sl 3 0 (aG z1 z2 D).length none) (i:=3) (so:=.row (bD (aG z1 z2 D)) 48 (0,0) (some 2)) (by
   rw [Iw (w:=[]) (l':=[]) (i':=0) (x:=⟨⟨#[]⟩,0,0⟩) (v:=.int .i64 0)]
   simp only [ak,bz,decide_eq_false (show ¬ (i:Int)<(D.length:Int) by omega),and_self,and_true,true_and]) fun ν' w' y b ob hv hb ho hor hw hB'=>?_
  obtain ⟨M3,w3,M4,s',hBb,hr⟩:=hB'
  have hn:W.heap.size≤b.1:=by
   rcases hk.base.own _ hw with h | h
   ·exact h
   ·exact absurd h (hM _)
  exact ⟨aI hM (hk.base.trans hBb) hr,y,rfl,.inr ⟨hne,cy.e8 hv hb ho hor hn fun zs hz=>pD hz⟩⟩
 | j+1,i,hj,H,M1,w1,hk,hne=>by
  have hi:i<D.length:=by omega
  have hsn:=kf z1 z2 hi
  generalize hx:D[i]=x at hsn
  have hxi:D[i]?=some x:=by rw [← hx];exact List.getElem?_eq_getElem hi
  have t1:decide ((i:Int)<(D.length:Int))=true:=decide_eq_true (by omega)
  have r1:=aO hi
  have ws:=aM (k:=i) (by omega)
  have ra:=fM (off:=off) c8 hxi
  have hcl:(ar oC off D).all ab=true:=bw dK
  have hgl:(aG z1 z2 (D.take i)).length≤1000:=by
   unfold aG
   rw [List.length_map]
   exact Nat.le_trans (List.length_filter_le _ _) (by rw [List.length_take];omega)
  by_cases h4:x.k=4
  ·have q4:(x.2==(4:Int))=true:=by rw [show x.2=4 from h4];rfl
   have hcb:e9 z1 z2 x=hJ (z1 x.p) (z2 x.p):=by unfold e9;rw [show (x.k==4)=true from q4];rfl
   refine sR h1 h2 hν0 hν1 hk (S:=(SM.at (jc off D.length c (rc (aG z1 z2 (D.take i)).length) (i:Int)) 6 (fj (ar oC off D) (bD (aG z1 z2 (D.take i)))))) (p:=x.p) (o:=([(2,.cells (oC x))]++ff [0,3,4,5,6,7,8,9,10,11,12,13,14,15,16,17,18,19,20] true++ff [1] false)) (o2:=(ff (List.range 20) true)) ?_ (by kernel_rfl) (fun k a l c'=>?_) (fun k a l c'=>?_) (fun k a l c'=>by kernel_rfl) (fun k a l c' k2 a2 l2 c2=>?_) (fun k a l c' k2 a2 l2 c2=>?_) (fun k a l c' k2 a2 l2 c2=>by kernel_rfl) (fun k a l c' k2 a2 l2 c2 t=>?_) fun H' M2 w2 k a l c' k2 a2 l2 c2 hk2=>?_
   ·rw [IU (ar oC off D) (bD (aG z1 z2 (D.take i))) [] [] off D.length c (aG z1 z2 (D.take i)).length (i:Int) 0 x (.int .i64 0) 0 0 none none 0 0 0 0]
    simp only [ak,t1,r1,ra,q4,ws,hcl,c8,aV,bz,bY,bH,List.all_append,Int.toNat_natCast,and_self,and_true,true_and]
   ·rw [HH (ar oC off D) (bD (aG z1 z2 (D.take i))) [] [] off D.length c (aG z1 z2 (D.take i)).length (i:Int) 0 x (.int .i64 0) k 0 a none l c' 0 0]
    simp only [ak,t1,r1,ra,q4,ws,hcl,c8,aV,bz,bY,bH,List.all_append,Int.toNat_natCast,and_self,and_true,true_and]
   ·show ak (bI aL 23 100 (DP (ar oC off D) (bD (aG z1 z2 (D.take i))) off D.length c (aG z1 z2 (D.take i)).length (i:Int) x k a l c') (ff (List.range 20) true))
    rw [HV (ar oC off D) (bD (aG z1 z2 (D.take i))) [] [] off D.length c (aG z1 z2 (D.take i)).length (i:Int) 0 x (.int .i64 0) k 0 a none l c' 0 0]
    simp only [ak,t1,r1,ra,q4,ws,hcl,c8,aV,bz,bY,bH,List.all_append,Int.toNat_natCast,and_self,and_true,true_and]
   ·show ak (bE aL 23 100 (DP (ar oC off D) (bD (aG z1 z2 (D.take i))) off D.length c (aG z1 z2 (D.take i)).length (i:Int) x k a l c') (ff (List.range 20) true) (bV k2 a2 l2 c2))
    rw [H4 (ar oC off D) (bD (aG z1 z2 (D.take i))) [] [] off D.length c (aG z1 z2 (D.take i)).length (i:Int) 0 x (.int .i64 0) k k2 a a2 l c' l2 c2]
    simp only [ak,t1,r1,ra,q4,ws,hcl,c8,aV,bz,bY,bH,List.all_append,Int.toNat_natCast,and_self,and_true,true_and]
   ·show ak (bI aL 22 100 (DW (ar oC off D) (bD (aG z1 z2 (D.take i))) off D.length c (aG z1 z2 (D.take i)).length (i:Int) x k k2 a a2 l c' l2 c2) (ff (List.range 20) true))
    rw [I7 (ar oC off D) (bD (aG z1 z2 (D.take i))) [] [] off D.length c (aG z1 z2 (D.take i)).length (i:Int) 0 x (.int .i64 0) k k2 a a2 l c' l2 c2]
    simp only [ak,t1,r1,ra,q4,ws,hcl,c8,aV,bz,bY,bH,List.all_append,Int.toNat_natCast,and_self,and_true,true_and]
   ·show ak (bE aL 22 100 (DW (ar oC off D) (bD (aG z1 z2 (D.take i))) off D.length c (aG z1 z2 (D.take i)).length (i:Int) x k k2 a a2 l c' l2 c2) (ff (List.range 20) true) (.v (.bool t)))
    rw [Jd (ar oC off D) (bD (aG z1 z2 (D.take i))) [] [] off D.length c (aG z1 z2 (D.take i)).length (i:Int) 0 x (.int .i64 0) k k2 a a2 l c' l2 c2 t]
    simp only [ak,t1,r1,ra,q4,ws,hcl,c8,aV,bz,bY,bH,List.all_append,Int.toNat_natCast,and_self,and_true,true_and]
   ·show af aL M2 w2 cs0 _ _ ν (Dw (ar oC off D) (bD (aG z1 z2 (D.take i))) off D.length c (aG z1 z2 (D.take i)).length (i:Int) x k k2 a a2 l c' l2 c2 (!hJ (z1 x.p) (z2 x.p)))
    cases hd:hJ (z1 x.p) (z2 x.p)
    ·rw [hd] at hcb
     rw [hcb,if_neg (by decide),List.append_nil] at hsn
     have nx:=qw h1 h2 hM hν0 hν1 hν few j (i+1) (by omega) H' M2 w2 hk2 (by rw [hsn];exact hne)
     rw [hsn] at nx
     refine af.reach de (k:=2) (n:=100) (S:=(Dw (ar oC off D) (bD (aG z1 z2 (D.take i))) off D.length c (aG z1 z2 (D.take i)).length (i:Int) x k k2 a a2 l c' l2 c2 true)) (o:=(ff [0,1] true++ff [2,3,4,5,6,7,8,9,10,11,12] false)) (ren:=[(0,0),(1,1),(2,2),(3,3)]) (eqs:=[2,3]) ?_ (by kernel_rfl) (fun i b h=>by rcases hν i b h with h | h | h <;> rw [h] <;> rfl) nx
     rw [I1 (ar oC off D) (bD (aG z1 z2 (D.take i))) [] [] off D.length c (aG z1 z2 (D.take i)).length (i:Int) ((i+1:Nat):Int) x (.int .i64 0) k k2 a a2 l c' l2 c2]
     simp only [ak,t1,r1,ra,q4,ws,hcl,c8,aV,bz,bY,bH,List.all_append,Int.toNat_natCast,and_self,and_true,true_and]
     try (repeat' apply And.intro)
     all_goals first | rfl | omega | assumption | exact aV _ | exact List.take_of_length_le (by rw [bH];exact Nat.le_refl _) | skip
    ·rw [hd] at hcb
     rw [hcb,if_pos rfl] at hsn
     have nx:=qw h1 h2 hM hν0 hν1 hν few j (i+1) (by omega) H' M2 w2 hk2 (by rw [hsn];simp)
     rw [hsn,List.length_append,show ([x.p]:List ByteArray).length=1 from rfl,pj,jL] at nx
     refine af.reach de (k:=2) (n:=100) (S:=(Dw (ar oC off D) (bD (aG z1 z2 (D.take i))) off D.length c (aG z1 z2 (D.take i)).length (i:Int) x k k2 a a2 l c' l2 c2 false)) (o:=(ff [0,1,2] true++[(3,.app (bD (aG z1 z2 (D.take i))) (fS x.p))]++ff [4,5,6,7,8,9,10,11,12,13,14,15] false)) (ren:=[(0,0),(1,1),(2,2),(3,6)]) (eqs:=[2,3]) ?_ (by kernel_rfl) (fun i b h=>by rcases hν i b h with h | h | h <;> rw [h] <;> rfl) nx
     rw [IF (ar oC off D) (bD (aG z1 z2 (D.take i))) (fS x.p) (bD (aG z1 z2 (D.take i))++fS x.p) off D.length c (aG z1 z2 (D.take i)).length (i:Int) ((i+1:Nat):Int) x (.int .i64 0) k k2 a a2 l c' l2 c2]
     simp only [ak,t1,r1,ra,q4,ws,hcl,c8,aV,bz,bY,bH,List.all_append,Int.toNat_natCast,and_self,and_true,true_and]
     try (repeat' apply And.intro)
     all_goals first | rfl | omega | assumption | exact aV _ | exact List.take_of_length_le (by rw [bH];exact Nat.le_refl _) | skip
  ·have q4:(x.2==(4:Int))=false:=by simpa using h4
   have hcb:e9 z1 z2 x=false:=by unfold e9;rw [show (x.k==4)=false from q4];rfl
   rw [hcb,if_neg (by decide),List.append_nil] at hsn
   have nx:=qw h1 h2 hM hν0 hν1 hν few j (i+1) (by omega) H M1 w1 hk (by rw [hsn];exact hne)
   rw [hsn] at nx
   refine af.reach de (k:=2) (n:=100) (o:=([(2,.cells (oC x))]++ff [0] true++ff [1,3,4,5,6,7,8,9,10,11,12,13,14,15,16,17,18,19,20,21,22,23,24,25] false++[(1000,.b true)])) (ren:=[(0,0),(1,1),(2,2),(3,3)]) (eqs:=[2,3]) ?_ (by kernel_rfl) (fun i b h=>by rcases hν i b h with h | h | h <;> rw [h] <;> rfl) nx
   rw [IA (ar oC off D) (bD (aG z1 z2 (D.take i))) [] [] off D.length c (aG z1 z2 (D.take i)).length (i:Int) ((i+1:Nat):Int) x (.int .i64 0)]
   simp only [ak,t1,r1,ra,q4,ws,hcl,c8,aV,bz,bY,bH,List.all_append,Int.toNat_natCast,and_self,and_true,true_and]
   try (repeat' apply And.intro)
   all_goals first | rfl | omega | assumption | exact aV _ | exact List.take_of_length_le (by rw [bH];exact Nat.le_refl _) | skip
theorem uR (h1:dJ W b1 z1 E1) (h2:dJ W b2 z2 E2) (hM:∀ z,¬ M z) (hν0:ν 0=some (b1,0)) (hν1:ν 1=some (b2,0)) (hν:∀ i b,ν i=some b→i=0∨i=1∨i=2) (few:D.length≤1000):∀ (j i:Nat),i+j=D.length→∀ H M1 w1,Kept W.hp M W H M1 w1→aG z1 z2 (D.take i)=[]→af aL M1 w1 cs0 11 (L5 W (aG z1 z2 D)) ν (SM.at (jc off D.length c aK (i:Int)) 6 (fA (ar oC off D)))
 | 0,i,hj,H,M1,w1,hk,hne=>by
  rw [List.take_of_length_le (by omega)] at hne
  refine af.ax de (n:=60) (o:=(ff [0,1] false++[(1000,.b true)])) (v:=.slice none 0 0) ?_ fun ν' M3 w3 s' w' _ hB' hr=>⟨aI hM (hk.base.trans hB') hr,_,rfl,.inl ⟨hne,rfl⟩⟩
  rw [HZ (m:=[]) (w:=[]) (l':=[]) (k:=0) (i':=0) (x:=⟨⟨#[]⟩,0,0⟩)]
  simp only [ak,decide_eq_false (show ¬ (i:Int)<(D.length:Int) by omega),and_self,and_true,true_and]
 | j+1,i,hj,H,M1,w1,hk,hne=>by
  have hi:i<D.length:=by omega
  have hsn:=kf z1 z2 hi
  generalize hx:D[i]=x at hsn
  have hxi:D[i]?=some x:=by rw [← hx];exact List.getElem?_eq_getElem hi
  have t1:decide ((i:Int)<(D.length:Int))=true:=decide_eq_true (by omega)
  have r1:=aO hi
  have ws:=aM (k:=i) (by omega)
  have ra:=fM (off:=off) c8 hxi
  have hcl:(ar oC off D).all ab=true:=bw dK
  have hgl:(aG z1 z2 (D.take i)).length≤1000:=by
   unfold aG
   rw [List.length_map]
   exact Nat.le_trans (List.length_filter_le _ _) (by rw [List.length_take];omega)
  by_cases h4:x.k=4
  ·have q4:(x.2==(4:Int))=true:=by rw [show x.2=4 from h4];rfl
   have hcb:e9 z1 z2 x=hJ (z1 x.p) (z2 x.p):=by unfold e9;rw [show (x.k==4)=true from q4];rfl
   refine sR h1 h2 hν0 hν1 hk (S:=(SM.at (jc off D.length c aK (i:Int)) 6 (fA (ar oC off D)))) (p:=x.p) (o:=([(2,.cells (oC x))]++ff [0,3,4,5,6,7,8,9,10,11,12,13,14,15,16,17,18,19,20] true++ff [1] false)) (o2:=(ff (List.range 20) true)) ?_ (by kernel_rfl) (fun k a l c'=>?_) (fun k a l c'=>?_) (fun k a l c'=>by kernel_rfl) (fun k a l c' k2 a2 l2 c2=>?_) (fun k a l c' k2 a2 l2 c2=>?_) (fun k a l c' k2 a2 l2 c2=>by kernel_rfl) (fun k a l c' k2 a2 l2 c2 t=>?_) fun H' M2 w2 k a l c' k2 a2 l2 c2 hk2=>?_
   ·rw [HM (ar oC off D) [] [] [] off D.length c 0 (i:Int) 0 x (.int .i64 0) 0 0 none none 0 0 0 0]
    simp only [ak,t1,r1,ra,q4,ws,hcl,c8,aV,bz,bY,bH,List.all_append,Int.toNat_natCast,and_self,and_true,true_and]
   ·rw [IB (ar oC off D) [] [] [] off D.length c 0 (i:Int) 0 x (.int .i64 0) k 0 a none l c' 0 0]
    simp only [ak,t1,r1,ra,q4,ws,hcl,c8,aV,bz,bY,bH,List.all_append,Int.toNat_natCast,and_self,and_true,true_and]
   ·show ak (bI aL 23 100 (EM (ar oC off D) [] off D.length c 0 (i:Int) x k a l c') (ff (List.range 20) true))
    rw [H8 (ar oC off D) [] [] [] off D.length c 0 (i:Int) 0 x (.int .i64 0) k 0 a none l c' 0 0]
    simp only [ak,t1,r1,ra,q4,ws,hcl,c8,aV,bz,bY,bH,List.all_append,Int.toNat_natCast,and_self,and_true,true_and]
   ·show ak (bE aL 23 100 (EM (ar oC off D) [] off D.length c 0 (i:Int) x k a l c') (ff (List.range 20) true) (bV k2 a2 l2 c2))
    rw [H7 (ar oC off D) [] [] [] off D.length c 0 (i:Int) 0 x (.int .i64 0) k k2 a a2 l c' l2 c2]
    simp only [ak,t1,r1,ra,q4,ws,hcl,c8,aV,bz,bY,bH,List.all_append,Int.toNat_natCast,and_self,and_true,true_and]
   ·show ak (bI aL 22 100 (CI (ar oC off D) [] off D.length c 0 (i:Int) x k k2 a a2 l c' l2 c2) (ff (List.range 20) true))
    rw [IQ (ar oC off D) [] [] [] off D.length c 0 (i:Int) 0 x (.int .i64 0) k k2 a a2 l c' l2 c2]
    simp only [ak,t1,r1,ra,q4,ws,hcl,c8,aV,bz,bY,bH,List.all_append,Int.toNat_natCast,and_self,and_true,true_and]
   ·show ak (bE aL 22 100 (CI (ar oC off D) [] off D.length c 0 (i:Int) x k k2 a a2 l c' l2 c2) (ff (List.range 20) true) (.v (.bool t)))
    rw [IM (ar oC off D) [] [] [] off D.length c 0 (i:Int) 0 x (.int .i64 0) k k2 a a2 l c' l2 c2 t]
    simp only [ak,t1,r1,ra,q4,ws,hcl,c8,aV,bz,bY,bH,List.all_append,Int.toNat_natCast,and_self,and_true,true_and]
   ·show af aL M2 w2 cs0 _ _ ν (Ez (ar oC off D) [] off D.length c 0 (i:Int) x k k2 a a2 l c' l2 c2 (!hJ (z1 x.p) (z2 x.p)))
    cases hd:hJ (z1 x.p) (z2 x.p)
    ·rw [hd] at hcb
     rw [hcb,if_neg (by decide),List.append_nil] at hsn
     have nx:=uR h1 h2 hM hν0 hν1 hν few j (i+1) (by omega) H' M2 w2 hk2 (by rw [hsn];exact hne)
     refine af.reach de (k:=2) (n:=100) (S:=(Ez (ar oC off D) [] off D.length c 0 (i:Int) x k k2 a a2 l c' l2 c2 true)) (o:=(ff [0,1] true++ff [2,3,4,5,6,7,8,9,10] false)) (ren:=[(0,0),(1,1),(2,2)]) (eqs:=[2]) ?_ (by kernel_rfl) (fun i b h=>by rcases hν i b h with h | h | h <;> rw [h] <;> rfl) nx
     rw [I2 (ar oC off D) [] [] [] off D.length c 0 (i:Int) ((i+1:Nat):Int) x (.int .i64 0) k k2 a a2 l c' l2 c2]
     simp only [ak,t1,r1,ra,q4,ws,hcl,c8,aV,bz,bY,bH,List.all_append,Int.toNat_natCast,and_self,and_true,true_and]
     try (repeat' apply And.intro)
     all_goals first | rfl | omega | assumption | exact aV _ | exact List.take_of_length_le (by rw [bH];exact Nat.le_refl _) | skip
    ·rw [hd] at hcb
     rw [hcb,if_pos rfl] at hsn
     have nx:=qw (cs0:=cs0) (c:=c) (off:=off) h1 h2 hM hν0 hν1 hν few j (i+1) (by omega) H' M2 w2 hk2 (by rw [hsn];simp)
     rw [hsn,hne,List.nil_append,show ([x.p]:List ByteArray).length=1 from rfl,jL] at nx
     refine af.reach de (k:=2) (n:=100) (S:=(Ez (ar oC off D) [] off D.length c 0 (i:Int) x k k2 a a2 l c' l2 c2 false)) (o:=(ff [0,1,2] true++ff [3,4,5,6,7,8,9,10,11,12,13] false)) (ren:=[(0,0),(1,1),(2,2),(3,5)]) (eqs:=[2,3]) ?_ (by kernel_rfl) (fun i b h=>by rcases hν i b h with h | h | h <;> rw [h] <;> rfl) nx
     rw [Ja (ar oC off D) [] [] (fS x.p) off D.length c 0 (i:Int) ((i+1:Nat):Int) x (.int .i64 0) k k2 a a2 l c' l2 c2]
     simp only [ak,t1,r1,ra,q4,ws,hcl,c8,aV,bz,bY,bH,List.all_append,Int.toNat_natCast,and_self,and_true,true_and]
     try (repeat' apply And.intro)
     all_goals first | rfl | omega | assumption | exact aV _ | exact List.take_of_length_le (by rw [bH];exact Nat.le_refl _) | skip
  ·have q4:(x.2==(4:Int))=false:=by simpa using h4
   have hcb:e9 z1 z2 x=false:=by unfold e9;rw [show (x.k==4)=false from q4];rfl
   rw [hcb,if_neg (by decide),List.append_nil] at hsn
   have nx:=uR h1 h2 hM hν0 hν1 hν few j (i+1) (by omega) H M1 w1 hk (by rw [hsn];exact hne)
   refine af.reach de (k:=2) (n:=100) (o:=([(2,.cells (oC x))]++ff [0] true++ff [1,3,4,5,6,7,8,9,10,11,12,13,14,15,16,17,18,19,20,21,22,23] false++[(1000,.b true)])) (ren:=[(0,0),(1,1),(2,2)]) (eqs:=[2]) ?_ (by kernel_rfl) (fun i b h=>by rcases hν i b h with h | h | h <;> rw [h] <;> rfl) nx
   rw [H6 (ar oC off D) [] [] [] off D.length c 0 (i:Int) ((i+1:Nat):Int) x (.int .i64 0)]
   simp only [ak,t1,r1,ra,q4,ws,hcl,c8,aV,bz,bY,bH,List.all_append,Int.toNat_natCast,and_self,and_true,true_and]
   try (repeat' apply And.intro)
   all_goals first | rfl | omega | assumption | exact aV _ | exact List.take_of_length_le (by rw [bH];exact Nat.le_refl _) | skip
end
noncomputable def xb (a:Option Addr) (c:Nat):SM:=(bC aL 11 [.ptr 0 0,.ptr 1 0,.v (.slice a 0 c)] (bO 6 2 0 [cD [],cD []])).getD dC
theorem Iq (a:Option Addr) (c:Nat) (v:Value):ax aL 11 60 (xb a c) ([(1000,.b true)]++ff [0] false) v=[Value.slice none 0 0=v,false=false]:=by kernel_rfl
theorem BW {W:World} {x off:Nat} {v:Option Nat} {cs:Array Value} {e e0:TypeId} {fz f0:Nat × Nat} {s:ByteArray} (hx:W.heap[x]?=some (.cells #[.map v] e0 f0)) (hh:W.heap[x]?=some (.cells cs e fz)) (h0:cs[off+0]?=some (.string s)):False:=by
 rw [hx] at hh
 injection hh with hh
 injection hh with e1 _ _
 rw [← e1] at h0
 match off,h0 with
 | 0,h0=>simp at h0
 | off+1,h0=>simp at h0
set_option maxHeartbeats 1000000 in
theorem sY {W:World} {b1 b2:Nat} {z1 z2:ByteArray→Int × List Int} {E1 E2:List cg} {a:Option Addr} {l c:Nat} {D:List bU} (hn:b1≠b2) (h1:dJ W b1 z1 E1) (h2:dJ W b2 z2 E2) (hO:gC W a l c D) (few:D.length≤1000):
  Calls Try.prog 11 #[bX b1,bX b2,.slice a l c] W (L5 W (aG z1 z2 D)):=by
 obtain ⟨v1,c1⟩:=h1.tree.cells
 obtain ⟨v2,c2⟩:=h2.tree.cells
 have zero:D=[]→l=0→Calls Try.prog 11 #[bX b1,bX b2,.slice a l c] W (L5 W (aG z1 z2 D)):=by
  rintro rfl rfl
  have ho:∀ (j:Nat) (o':SO) (b' c':Nat),[SO.look [],SO.look []][j]?=some o'→[(b1,0),(b2,0)][j]?=some (b',c')→∃ r,W.heap[b']?=some r∧OR (aE [(b1,0),(b2,0)]) j o' r:=by
   intro j o' b' c' q1 q2
   match j with
   | 0=>
    simp only [List.getElem?_cons_zero,Option.some.injEq] at q1 q2
    subst q1
    cases q2
    exact ⟨_,c1,[],_,_,_,rfl,ay.nil,fun k y h=>by simp at h⟩
   | 1=>
    simp only [List.getElem?_cons_succ,List.getElem?_cons_zero,Option.some.injEq] at q1 q2
    subst q1
    cases q2
    exact ⟨_,c2,[],_,_,_,rfl,ay.nil,fun k y h=>by simp at h⟩
   | j+2=>simp at q1
  refine aY (E:=aL) rfl (d:=6) (l:=[(b1,0),(b2,0)]) (os:=[.look [],.look []]) rfl (by simp) (by simpa using hn) ho rfl (args:=[.ptr 0 0,.ptr 1 0,.v (.slice a 0 c)]) (a:=[bX b1,bX b2,.slice a 0 c]) (S0:=xb a c) (by kernel_rfl) (ay.cons (VR.aC.2 ⟨(b1,0),rfl,rfl⟩) (ay.cons (VR.aC.2 ⟨(b2,0),rfl,rfl⟩) (ay.cons (VR.ah.2 rfl) ay.nil))) fun cs0=>?_
  refine af.ax de (n:=60) (o:=[(1000,.b true)]++ff [0] false) (v:=.slice none 0 0) ?_ fun ν' M1 w1 s' w' _ hB hr=>⟨aI (fun z=>a6 (os:=[_,_])) hB hr,_,rfl,.inl ⟨rfl,rfl⟩⟩
  rw [Iq]
  simp only [ak,and_self,and_true,true_and]
 rcases hO with ⟨hl,hD⟩ | ⟨b,off,cs,e,fz,rfl,hl,hlc,hh,hoff,hc⟩
 ·exact zero hD hl
 ·cases D with
  | nil=>exact zero rfl hl.symm
  | cons y D=>
   generalize hE:y::D=E at hl hc few
   subst hl
   have hne:∀ {x:Nat} {v:Option Nat},W.heap[x]?=some (.cells #[.map v] 63 (0,0))→x≠b:=by
    rintro x v hx rfl
    exact BW hx hh (hc 0 (.string y.p) (by rw [← hE];rfl))
   have ho:∀ (j:Nat) (o':SO) (b' c':Nat),[SO.look [],SO.look [],SO.look (ar oC off E)][j]?=some o'→[(b1,0),(b2,0),(b,0)][j]?=some (b',c')→∃ r,W.heap[b']?=some r∧OR (aE [(b1,0),(b2,0),(b,0)]) j o' r:=by
    intro j o' b' c' q1 q2
    match j with
    | 0=>
     simp only [List.getElem?_cons_zero,Option.some.injEq] at q1 q2
     subst q1
     cases q2
     exact ⟨_,c1,[],_,_,_,rfl,ay.nil,fun k y h=>by simp at h⟩
    | 1=>
     simp only [List.getElem?_cons_succ,List.getElem?_cons_zero,Option.some.injEq] at q1 q2
     subst q1
     cases q2
     exact ⟨_,c2,[],_,_,_,rfl,ay.nil,fun k y h=>by simp at h⟩
    | 2=>
     simp only [List.getElem?_cons_succ,List.getElem?_cons_zero,Option.some.injEq] at q1 q2
     subst q1
     cases q2
     exact ⟨_,hh,eK (h:=oV) (fun ν x=>ay.lits ν (oV x)) hoff hc⟩
    | j+3=>simp at q1
   refine aY (E:=aL) rfl (d:=6) (l:=[(b1,0),(b2,0),(b,0)]) (os:=[.look [],.look [],.look (ar oC off E)]) rfl (by simp) (by simpa using ⟨⟨hn,hne c1⟩,hne c2⟩) ho rfl (args:=[.ptr 0 0,.ptr 1 0,.sl 2 off E.length (some c)]) (a:=[bX b1,bX b2,.slice (some ⟨b,off,none⟩) E.length c]) (S0:=CY (ar oC off E) off E.length c) (by kernel_rfl) (ay.cons (VR.aC.2 ⟨(b1,0),rfl,rfl⟩) (ay.cons (VR.aC.2 ⟨(b2,0),rfl,rfl⟩) (ay.cons (VR.aQ.2 ⟨(b,0),rfl,hlc,rfl⟩) ay.nil))) fun cs0=>?_
   have hM:∀ z,¬ (aT [(b1,0),(b2,0),(b,0)] ([SO.look [],SO.look [],SO.look (ar oC off E)].map fun o=>(o,false))) z:=fun z=>a6 (os:=[_,_,_])
   have hK0:=Kept.start (H0:=W.hp) (M:=aT [(b1,0),(b2,0),(b,0)] ([SO.look [],SO.look [],SO.look (ar oC off E)].map fun o=>(o,false))) (w:=W) (Hp.Sub.refl _) (fun z o _=>hM z) (dh (by
    intro j o' m b' c' q1 q2
    rw [List.getElem?_map] at q1
    obtain ⟨o2,q3,q4⟩:=Option.map_eq_some_iff.1 q1
    cases q4
    exact ho j o' b' c' q3 q2)) (fun _ h=>h)
   have hν:∀ i b',aE [(b1,0),(b2,0),(b,0)] i=some b'→i=0∨i=1∨i=2:=fun i b' h=>by
    match i with
    | 0=>exact .inl rfl
    | 1=>exact .inr (.inl rfl)
    | 2=>exact .inr (.inr rfl)
    | i+3=>simp [aE] at h
   have hcl:(ar oC off E).all ab=true:=bw dK
   have nx:=uR (cs0:=cs0) (c:=c) (off:=off) (ν:=aE [(b1,0),(b2,0),(b,0)]) h1 h2 hM rfl rfl hν few E.length 0 (by omega) W.hp _ W hK0 rfl
   refine af.reach de (k:=2) (n:=60) (o:=(ff [0,1,2,3,4,5,6,7] false++[(1000,.b true)])) (ren:=[(0,0),(1,1),(2,2)]) (eqs:=[2]) (F:=jc off E.length c aK 0) (d:=6) (l:=fA (ar oC off E)) ?_ (by kernel_rfl) (fun i b h=>by rcases hν i b h with h | h | h <;> rw [h] <;> rfl) nx
   rw [Mq (m:=[]) (w:=[]) (l':=[]) (k:=0) (i:=0) (i':=0) (x:=⟨⟨#[]⟩,0,0⟩) (v:=.int .i64 0)]
   simp only [ak,hcl,aK,and_self,and_true,true_and]
   try (repeat' apply And.intro)
   all_goals first | rfl | skip
end ca
end paths
end Go.Proofs.Ytbjmmnegkpeboaa
set_option linter.unusedSimpArgs false
set_option linter.unusedVariables false
set_option maxRecDepth 100000
namespace Go.Proofs.Ytbjmmnegkpeboaa
open Go Go.Rx Go.RowKit Go.Proofs
namespace paths
inductive mu (W:World) (a:Option Addr) (l c:Nat) (D:List aA):Prop where
 | none (hl:l=0) (hD:D=[])
 | some (b off:Nat) (cs:Array Value) (e:TypeId) (fz:Nat × Nat) (ha:a=.some ⟨b,off,.none⟩) (hl:D.length=l) (hlc:l≤c) (hh:W.heap[b]?=.some (.cells cs e fz)) (hoff:off≤cs.size) (hc:∀ (k:Nat) (v:Value),(D.flatMap iV)[k]?=.some v→cs[off+k]?=.some v)
theorem mu.keep {W w:World} {a:Option Addr} {l c:Nat} {D:List aA} (h:mu W a l c D) (hk:∀ k,k<W.heap.size→w.heap[k]?=W.heap[k]?):mu w a l c D:=by
 rcases h with ⟨hl,hD⟩ | ⟨b,off,cs,e,fz,ha,hl,hlc,hh,hoff,hc⟩
 ·exact .none hl hD
 ·exact .some b off cs e fz ha hl hlc ((hk b (Array.getElem?_eq_some_iff.1 hh).1).trans hh) hoff hc
structure sE (W:World) (x:aA):Prop where
 p:x.p.size≤reachBytes
 nil:x.a=none→x.l=0
 l:x.l≤reachBytes
 ys:∃ ys:List Int,fV W x.a x.l ys∧∀ y∈ys,0≤y∧y<256
section
variable {H:Type} {enc:TypeId × Value→H} {W:World} {base:Nat} {spare:Nat→Bool} {held:Bool}
theorem Gz {vs:List Value} {n:Nat} {y:DataW H × List MemPlace} (h:DataW.trod enc Try.prog W base spare held n 41 vs=some y) (hw:∀ q∈y.1.weights Try.prog 41,q≤reachBytes):∃ r:{ x:aA // sE W x },vs=iV r.1:=by
 have hs:Try.prog.underlying 41=some (.struct (structFields Try.prog 41)):=by kernel_rfl
 obtain ⟨xs,n',_,_,hl,_,_⟩:=DataW.trod_struct hs h
 have hl:vs.length=3:=hl.trans (by kernel_rfl)
 obtain ⟨n0,y0,h0,w0⟩:=gP (i:=0) (o:=0) (ft:=9) (k:=1) h hs (by kernel_rfl) (by kernel_rfl) (by kernel_rfl) (by kernel_rfl)
 obtain ⟨n2,y2,h2,w2⟩:=gP (i:=1) (o:=1) (ft:=39) (k:=2) h hs (by kernel_rfl) (by kernel_rfl) (by kernel_rfl) (by kernel_rfl)
 have hs2:Try.prog.underlying 39=some (.struct (structFields Try.prog 39)):=by kernel_rfl
 obtain ⟨n3,y3,h3,w3⟩:=gP (i:=0) (o:=0) (ft:=3) (k:=1) h2 hs2 (by kernel_rfl) (by kernel_rfl) (by kernel_rfl) (by kernel_rfl)
 obtain ⟨n4,y4,h4,w4⟩:=gP (i:=1) (o:=1) (ft:=37) (k:=1) h2 hs2 (by kernel_rfl) (by kernel_rfl) (by kernel_rfl) (by kernel_rfl)
 match vs,hl with
 | [v0,v2,v3],_=>
  obtain ⟨s,hs0,hx0,_⟩:=DataW.trod_string Try.underlying9 h0
  obtain ⟨z3,hz3,_,_⟩:=DataW.trod_int Try.underlying3 h3
  cases hs0;cases hz3
  have h4':DataW.trod enc Try.prog W base spare held n4 37 [v3]=some y4:=h4
  have hsl:∃ a l c,v3=.slice a l c:=by
   rcases Deep.open_slice Try.underlying37 h4' with ⟨h0,_⟩ | ⟨a',len,cap,m,n',D,Pl,hcs,_⟩
   ·cases h0;exact ⟨_,_,_,rfl⟩
   ·cases hcs;exact ⟨_,_,_,rfl⟩
  obtain ⟨a,l,c,rfl⟩:=hsl
  obtain ⟨q1,q2,q3⟩:=Dg Try.underlying37 Try.underlying5 (by kernel_rfl) (by kernel_rfl) h4' fun q hq=>hw q (w2 q (w4 q hq))
  refine ⟨⟨⟨s,z3,a,l,c⟩,⟨?_,q1,q2,q3⟩⟩,rfl⟩
  have:=hw s.data.toList.length (w0 _ (by rw [hx0];unfold DataW.weights;exact List.mem_singleton.2 rfl))
  simpa using this
theorem EL {a:Option Addr} {l c:Nat} {d:DataW H} {p:List MemPlace} (h:DataW.Trod enc Try.prog W base spare held 22 (.slice a l c) d p) (hw:∀ q∈d.weights Try.prog 22,q≤reachBytes):
  ∃ D:List aA,mu W a l c D∧(∀ x∈D,sE W x)∧l≤9223372036854775807:=by
 obtain ⟨n,hn⟩:=h
 have hr:=we (h:=fun r:{ x:aA // sE W x }=>iV r.1) (C:=3) (by decide) (fun _=>rfl) (fun vs n y h hq=>Gz h fun q hq'=>hw q (hq q hq')) Try.underlying22 (by kernel_rfl) hn
 obtain ⟨⟨hlc,hcm⟩,rfl | ⟨b,off,xs,cs,e,fz,rfl,rfl,hh,hoff,hc⟩⟩:=hr
 ·exact ⟨[],.none rfl rfl,fun x hx=>(nomatch hx),by omega⟩
 ·refine ⟨xs.map (·.1),.some b off cs e fz rfl (by simp) hlc hh hoff fun k v hk=>hc k v ?_,fun x hx=>?_,Nat.le_trans hlc (Nat.le_trans hcm (by decide))⟩
  ·rw [List.flatMap_map] at hk;exact hk
  ·obtain ⟨r,_,rfl⟩:=List.mem_map.1 hx
   exact r.2
end
noncomputable def Jf (W:World) (a:Option Addr) (l:Nat):List Int:=open Classical in if h:∃ ys:List Int,fV W a l ys∧∀ y∈ys,0≤y∧y<256 then Classical.choose h else []
theorem Ie {W:World} {x:aA} (h:sE W x):fV W x.a x.l (Jf W x.a x.l):=by
 unfold Jf
 rw [dif_pos h.ys]
 exact (Classical.choose_spec h.ys).1
theorem Dp {W:World} {D:List aA} (hm:MX W) (h:∀ x∈D,sE W x):mi D (Jf W) W:=⟨hm,fun x hx=>Ie (h x hx)⟩
theorem tT {W:World} {a:Option Addr} {l c:Nat} {D:List aA} {ys:Option Addr→Nat→List Int} (h:mu W a l c D) (hX:mi D ys W) (hD:lE D):Calls Try.prog 7 #[.slice a l c] W (tQ D ys W):=by
 rcases h with ⟨rfl,rfl⟩ | ⟨b,off,cs,e,fz,rfl,rfl,hlc,hh,hoff,hc⟩
 ·exact xa hX.1 ys a c
 ·exact vb hX hD hlc hh hoff hc
noncomputable def Dr (l:List SV) (off n c:Nat):SM:=(bC aL 4 [.sl 0 off n (some c)] (bO 6 1 0 [cD l])).getD dC
noncomputable def Ik:List SI:=dn aL 2 60 (Dr [] 0 0 0) [(1000,.b true)]
noncomputable def wL (off n c:Nat) (z i:Int):SF:={ fn:=4,tm:=eO 30 6 ([.sl 0 off n (some c),.aJ,.aJ,.v (.int .i64 z),.aJ,.aJ,.sl 0 off n (some c),.v (.int .i64 n),.v (.int .i64 i)]++List.replicate 21 .aJ),todo:=Ik,defers:=[],ret:=false,kind:=.normal,ro:=none }
theorem QV (l:List SV) (off n c:Nat) (x:aA) (z i z' i':Int) (v:Value):reach aL 2 60 (Dr l off n c) (ff [0,1,2,3,4,5,6] false++[(1000,.b true)]) [(0,0)] [0] (wL off n c 0 0) 6 [cD l]=[off=off∧n=n∧some c=some c,vZ 0=vZ 0,off=off∧n=n∧some c=some c,vZ (↑n:Int)=vZ (↑n:Int),vZ 0=vZ 0,l=l,l.all ab=true]:=by kernel_rfl
theorem PY (l:List SV) (off n c:Nat) (x:aA) (z i z' i':Int) (v:Value):reach aL 2 100 (SM.at (wL off n c z i) 6 [cD l]) ([(2,.cells (iC x))]++ff [0] true++ff [1,3,4,5,6,7,8,9,10] false++[(1000,.b true)]) [(0,0)] [0] (wL off n c z' i') 6 [cD l]=[off=off∧n=n∧some c=some c,vZ (IntKind.i64.wrap (z+(↑x.4:Int)))=vZ z',off=off∧n=n∧some c=some c,vZ (↑n:Int)=vZ (↑n:Int),vZ (IntKind.i64.wrap (i+1))=vZ i',l=l,l.all ab=true,decide ((↑x.1.size:Int)>200)=false,List.take 3 (List.drop (off+i.toNat*3) l)=iC x∧(iC x).length=3,ao i n=true,decide (i<(↑n:Int))=true]:=by kernel_rfl
theorem QZ (l:List SV) (off n c:Nat) (x:aA) (z i z' i':Int) (v:Value):ax aL 4 100 (SM.at (wL off n c z i) 6 [cD l]) ([(2,.cells (iC x))]++ff [0,3] true++ff [1,4] false++[(1000,.b true)]) v=[Value.bool false=v,decide ((↑x.1.size:Int)>200)=true,List.take 3 (List.drop (off+i.toNat*3) l)=iC x∧(iC x).length=3,ao i n=true,decide (i<(↑n:Int))=true]:=by kernel_rfl
theorem Pq (l:List SV) (off n c:Nat) (x:aA) (z i z' i':Int) (v:Value):ax aL 4 100 (SM.at (wL off n c z i) 6 [cD l]) (ff [1,2,3,4] true++ff [0] false++[(1000,.b true)]) v=[Value.bool (decide (z≤20000))=v,decide ((↑n:Int)≤200)=true,decide ((↑n:Int)≤200)=true,decide ((↑n:Int)≤200)=true,decide (i<(↑n:Int))=false]:=by kernel_rfl
theorem Pf (l:List SV) (off n c:Nat) (x:aA) (z i z' i':Int) (v:Value):ax aL 4 100 (SM.at (wL off n c z i) 6 [cD l]) (ff [0,1,2,3,4] false++[(1000,.b true)]) v=[Value.bool false=v,decide ((↑n:Int)≤200)=false,decide ((↑n:Int)≤200)=false,decide ((↑n:Int)≤200)=false,decide (i<(↑n:Int))=false]:=by kernel_rfl
theorem O1 (a:Option Addr) (c:Nat) (v:Value):ax aL 4 100 (ch aL 4 [.v (.slice a 0 c)]) (ff [1,2,3] true++ff [0,4] false++[(1000,.b true)]) v=[Value.bool true=v,true=true,true=true,true=true,false=false]:=by kernel_rfl
def DR (z:Int) (xs:List aA):Int:=xs.foldl (fun n e=>IntKind.i64.wrap (n+(e.l:Int))) z
def mS (e:aA):Bool:=!decide ((e.p.size:Int)>200)
def e5 (xs:List aA):Bool:=xs.all mS&&(decide ((xs.length:Int)≤200)&&decide (DR 0 xs≤20000))
theorem BI (z:Int) (xs:List aA) (e:aA):DR z (xs++[e])=IntKind.i64.wrap (DR z xs+(e.l:Int)):=by
 unfold DR;rw [List.foldl_append];rfl
section
variable {M:Own} {w0:World} {cs0:List Frame} {R:Ending→World→Prop} {ν:aU} {xs:List aA} {off c:Nat}
theorem Cs (hν:∀ i b,ν i=some b→i=0) (hl:xs.length≤9223372036854775807) (hM:∀ b,¬ M b) (hR:∀ w',Below w0.heap.size w0 w'→R (.returned (.bool (e5 xs))) w'):
  ∀ (j k:Nat),k+j=xs.length→(xs.take k).all mS=true→af aL M w0 cs0 4 R ν (SM.at (wL off xs.length c (DR 0 (xs.take k)) (k:Int)) 6 [cD (ar iC off xs)])
 | 0,k,hk,hs=>by
  have hk:k=xs.length:=by omega
  subst hk
  rw [List.take_length] at hs ⊢
  have f0:decide ((xs.length:Int)<(xs.length:Int))=false:=decide_eq_false (by omega)
  by_cases h:(xs.length:Int)≤200
  ·have h1:=decide_eq_true h
   refine af.ax de (n:=100) (o:=(ff [1,2,3,4] true++ff [0] false++[(1000,.b true)])) (v:=.bool (e5 xs)) ?_ fun ν' M1 w1 s' w' _ hB hr=>hR _ (aI hM hB hr)
   rw [Pq (z':=0) (i':=0) (x:=⟨⟨#[]⟩,0,none,0,0⟩)]
   simp only [ak,f0,h1,and_self,and_true,true_and]
   unfold e5
   rw [hs,h1];simp
  ·have h1:=decide_eq_false h
   refine af.ax de (n:=100) (o:=(ff [0,1,2,3,4] false++[(1000,.b true)])) (v:=.bool (e5 xs)) ?_ fun ν' M1 w1 s' w' _ hB hr=>hR _ (aI hM hB hr)
   rw [Pf (z':=0) (i':=0) (x:=⟨⟨#[]⟩,0,none,0,0⟩)]
   simp only [ak,f0,h1,and_self,and_true,true_and]
   unfold e5
   rw [hs,h1];simp
 | j+1,k,hk,hs=>by
  have hi:k<xs.length:=by omega
  have nx:=Cs hν hl hM hR j (k+1) (by omega)
  generalize hx:xs[k]=x
  have hxk:xs[k]?=some x:=by rw [← hx];exact List.getElem?_eq_getElem hi
  have t1:decide ((k:Int)<(xs.length:Int))=true:=decide_eq_true (by omega)
  have r1:=aO hi
  have ws:IntKind.i64.wrap ((k:Int)+1)=((k+1:Nat):Int):=by rw [wi (by omega)];omega
  have ra:=fM (off:=off) cV hxk
  have hcl:(ar iC off xs).all ab=true:=bw bt
  rw [List.take_succ_eq_append_getElem hi,BI,List.all_append,hs,hx] at nx
  by_cases h:(x.p.size:Int)>200
  ·have h1:decide ((x.1.size:Int)>200)=true:=decide_eq_true h
   have hf:e5 xs=false:=by
    unfold e5
    have:xs.all mS=false:=by
     rw [← Bool.not_eq_true,List.all_eq_true]
     intro ha
     have:=ha x (List.mem_of_getElem? hxk)
     unfold mS at this
     rw [show decide ((x.p.size:Int)>200)=true from h1] at this
     exact absurd this (by decide)
    rw [this];rfl
   refine af.ax de (n:=100) (o:=([(2,.cells (iC x))]++ff [0,3] true++ff [1,4] false++[(1000,.b true)])) (v:=.bool (e5 xs)) ?_ fun ν' M1 w1 s' w' _ hB hr=>hR _ (aI hM hB hr)
   rw [QZ (z':=0) (i':=0)]
   simp only [ak,Int.toNat_natCast,t1,r1,ra,cV,h1,hf,and_self,and_true,true_and]
  ·have h1:decide ((x.1.size:Int)>200)=false:=decide_eq_false h
   have h2:mS x=true:=by unfold mS;rw [show decide ((x.p.size:Int)>200)=false from h1];rfl
   have nx:=nx (by simp [h2])
   refine af.reach de (k:=2) (n:=100) (o:=([(2,.cells (iC x))]++ff [0] true++ff [1,3,4,5,6,7,8,9,10] false++[(1000,.b true)])) (ren:=[(0,0)]) (eqs:=[0]) ?_ (by kernel_rfl) (fun i b h=>by rw [hν i b h];rfl) nx
   rw [PY (v:=.int .i64 0)]
   simp only [ak,Int.toNat_natCast,t1,r1,ws,ra,hcl,cV,h1,and_self,and_true,true_and]
   try (repeat' apply And.intro)
   all_goals first | rfl | exact ws.symm | exact ws | skip
end
theorem oj {W:World} {a:Option Addr} {l c:Nat} {D:List aA} (h:mu W a l c D) (hl:l≤9223372036854775807):Calls Try.prog 4 #[.slice a l c] W fun e w'=>Below W.heap.size W w'∧e=.returned (.bool (e5 D)):=by
 rcases h with ⟨rfl,rfl⟩ | ⟨b,off,cs,e,fz,rfl,rfl,hlc,hh,hoff,hc⟩
 ·refine ek (E:=aL) (args:=[.v (.slice a 0 c)]) (a:=[.slice a 0 c]) (n:=100) (o:=(ff [1,2,3] true++ff [0,4] false++[(1000,.b true)])) rfl rfl de (by kernel_rfl) (ay.cons (VR.ah.2 rfl) ay.nil) ⟨?_⟩
  rw [O1]
  simp only [ak,and_self,and_true,true_and]
  rfl
 ·refine (aY (E:=aL) (R:=fun e w'=>Below W.heap.size W w'∧e=.returned (.bool (e5 D))) rfl (d:=6) (l:=[(b,0)]) (os:=[.look (ar iC off D)]) rfl (by simp) (by simp) ?_ rfl (args:=[.sl 0 off D.length (some c)]) (a:=[.slice (some ⟨b,off,none⟩) D.length c]) (S0:=Dr (ar iC off D) off D.length c) (by kernel_rfl) (ay.cons (VR.aQ.2 ⟨(b,0),rfl,hlc,rfl⟩) ay.nil) fun cs0=>?_)
  ·intro j o' b' c' h1 h2
   match j with
   | 0=>
    simp only [List.getElem?_cons_zero,Option.some.injEq] at h1 h2
    subst h1
    cases h2
    exact ⟨_,hh,eK (h:=iV) (fun ν x=>ay.lits ν (iV x)) hoff hc⟩
   | j+1=>simp at h1
  ·have hM:∀ z,¬ (aT [(b,0)] ([SO.look (ar iC off D)].map fun o=>(o,false))) z:=fun z=>a6
   have hν:∀ i c,aE [(b,0)] i=some c→i=0:=fun i c h=>fQ h
   have hcl:(ar iC off D).all ab=true:=bw bt
   have nx:=Cs (w0:=W) (cs0:=cs0) (R:=fun e w'=>Below W.heap.size W w'∧e=.returned (.bool (e5 D))) (c:=c) (off:=off) hν (by omega) hM (fun w' hB=>⟨hB,rfl⟩) D.length 0 (by omega) rfl
   refine af.reach de (k:=2) (n:=60) (o:=(ff [0,1,2,3,4,5,6] false++[(1000,.b true)])) (ren:=[(0,0)]) (eqs:=[0]) (F:=wL off D.length c 0 0) (d:=6) (l:=[cD (ar iC off D)]) ?_ (by kernel_rfl) (fun i b h=>by rw [hν i b h];rfl) nx
   rw [QV (x:=⟨⟨#[]⟩,0,none,0,0⟩) (z:=0) (i:=0) (z':=0) (i':=0) (v:=.int .i64 0)]
   simp only [ak,hcl,and_self,and_true,true_and]
theorem xB {W:World} {D:List aA} (hm:MX W) (h:∀ x∈D,sE W x) (hl:e5 D=true):lE D∧mi D (Jf W) W:=by
 unfold e5 at hl
 rw [Bool.and_eq_true,Bool.and_eq_true,decide_eq_true_eq,decide_eq_true_eq,List.all_eq_true] at hl
 obtain ⟨h1,h2,_⟩:=hl
 refine ⟨⟨fun x hx=>?_,fun x hx=>(h x hx).nil,by omega⟩,Dp hm h⟩
 have:=h1 x hx
 unfold mS at this
 simp only [Bool.not_eq_true',decide_eq_false_iff_not] at this
 omega
def aF (ys:aA→List Int) (xs:List aA) (p:ByteArray):Int × List Int:=match xs.find? (oR p) with | some e=>(e.k,ys e) | none=>(0,[])
section
variable {cm ys:aA→List Int} {E:List cg} {cl:Nat} {xs:List aA}
theorem dQ.look (h:dQ cm ys E cl xs) (p:ByteArray):Bh cm E p=aF ys xs p:=by
 unfold Bh aF
 cases hf:yu E p with
 | none=>
  have hm:∀ e∈E,e.1.p≠p:=fun e he h=>List.find?_eq_none.1 hf e he (fw.2 h)
  cases hq:xs.find? (oR p) with
  | none=>rfl
  | some e=>
   obtain ⟨f,hfE,hk⟩:=h.to (List.mem_of_find?_eq_some hq)
   exact absurd ((lp hk).1.trans (fw.1 (List.find?_some hq))) (hm f hfE)
 | some f=>
  have hfE:=List.mem_of_find?_eq_some hf
  have hfp:f.1.p=p:=fw.1 (List.find?_some (p:=fun e:cg=>oR p e.1) hf)
  cases hq:xs.find? (oR p) with
  | none=>
   obtain ⟨e,he,hk⟩:=h.of hfE
   exact absurd (fw.2 ((lp hk.symm).1.symm.trans hfp)) (List.find?_eq_none.1 hq e he)
  | some e=>
   obtain ⟨f',hf',hk⟩:=h.to (List.mem_of_find?_eq_some hq)
   have:f'=f:=zg h.ok hf' hfE ((lp hk).1.trans ((fw.1 (List.find?_some hq)).trans hfp.symm))
   subst this
   exact Prod.ext (lp hk).2 (CM hk)
end
theorem dw.Mc {w:World} {e:aA} {zs:List Int} (h:dw w.hp e zs) (hl:zs.length≤140737488355328):vc w.hp e.a e.l zs:=fun w2 hs=>
 nN.Mc (w:=w2) (x:=⟨e.p,0,e.k,e.a,e.l,e.c⟩) (h.mono hs) hl
theorem Gy {W w w0:World} {b cl:Nat} {E:List cg} {xs D:List aA} {ys:Option Addr→Nat→List Int} (hX:mi D ys W) (inv:dQ (kC w.hp) (yI ys) E cl xs) (data:∀ e∈E,∃ zs,dw w.hp e.1 zs∧uq w0 e.1) (hsub:∀ e∈xs,e∈D)
  (ht:(xs=[]∧gT w b)∨∃ m,w0.heap.size≤m∧ky w b m E cl):dJ w b (aF (yI ys) xs) E:=by
 have hT:iX w b E:=by
  rcases ht with ⟨h0,hZ⟩ | ⟨m,_,hA⟩
  ·subst h0
   exact .inr ⟨inv.empty,hZ⟩
  ·refine .inl ⟨m,cl,?_,hA,inv.ok⟩
   rintro rfl
   have:=hA.row
   rw [hA.map] at this;cases this
 refine ⟨hT,fun w2 hs p=>?_,by rw [inv.len];have:=inv.few;omega⟩
 rw [← inv.look p]
 refine yX (hT.keep hs) (fun e he=>?_) p
 obtain ⟨zs,hz,_⟩:=data e he
 obtain ⟨x,hx,hk⟩:=inv.of he
 have hc:=CM hk.symm
 rw [hz.cont] at hc
 rw [hz.cont]
 have hC:=(hX.2 x (hsub x hx))
 refine hz.Mc ?_
 rw [hc]
 show (ys x.a x.l).length≤_
 rw [hC.1];exact hC.2.1
def en (xs:List aA):List ByteArray:=xs.map fun x=>x.p
def tk (z1 z2:ByteArray→Int × List Int) (xs1 xs2:List aA):List ByteArray:=(bL (bL [] (en xs1)) (en xs2)).filter (pd z1 z2)
theorem FW {z1 z2:ByteArray→Int × List Int} {E1 E2:List cg} {xs1 xs2:List aA} (h1:(E1.map fun e=>e.1.p).Perm (en xs1)) (h2:(E2.map fun e=>e.1.p).Perm (en xs2)):lr z1 z2 E1 E2=tk z1 z2 xs1 xs2:=by
 unfold lr tk
 refine ta (vx (ks _)) (List.Pairwise.filter _ (jt (jt List.Pairwise.nil))) fun e=>?_
 rw [ui,(bB _).mem_iff,List.mem_append,(bB _).mem_iff,(bB _).mem_iff,List.mem_filter,List.mem_filter,List.mem_filter,nd,nd,h1.mem_iff,h2.mem_iff]
 simp only [List.not_mem_nil,false_or]
 constructor
 ·rintro (⟨h,h3⟩ | ⟨h,h3⟩)
  ·exact ⟨.inl h,h3⟩
  ·exact ⟨.inr h,h3⟩
 ·rintro ⟨h | h,h3⟩
  ·exact .inl ⟨h,h3⟩
  ·exact .inr ⟨h,h3⟩
def wH (z1 z2:ByteArray→Int × List Int) (xs1 xs2:List aA) (D:List bU):List ByteArray:=(tk z1 z2 xs1 xs2).filter fun q=>!D.any (cL q)
theorem vU {W:World} {b1 b2:Nat} {z1 z2:ByteArray→Int × List Int} {E1 E2:List cg} {xs1 xs2:List aA} {a:Option Addr} {l c:Nat} {D:List bU} (hX:MX W) (hn:b1≠b2) (h1:dJ W b1 z1 E1) (h2:dJ W b2 z2 E2) (n1:(E1.map fun e=>e.1.p).Perm (en xs1)) (n2:(E2.map fun e=>e.1.p).Perm (en xs2)) (hO:gC W a l c D) (few:D.length≤1000):
  Calls Try.prog 9 #[bX b1,bX b2,.slice a l c] W (NV W (wH z1 z2 xs1 xs2 D)):=by
 have:=sM hX hn h1 h2 hO few
 rw [FW n1 n2] at this
 exact this
end paths
end Go.Proofs.Ytbjmmnegkpeboaa
set_option linter.unusedSimpArgs false
set_option linter.unusedVariables false
set_option maxRecDepth 100000
namespace Go.Proofs.Ytbjmmnegkpeboaa
open Go Go.Rx Go.RowKit Go.Proofs
namespace paths
namespace rd
def gD (ys:Option Addr→Nat→List Int) (a:Option Addr) (l:Nat):List Int:=if a.isNone then [] else ys a l
def oQ (D:List aA) (a:Option Addr) (l:Nat):Prop:=(∃ x∈D,x.a=a∧x.l=l)∨(a=none∧l=0)
def zS (D:List aA) (ys:Option Addr→Nat→List Int):Co:=fun args sh=>match args with
 | [X,Y]=>match kG X,kG Y with
  | some (k,a,l,c),some (k',a',l',c')=>some (.bool ((k==k')&&(Lib.bytesOf (gD ys a l)==Lib.bytesOf (gD ys a' l'))),oQ D a l∧oQ D a' l')
  | _,_=>none
 | _=>none
def MG (D:List aA) (ys:Option Addr→Nat→List Int):List (FuncId × Sum):=[(31,gh Dn),(25,eE AL),(24,eE (zS D ys))]
noncomputable def ee (D:List aA) (ys:Option Addr→Nat→List Int):Env:={ EP [] [] with sums:=fun f=>(MG D ys).lookup f }
def pS (l:List SV):Option (SO × Bool):=some (.row l 41 (0,0) (some 3),false)
def gq (l1 l2:List SV) (n1 n2:Nat) (r:List (Option (SO × Bool))):List (Option (SO × Bool)):=[pS l1,pS l2]++r
noncomputable def Dd (D:List aA) (ys:Option Addr→Nat→List Int) (l1 l2:List SV) (n1 n2:Nat):SM:=(bC (ee D ys) 21 [.sl 0 0 n1 none,.sl 1 0 n2 none] (bO 6 2 0 [pS l1,pS l2])).getD dC
noncomputable def LD:List SI:=dn (ee [] fun _ _=>[]) 2 100 (Dd [] (fun _ _=>[]) [] [] 0 0) [(1000,.b true)]
noncomputable def tq (n1 n2:Nat) (x:SV) (i:Int):SF:={ fn:=21,tm:=eO 69 7 ([.sl 0 0 n1 none,.sl 1 0 n2 none,.aJ,.aJ,.aJ,x,.v (.int .i64 i)]++List.replicate 62 .aJ),todo:=LD,defers:=[],ret:=false,kind:=.normal,ro:=none }
noncomputable def KP:List SI:=dn (ee [] fun _ _=>[]) 2 100 (SM.at (tq 0 0 aK 0) 6 (gq [] [] 0 0 [])) (ff [0] false)
noncomputable def y9 (n1 n2:Nat) (x:SV) (i:Int):SF:={ fn:=21,tm:=eO 69 7 ([.sl 0 0 n1 none,.sl 1 0 n2 none,.aJ,.aJ,.aJ,x,.aJ,.v (.int .i64 i)]++List.replicate 61 .aJ),todo:=KP,defers:=[],ret:=false,kind:=.normal,ro:=none }
noncomputable def JW:List SI:=dn (ee [] fun _ _=>[]) 2 100 (SM.at (y9 0 0 aK 0) 6 (gq [] [] 0 0 [])) (ff [0] false)
noncomputable def ou (n1 n2:Nat) (x y:SV) (i:Int):SF:={ fn:=21,tm:=eO 69 7 ([.sl 0 0 n1 none,.sl 1 0 n2 none,.aJ,.aJ,.aJ,x,.aJ,.aJ,y,.v (.int .i64 i)]++List.replicate 59 .aJ),todo:=JW,defers:=[],ret:=false,kind:=.normal,ro:=none }
theorem Ly (D:List aA) (ys:Option Addr→Nat→List Int) (l1 l2:List SV) (n1 n2:Nat):reach (ee D ys) 2 100 (Dd D ys l1 l2 n1 n2) [(1000,.b true)] [(0,0),(1,1)] [0,1] (tq n1 n2 aK 0) 6 (gq l1 l2 n1 n2 [])=[0=0∧n1=n1∧nZ=none,0=0∧n2=n2∧nZ=none,Value.slice none 0 0=Value.slice none 0 0,vZ 0=vZ 0,l1=l1,l1.all ab=true,l2=l2,l2.all ab=true]:=by kernel_rfl
theorem LS (D:List aA) (ys:Option Addr→Nat→List Int) (l1 l2:List SV) (n1 n2:Nat) (m':List SV) (k k':Nat) (q:ByteArray) (i i':Int):reach (ee D ys) 2 100 (SM.at (tq n1 n2 aK i) 6 (gq l1 l2 n1 n2 [])) (ff [0] true++[(2,.cells [.v (.string q)])]) [(0,0),(1,1),(2,2)] [0,1,2] (tq n1 n2 (.sl 2 0 k' none) i') 6 (gq l1 l2 n1 n2 [bJ m'])=[0=0∧n1=n1∧nZ=none,0=0∧n2=n2∧nZ=none,0=0∧(eB [] q).length=k'∧nZ=none,vZ (IntKind.i64.wrap (i+1))=vZ i',l1=l1,l1.all ab=true,l2=l2,l2.all ab=true,List.map SV.v (vQ (eB [] q))=m',m'.all ab=true,Value.slice none 0 0=Value.slice none 0 0∧Value.agg { toList:=[vZ 2,Value.slice none 0 0]:Array Value }=Value.agg { toList:=[vZ 2,Value.slice none 0 0]:Array Value },l1[0+i.toNat*3+0]?=some (SV.v (Value.string q)),ao i n1=true,decide (i<(↑n1:Int))=true]:=by kernel_rfl
theorem K8 (D:List aA) (ys:Option Addr→Nat→List Int) (l1 l2:List SV) (n1 n2:Nat) (m m':List SV) (k k':Nat) (q:ByteArray) (i i':Int):reach (ee D ys) 2 100 (SM.at (tq n1 n2 (.sl 2 0 k none) i) 6 (gq l1 l2 n1 n2 [bJ m])) (ff [0] true++[(2,.cells [.v (.string q)])]) [(0,0),(1,1),(2,3)] [0,1,2] (tq n1 n2 (.sl 2 0 k' none) i') 6 (gq l1 l2 n1 n2 [bJ m'])=[0=0∧n1=n1∧nZ=none,0=0∧n2=n2∧nZ=none,0=0∧(eB (cZ m k) q).length=k'∧nZ=none,vZ (IntKind.i64.wrap (i+1))=vZ i',l1=l1,l1.all ab=true,l2=l2,l2.all ab=true,List.map SV.v (vQ (eB (cZ m k) q))=m',m'.all ab=true,pg m k (cZ m k)∧41=41∧(0,0)=(0,0)∧some 3=some 3∧Value.agg { toList:=[vZ 2,Value.slice none 0 0]:Array Value }=Value.agg { toList:=[vZ 2,Value.slice none 0 0]:Array Value }∧q.size≤1000000000∧∀ (e:ByteArray),e∈cZ m k→e.size≤1000000000,l1[0+i.toNat*3+0]?=some (SV.v (Value.string q)),ao i n1=true,decide (i<(↑n1:Int))=true]:=by kernel_rfl
theorem Kl (D:List aA) (ys:Option Addr→Nat→List Int) (l1 l2:List SV) (n1 n2:Nat) (m:List SV) (k:Nat) (i:Int):reach (ee D ys) 2 100 (SM.at (tq n1 n2 (.sl 2 0 k none) i) 6 (gq l1 l2 n1 n2 [bJ m])) (ff [0] false) [(0,0),(1,1),(2,2)] [0,1,2] (y9 n1 n2 (.sl 2 0 k none) 0) 6 (gq l1 l2 n1 n2 [bJ m])=[0=0∧n1=n1∧nZ=none,0=0∧n2=n2∧nZ=none,0=0∧k=k∧nZ=none,vZ 0=vZ 0,l1=l1,l1.all ab=true,l2=l2,l2.all ab=true,m=m,m.all ab=true,decide (i<(↑n1:Int))=false]:=by kernel_rfl
theorem Lm (D:List aA) (ys:Option Addr→Nat→List Int) (l1 l2:List SV) (n1 n2:Nat) (m m':List SV) (k k':Nat) (q:ByteArray) (i i':Int):reach (ee D ys) 2 100 (SM.at (y9 n1 n2 (.sl 2 0 k none) i) 6 (gq l1 l2 n1 n2 [bJ m])) (ff [0] true++[(2,.cells [.v (.string q)])]) [(0,0),(1,1),(2,3)] [0,1,2] (y9 n1 n2 (.sl 2 0 k' none) i') 6 (gq l1 l2 n1 n2 [bJ m'])=[0=0∧n1=n1∧nZ=none,0=0∧n2=n2∧nZ=none,0=0∧(eB (cZ m k) q).length=k'∧nZ=none,vZ (IntKind.i64.wrap (i+1))=vZ i',l1=l1,l1.all ab=true,l2=l2,l2.all ab=true,List.map SV.v (vQ (eB (cZ m k) q))=m',m'.all ab=true,pg m k (cZ m k)∧41=41∧(0,0)=(0,0)∧some 3=some 3∧Value.agg { toList:=[vZ 2,Value.slice none 0 0]:Array Value }=Value.agg { toList:=[vZ 2,Value.slice none 0 0]:Array Value }∧q.size≤1000000000∧∀ (e:ByteArray),e∈cZ m k→e.size≤1000000000,l2[0+i.toNat*3+0]?=some (SV.v (Value.string q)),ao i n2=true,decide (i<(↑n2:Int))=true]:=by kernel_rfl
theorem KE (D:List aA) (ys:Option Addr→Nat→List Int) (l1 l2:List SV) (n1 n2:Nat) (m:List SV) (k:Nat) (i:Int):reach (ee D ys) 2 100 (SM.at (y9 n1 n2 (.sl 2 0 k none) i) 6 (gq l1 l2 n1 n2 [bJ m])) (ff [0] false) [(0,0),(1,1),(2,2)] [0,1,2] (ou n1 n2 (.sl 2 0 k none) aK 0) 6 (gq l1 l2 n1 n2 [bJ m])=[0=0∧n1=n1∧nZ=none,0=0∧n2=n2∧nZ=none,0=0∧k=k∧nZ=none,Value.slice none 0 0=Value.slice none 0 0,vZ 0=vZ 0,l1=l1,l1.all ab=true,l2=l2,l2.all ab=true,m=m,m.all ab=true,decide (i<(↑n2:Int))=false]:=by kernel_rfl
theorem JI (D:List aA) (ys:Option Addr→Nat→List Int) (l1 l2:List SV) (n1 n2:Nat) (m:List SV) (k:Nat) (i:Int) (v:Value):ax (ee D ys) 21 100 (SM.at (ou n1 n2 (.sl 2 0 k none) aK i) 6 (gq l1 l2 n1 n2 [bJ m])) (ff [0] false) v=[Value.slice none 0 0=v,decide (i<(↑k:Int))=false]:=by kernel_rfl
theorem Jk (D:List aA) (ys:Option Addr→Nat→List Int) (l1 l2:List SV) (n1 n2:Nat) (m o:List SV) (k r:Nat) (i:Int):bR (ee D ys) 21 100 (SM.at (ou n1 n2 (.sl 2 0 k none) (.sl 3 0 r none) i) 6 (gq l1 l2 n1 n2 [bJ m,e6 o])) (ff [0] false) (.sl 3 0 r none) 3 (.row o 9 (0,0) (some 1))=[0=0∧r=r∧nZ=none,o=o,o.all ab=true,decide (i<(↑k:Int))=false]:=by kernel_rfl
theorem Lc (D:List aA) (ys:Option Addr→Nat→List Int) (l1 l2:List SV) (n1 n2:Nat) (m o o' w:List SV) (k r:Nat) (q:ByteArray) (i i':Int):reach (ee D ys) 2 200 (SM.at (ou n1 n2 (.sl 2 0 k none) aK i) 6 (gq l1 l2 n1 n2 [bJ m])) (ff [0] true++[(2,.cells [.v (.string q)]),(4,.cells [.v (.string q)]),(6,.cells [.v (.string q)]),(10,.b false)]) [(0,0),(1,1),(2,2)] [0,1,2] (ou n1 n2 (.sl 2 0 k none) aK i') 6 (gq l1 l2 n1 n2 [bJ m])=[0=0∧n1=n1∧nZ=none,0=0∧n2=n2∧nZ=none,0=0∧k=k∧nZ=none,Value.slice none 0 0=Value.slice none 0 0,vZ (IntKind.i64.wrap (i+1))=vZ i',l1=l1,l1.all ab=true,l2=l2,l2.all ab=true,m=m,m.all ab=true,(!((aj q (ae l1 n1)).2==(aj q (ae l2 n2)).2&&List.map (fun n=>UInt8.ofNat n.toNat) (gD ys (aj q (ae l1 n1)).3 (aj q (ae l1 n1)).4)==List.map (fun n=>UInt8.ofNat n.toNat) (gD ys (aj q (ae l2 n2)).3 (aj q (ae l2 n2)).4)))=false,oQ D (aj q (ae l1 n1)).3 (aj q (ae l1 n1)).4∧oQ D (aj q (ae l2 n2)).3 (aj q (ae l2 n2)).4,41=41∧bc l2 n2 (ae l2 n2)∧ae l2 n2≠[],(q==q)=true,m[0+i.toNat*3+0]?=some (SV.v (Value.string q)),41=41∧bc l1 n1 (ae l1 n1)∧ae l1 n1≠[],m[0+i.toNat*3+0]?=some (SV.v (Value.string q)),ao i k=true,m[0+i.toNat*3+0]?=some (SV.v (Value.string q)),ao i k=true,decide (i<(↑k:Int))=true]:=by kernel_rfl
theorem Kg (D:List aA) (ys:Option Addr→Nat→List Int) (l1 l2:List SV) (n1 n2:Nat) (m o o' w:List SV) (k r:Nat) (q:ByteArray) (i i':Int):reach (ee D ys) 2 200 (SM.at (ou n1 n2 (.sl 2 0 k none) aK i) 6 (gq l1 l2 n1 n2 [bJ m])) (ff [0] true++[(2,.cells [.v (.string q)]),(4,.cells [.v (.string q)]),(6,.cells [.v (.string q)]),(10,.b true),(12,.cells [.v (.string q)]),(13,.b false)]) [(0,0),(1,1),(2,2),(3,4)] [0,1,2,3] (ou n1 n2 (.sl 2 0 k none) (.sl 3 0 1 none) i') 6 (gq l1 l2 n1 n2 [bJ m,e6 o'])=[0=0∧n1=n1∧nZ=none,0=0∧n2=n2∧nZ=none,0=0∧k=k∧nZ=none,0=0∧1=1∧nZ=none,vZ (IntKind.i64.wrap (i+1))=vZ i',l1=l1,l1.all ab=true,l2=l2,l2.all ab=true,m=m,m.all ab=true,[]++List.take (1*1) (List.drop 0 (aX (List.replicate 1 (List.map SV.v [Value.string ⟨⟨[]⟩⟩])).flatten (0*1) [SV.v (Value.string q)]))=o',o'.all ab=true,false=false,m[0+i.toNat*3+0]?=some (SV.v (Value.string q)),ao i k=true,(!((aj q (ae l1 n1)).2==(aj q (ae l2 n2)).2&&List.map (fun n=>UInt8.ofNat n.toNat) (gD ys (aj q (ae l1 n1)).3 (aj q (ae l1 n1)).4)==List.map (fun n=>UInt8.ofNat n.toNat) (gD ys (aj q (ae l2 n2)).3 (aj q (ae l2 n2)).4)))=true,oQ D (aj q (ae l1 n1)).3 (aj q (ae l1 n1)).4∧oQ D (aj q (ae l2 n2)).3 (aj q (ae l2 n2)).4,41=41∧bc l2 n2 (ae l2 n2)∧ae l2 n2≠[],(q==q)=true,m[0+i.toNat*3+0]?=some (SV.v (Value.string q)),41=41∧bc l1 n1 (ae l1 n1)∧ae l1 n1≠[],m[0+i.toNat*3+0]?=some (SV.v (Value.string q)),ao i k=true,m[0+i.toNat*3+0]?=some (SV.v (Value.string q)),ao i k=true,decide (i<(↑k:Int))=true]:=by kernel_rfl
theorem JS (D:List aA) (ys:Option Addr→Nat→List Int) (l1 l2:List SV) (n1 n2:Nat) (m o o' w:List SV) (k r:Nat) (q:ByteArray) (i i':Int):reach (ee D ys) 2 200 (SM.at (ou n1 n2 (.sl 2 0 k none) (.sl 3 0 r none) i) 6 (gq l1 l2 n1 n2 [bJ m,e6 o])) (ff [0] true++[(2,.cells [.v (.string q)]),(4,.cells [.v (.string q)]),(6,.cells [.v (.string q)]),(10,.b false)]) [(0,0),(1,1),(2,2),(3,3)] [0,1,2,3] (ou n1 n2 (.sl 2 0 k none) (.sl 3 0 r none) i') 6 (gq l1 l2 n1 n2 [bJ m,e6 o])=[0=0∧n1=n1∧nZ=none,0=0∧n2=n2∧nZ=none,0=0∧k=k∧nZ=none,0=0∧r=r∧nZ=none,vZ (IntKind.i64.wrap (i+1))=vZ i',l1=l1,l1.all ab=true,l2=l2,l2.all ab=true,m=m,m.all ab=true,o=o,o.all ab=true,(!((aj q (ae l1 n1)).2==(aj q (ae l2 n2)).2&&List.map (fun n=>UInt8.ofNat n.toNat) (gD ys (aj q (ae l1 n1)).3 (aj q (ae l1 n1)).4)==List.map (fun n=>UInt8.ofNat n.toNat) (gD ys (aj q (ae l2 n2)).3 (aj q (ae l2 n2)).4)))=false,oQ D (aj q (ae l1 n1)).3 (aj q (ae l1 n1)).4∧oQ D (aj q (ae l2 n2)).3 (aj q (ae l2 n2)).4,41=41∧bc l2 n2 (ae l2 n2)∧ae l2 n2≠[],(q==q)=true,m[0+i.toNat*3+0]?=some (SV.v (Value.string q)),41=41∧bc l1 n1 (ae l1 n1)∧ae l1 n1≠[],m[0+i.toNat*3+0]?=some (SV.v (Value.string q)),ao i k=true,m[0+i.toNat*3+0]?=some (SV.v (Value.string q)),ao i k=true,decide (i<(↑k:Int))=true]:=by kernel_rfl
theorem KF (D:List aA) (ys:Option Addr→Nat→List Int) (l1 l2:List SV) (n1 n2:Nat) (m o o' w:List SV) (k r:Nat) (q:ByteArray) (i i':Int):reach (ee D ys) 2 200 (SM.at (ou n1 n2 (.sl 2 0 k none) (.sl 3 0 r none) i) 6 (gq l1 l2 n1 n2 [bJ m,e6 o])) (ff [0] true++[(2,.cells [.v (.string q)]),(4,.cells [.v (.string q)]),(6,.cells [.v (.string q)]),(10,.b true),(12,.cells [.v (.string q)]),(13,.app o w)]) [(0,0),(1,1),(2,2),(3,5)] [0,1,2,3] (ou n1 n2 (.sl 2 0 k none) (.sl 3 0 (r+1) none) i') 6 (gq l1 l2 n1 n2 [bJ m,e6 o'])=[0=0∧n1=n1∧nZ=none,0=0∧n2=n2∧nZ=none,0=0∧k=k∧nZ=none,0=0∧r+1=r+1∧nZ=none,vZ (IntKind.i64.wrap (i+1))=vZ i',l1=l1,l1.all ab=true,l2=l2,l2.all ab=true,m=m,m.all ab=true,o++w=o',o'.all ab=true,((List.take (1*1) (List.drop 0 (aX (List.replicate 1 (List.map SV.v [Value.string ⟨⟨[]⟩⟩])).flatten (0*1) [SV.v (Value.string q)]))=w∧w.length=1*1)∧1≠0∧(2*(r+1)+1024)*16≤140737488355328)∧List.take (r*1) o=o∧o.length=r*1∧w.all SV.flat=true,m[0+i.toNat*3+0]?=some (SV.v (Value.string q)),ao i k=true,(!((aj q (ae l1 n1)).2==(aj q (ae l2 n2)).2&&List.map (fun n=>UInt8.ofNat n.toNat) (gD ys (aj q (ae l1 n1)).3 (aj q (ae l1 n1)).4)==List.map (fun n=>UInt8.ofNat n.toNat) (gD ys (aj q (ae l2 n2)).3 (aj q (ae l2 n2)).4)))=true,oQ D (aj q (ae l1 n1)).3 (aj q (ae l1 n1)).4∧oQ D (aj q (ae l2 n2)).3 (aj q (ae l2 n2)).4,41=41∧bc l2 n2 (ae l2 n2)∧ae l2 n2≠[],(q==q)=true,m[0+i.toNat*3+0]?=some (SV.v (Value.string q)),41=41∧bc l1 n1 (ae l1 n1)∧ae l1 n1≠[],m[0+i.toNat*3+0]?=some (SV.v (Value.string q)),ao i k=true,m[0+i.toNat*3+0]?=some (SV.v (Value.string q)),ao i k=true,decide (i<(↑k:Int))=true]:=by kernel_rfl
def gy (l1 l2:List SV) (n1 n2:Nat) (r:List (Option (SO × Bool))):List (Option (SO × Bool)):=[pS l1]++r
noncomputable def DZ (D:List aA) (ys:Option Addr→Nat→List Int) (l1 l2:List SV) (n1 n2:Nat):SM:=(bC (ee D ys) 21 [.sl 0 0 n1 none,.v (.slice none 0 0)] (bO 6 1 0 [pS l1])).getD dC
noncomputable def JA:List SI:=dn (ee [] fun _ _=>[]) 2 100 (DZ [] (fun _ _=>[]) [] [] 0 0) [(1000,.b true)]
noncomputable def sZ (n1 n2:Nat) (x:SV) (i:Int):SF:={ fn:=21,tm:=eO 69 7 ([.sl 0 0 n1 none,.v (.slice none 0 0),.aJ,.aJ,.aJ,x,.v (.int .i64 i)]++List.replicate 62 .aJ),todo:=JA,defers:=[],ret:=false,kind:=.normal,ro:=none }
noncomputable def K6:List SI:=dn (ee [] fun _ _=>[]) 2 100 (SM.at (sZ 0 0 aK 0) 6 (gy [] [] 0 0 [])) (ff [0] false)
noncomputable def Dm (n1 n2:Nat) (x:SV) (i:Int):SF:={ fn:=21,tm:=eO 69 7 ([.sl 0 0 n1 none,.v (.slice none 0 0),.aJ,.aJ,.aJ,x,.aJ,.v (.int .i64 i)]++List.replicate 61 .aJ),todo:=K6,defers:=[],ret:=false,kind:=.normal,ro:=none }
noncomputable def K5:List SI:=dn (ee [] fun _ _=>[]) 2 100 (SM.at (Dm 0 0 aK 0) 6 (gy [] [] 0 0 [])) (ff [0] false)
noncomputable def oy (n1 n2:Nat) (x y:SV) (i:Int):SF:={ fn:=21,tm:=eO 69 7 ([.sl 0 0 n1 none,.v (.slice none 0 0),.aJ,.aJ,.aJ,x,.aJ,.aJ,y,.v (.int .i64 i)]++List.replicate 59 .aJ),todo:=K5,defers:=[],ret:=false,kind:=.normal,ro:=none }
theorem LM (D:List aA) (ys:Option Addr→Nat→List Int) (l1 l2:List SV) (n1 n2:Nat):reach (ee D ys) 2 100 (DZ D ys l1 l2 n1 n2) [(1000,.b true)] [(0,0)] [0] (sZ n1 n2 aK 0) 6 (gy l1 l2 n1 n2 [])=[0=0∧n1=n1∧nZ=none,Value.slice none 0 0=Value.slice none 0 0,Value.slice none 0 0=Value.slice none 0 0,vZ 0=vZ 0,l1=l1,l1.all ab=true]:=by kernel_rfl
theorem KL (D:List aA) (ys:Option Addr→Nat→List Int) (l1 l2:List SV) (n1 n2:Nat) (m':List SV) (k k':Nat) (q:ByteArray) (i i':Int):reach (ee D ys) 2 100 (SM.at (sZ n1 n2 aK i) 6 (gy l1 l2 n1 n2 [])) (ff [0] true++[(2,.cells [.v (.string q)])]) [(0,0),(1,1)] [0,1] (sZ n1 n2 (.sl 1 0 k' none) i') 6 (gy l1 l2 n1 n2 [bJ m'])=[0=0∧n1=n1∧nZ=none,Value.slice none 0 0=Value.slice none 0 0,0=0∧(eB [] q).length=k'∧nZ=none,vZ (IntKind.i64.wrap (i+1))=vZ i',l1=l1,l1.all ab=true,List.map SV.v (vQ (eB [] q))=m',m'.all ab=true,Value.slice none 0 0=Value.slice none 0 0∧Value.agg { toList:=[vZ 2,Value.slice none 0 0]:Array Value }=Value.agg { toList:=[vZ 2,Value.slice none 0 0]:Array Value },l1[0+i.toNat*3+0]?=some (SV.v (Value.string q)),ao i n1=true,decide (i<(↑n1:Int))=true]:=by kernel_rfl
theorem JK (D:List aA) (ys:Option Addr→Nat→List Int) (l1 l2:List SV) (n1 n2:Nat) (m m':List SV) (k k':Nat) (q:ByteArray) (i i':Int):reach (ee D ys) 2 100 (SM.at (sZ n1 n2 (.sl 1 0 k none) i) 6 (gy l1 l2 n1 n2 [bJ m])) (ff [0] true++[(2,.cells [.v (.string q)])]) [(0,0),(1,2)] [0,1] (sZ n1 n2 (.sl 1 0 k' none) i') 6 (gy l1 l2 n1 n2 [bJ m'])=[0=0∧n1=n1∧nZ=none,Value.slice none 0 0=Value.slice none 0 0,0=0∧(eB (cZ m k) q).length=k'∧nZ=none,vZ (IntKind.i64.wrap (i+1))=vZ i',l1=l1,l1.all ab=true,List.map SV.v (vQ (eB (cZ m k) q))=m',m'.all ab=true,pg m k (cZ m k)∧41=41∧(0,0)=(0,0)∧some 3=some 3∧Value.agg { toList:=[vZ 2,Value.slice none 0 0]:Array Value }=Value.agg { toList:=[vZ 2,Value.slice none 0 0]:Array Value }∧q.size≤1000000000∧∀ (e:ByteArray),e∈cZ m k→e.size≤1000000000,l1[0+i.toNat*3+0]?=some (SV.v (Value.string q)),ao i n1=true,decide (i<(↑n1:Int))=true]:=by kernel_rfl
theorem Kw (D:List aA) (ys:Option Addr→Nat→List Int) (l1 l2:List SV) (n1 n2:Nat) (m:List SV) (k:Nat) (i:Int):reach (ee D ys) 2 100 (SM.at (sZ n1 n2 (.sl 1 0 k none) i) 6 (gy l1 l2 n1 n2 [bJ m])) (ff [0] false) [(0,0),(1,1)] [0,1] (Dm n1 n2 (.sl 1 0 k none) 0) 6 (gy l1 l2 n1 n2 [bJ m])=[0=0∧n1=n1∧nZ=none,Value.slice none 0 0=Value.slice none 0 0,0=0∧k=k∧nZ=none,vZ 0=vZ 0,l1=l1,l1.all ab=true,m=m,m.all ab=true,decide (i<(↑n1:Int))=false]:=by kernel_rfl
theorem Ln (D:List aA) (ys:Option Addr→Nat→List Int) (l1 l2:List SV) (n1 n2:Nat) (m:List SV) (k:Nat) (i:Int):reach (ee D ys) 2 100 (SM.at (Dm n1 n2 (.sl 1 0 k none) i) 6 (gy l1 l2 n1 n2 [bJ m])) (ff [0] false) [(0,0),(1,1)] [0,1] (oy n1 n2 (.sl 1 0 k none) aK 0) 6 (gy l1 l2 n1 n2 [bJ m])=[0=0∧n1=n1∧nZ=none,Value.slice none 0 0=Value.slice none 0 0,0=0∧k=k∧nZ=none,Value.slice none 0 0=Value.slice none 0 0,vZ 0=vZ 0,l1=l1,l1.all ab=true,m=m,m.all ab=true,decide (i<(↑(0:Nat):Int))=false]:=by kernel_rfl
theorem JV (D:List aA) (ys:Option Addr→Nat→List Int) (l1 l2:List SV) (n1 n2:Nat) (m:List SV) (k:Nat) (i:Int) (v:Value):ax (ee D ys) 21 100 (SM.at (oy n1 n2 (.sl 1 0 k none) aK i) 6 (gy l1 l2 n1 n2 [bJ m])) (ff [0] false) v=[Value.slice none 0 0=v,decide (i<(↑k:Int))=false]:=by kernel_rfl
theorem Jt (D:List aA) (ys:Option Addr→Nat→List Int) (l1 l2:List SV) (n1 n2:Nat) (m o:List SV) (k r:Nat) (i:Int):bR (ee D ys) 21 100 (SM.at (oy n1 n2 (.sl 1 0 k none) (.sl 2 0 r none) i) 6 (gy l1 l2 n1 n2 [bJ m,e6 o])) (ff [0] false) (.sl 2 0 r none) 2 (.row o 9 (0,0) (some 1))=[0=0∧r=r∧nZ=none,o=o,o.all ab=true,decide (i<(↑k:Int))=false]:=by kernel_rfl
theorem Jq (D:List aA) (ys:Option Addr→Nat→List Int) (l1 l2:List SV) (n1 n2:Nat) (m o o' w:List SV) (k r:Nat) (q:ByteArray) (i i':Int):reach (ee D ys) 2 200 (SM.at (oy n1 n2 (.sl 1 0 k none) aK i) 6 (gy l1 l2 n1 n2 [bJ m])) (ff [0] true++[(2,.cells [.v (.string q)]),(4,.cells [.v (.string q)]),(6,.cells [.v (.string q)]),(10,.b false)]) [(0,0),(1,1)] [0,1] (oy n1 n2 (.sl 1 0 k none) aK i') 6 (gy l1 l2 n1 n2 [bJ m])=[0=0∧n1=n1∧nZ=none,Value.slice none 0 0=Value.slice none 0 0,0=0∧k=k∧nZ=none,Value.slice none 0 0=Value.slice none 0 0,vZ (IntKind.i64.wrap (i+1))=vZ i',l1=l1,l1.all ab=true,m=m,m.all ab=true,(!((aj q (ae l1 n1)).2==(aj q []).2&&List.map (fun n=>UInt8.ofNat n.toNat) (gD ys (aj q (ae l1 n1)).3 (aj q (ae l1 n1)).4)==List.map (fun n=>UInt8.ofNat n.toNat) (gD ys (aj q []).3 (aj q []).4)))=false,oQ D (aj q (ae l1 n1)).3 (aj q (ae l1 n1)).4∧oQ D (aj q []).3 (aj q []).4,True,(q==q)=true,m[0+i.toNat*3+0]?=some (SV.v (Value.string q)),41=41∧bc l1 n1 (ae l1 n1)∧ae l1 n1≠[],m[0+i.toNat*3+0]?=some (SV.v (Value.string q)),ao i k=true,m[0+i.toNat*3+0]?=some (SV.v (Value.string q)),ao i k=true,decide (i<(↑k:Int))=true]:=by kernel_rfl
theorem JY (D:List aA) (ys:Option Addr→Nat→List Int) (l1 l2:List SV) (n1 n2:Nat) (m o o' w:List SV) (k r:Nat) (q:ByteArray) (i i':Int):reach (ee D ys) 2 200 (SM.at (oy n1 n2 (.sl 1 0 k none) aK i) 6 (gy l1 l2 n1 n2 [bJ m])) (ff [0] true++[(2,.cells [.v (.string q)]),(4,.cells [.v (.string q)]),(6,.cells [.v (.string q)]),(10,.b true),(12,.cells [.v (.string q)]),(13,.b false)]) [(0,0),(1,1),(2,3)] [0,1,2] (oy n1 n2 (.sl 1 0 k none) (.sl 2 0 1 none) i') 6 (gy l1 l2 n1 n2 [bJ m,e6 o'])=[0=0∧n1=n1∧nZ=none,Value.slice none 0 0=Value.slice none 0 0,0=0∧k=k∧nZ=none,0=0∧1=1∧nZ=none,vZ (IntKind.i64.wrap (i+1))=vZ i',l1=l1,l1.all ab=true,m=m,m.all ab=true,[]++List.take (1*1) (List.drop 0 (aX (List.replicate 1 (List.map SV.v [Value.string ⟨⟨[]⟩⟩])).flatten (0*1) [SV.v (Value.string q)]))=o',o'.all ab=true,false=false,m[0+i.toNat*3+0]?=some (SV.v (Value.string q)),ao i k=true,(!((aj q (ae l1 n1)).2==(aj q []).2&&List.map (fun n=>UInt8.ofNat n.toNat) (gD ys (aj q (ae l1 n1)).3 (aj q (ae l1 n1)).4)==List.map (fun n=>UInt8.ofNat n.toNat) (gD ys (aj q []).3 (aj q []).4)))=true,oQ D (aj q (ae l1 n1)).3 (aj q (ae l1 n1)).4∧oQ D (aj q []).3 (aj q []).4,True,(q==q)=true,m[0+i.toNat*3+0]?=some (SV.v (Value.string q)),41=41∧bc l1 n1 (ae l1 n1)∧ae l1 n1≠[],m[0+i.toNat*3+0]?=some (SV.v (Value.string q)),ao i k=true,m[0+i.toNat*3+0]?=some (SV.v (Value.string q)),ao i k=true,decide (i<(↑k:Int))=true]:=by kernel_rfl
theorem J2 (D:List aA) (ys:Option Addr→Nat→List Int) (l1 l2:List SV) (n1 n2:Nat) (m o o' w:List SV) (k r:Nat) (q:ByteArray) (i i':Int):reach (ee D ys) 2 200 (SM.at (oy n1 n2 (.sl 1 0 k none) (.sl 2 0 r none) i) 6 (gy l1 l2 n1 n2 [bJ m,e6 o])) (ff [0] true++[(2,.cells [.v (.string q)]),(4,.cells [.v (.string q)]),(6,.cells [.v (.string q)]),(10,.b false)]) [(0,0),(1,1),(2,2)] [0,1,2] (oy n1 n2 (.sl 1 0 k none) (.sl 2 0 r none) i') 6 (gy l1 l2 n1 n2 [bJ m,e6 o])=[0=0∧n1=n1∧nZ=none,Value.slice none 0 0=Value.slice none 0 0,0=0∧k=k∧nZ=none,0=0∧r=r∧nZ=none,vZ (IntKind.i64.wrap (i+1))=vZ i',l1=l1,l1.all ab=true,m=m,m.all ab=true,o=o,o.all ab=true,(!((aj q (ae l1 n1)).2==(aj q []).2&&List.map (fun n=>UInt8.ofNat n.toNat) (gD ys (aj q (ae l1 n1)).3 (aj q (ae l1 n1)).4)==List.map (fun n=>UInt8.ofNat n.toNat) (gD ys (aj q []).3 (aj q []).4)))=false,oQ D (aj q (ae l1 n1)).3 (aj q (ae l1 n1)).4∧oQ D (aj q []).3 (aj q []).4,True,(q==q)=true,m[0+i.toNat*3+0]?=some (SV.v (Value.string q)),41=41∧bc l1 n1 (ae l1 n1)∧ae l1 n1≠[],m[0+i.toNat*3+0]?=some (SV.v (Value.string q)),ao i k=true,m[0+i.toNat*3+0]?=some (SV.v (Value.string q)),ao i k=true,decide (i<(↑k:Int))=true]:=by kernel_rfl
theorem KO (D:List aA) (ys:Option Addr→Nat→List Int) (l1 l2:List SV) (n1 n2:Nat) (m o o' w:List SV) (k r:Nat) (q:ByteArray) (i i':Int):reach (ee D ys) 2 200 (SM.at (oy n1 n2 (.sl 1 0 k none) (.sl 2 0 r none) i) 6 (gy l1 l2 n1 n2 [bJ m,e6 o])) (ff [0] true++[(2,.cells [.v (.string q)]),(4,.cells [.v (.string q)]),(6,.cells [.v (.string q)]),(10,.b true),(12,.cells [.v (.string q)]),(13,.app o w)]) [(0,0),(1,1),(2,4)] [0,1,2] (oy n1 n2 (.sl 1 0 k none) (.sl 2 0 (r+1) none) i') 6 (gy l1 l2 n1 n2 [bJ m,e6 o'])=[0=0∧n1=n1∧nZ=none,Value.slice none 0 0=Value.slice none 0 0,0=0∧k=k∧nZ=none,0=0∧r+1=r+1∧nZ=none,vZ (IntKind.i64.wrap (i+1))=vZ i',l1=l1,l1.all ab=true,m=m,m.all ab=true,o++w=o',o'.all ab=true,((List.take (1*1) (List.drop 0 (aX (List.replicate 1 (List.map SV.v [Value.string ⟨⟨[]⟩⟩])).flatten (0*1) [SV.v (Value.string q)]))=w∧w.length=1*1)∧1≠0∧(2*(r+1)+1024)*16≤140737488355328)∧List.take (r*1) o=o∧o.length=r*1∧w.all SV.flat=true,m[0+i.toNat*3+0]?=some (SV.v (Value.string q)),ao i k=true,(!((aj q (ae l1 n1)).2==(aj q []).2&&List.map (fun n=>UInt8.ofNat n.toNat) (gD ys (aj q (ae l1 n1)).3 (aj q (ae l1 n1)).4)==List.map (fun n=>UInt8.ofNat n.toNat) (gD ys (aj q []).3 (aj q []).4)))=true,oQ D (aj q (ae l1 n1)).3 (aj q (ae l1 n1)).4∧oQ D (aj q []).3 (aj q []).4,True,(q==q)=true,m[0+i.toNat*3+0]?=some (SV.v (Value.string q)),41=41∧bc l1 n1 (ae l1 n1)∧ae l1 n1≠[],m[0+i.toNat*3+0]?=some (SV.v (Value.string q)),ao i k=true,m[0+i.toNat*3+0]?=some (SV.v (Value.string q)),ao i k=true,decide (i<(↑k:Int))=true]:=by kernel_rfl
def gz (l1 l2:List SV) (n1 n2:Nat) (r:List (Option (SO × Bool))):List (Option (SO × Bool)):=[pS l2]++r
noncomputable def EE (D:List aA) (ys:Option Addr→Nat→List Int) (l1 l2:List SV) (n1 n2:Nat):SM:=(bC (ee D ys) 21 [.v (.slice none 0 0),.sl 0 0 n2 none] (bO 6 1 0 [pS l2])).getD dC
noncomputable def Jr:List SI:=dn (ee [] fun _ _=>[]) 2 100 (EE [] (fun _ _=>[]) [] [] 0 0) [(1000,.b true)]
noncomputable def DJ (n1 n2:Nat) (x:SV) (i:Int):SF:={ fn:=21,tm:=eO 69 7 ([.v (.slice none 0 0),.sl 0 0 n2 none,.aJ,.aJ,.aJ,x,.v (.int .i64 i)]++List.replicate 62 .aJ),todo:=Jr,defers:=[],ret:=false,kind:=.normal,ro:=none }
noncomputable def Jl:List SI:=dn (ee [] fun _ _=>[]) 2 100 (SM.at (DJ 0 0 aK 0) 6 (gz [] [] 0 0 [])) (ff [0] false)
noncomputable def s8 (n1 n2:Nat) (x:SV) (i:Int):SF:={ fn:=21,tm:=eO 69 7 ([.v (.slice none 0 0),.sl 0 0 n2 none,.aJ,.aJ,.aJ,x,.aJ,.v (.int .i64 i)]++List.replicate 61 .aJ),todo:=Jl,defers:=[],ret:=false,kind:=.normal,ro:=none }
noncomputable def Lr:List SI:=dn (ee [] fun _ _=>[]) 2 100 (SM.at (s8 0 0 aK 0) 6 (gz [] [] 0 0 [])) (ff [0] false)
noncomputable def n5 (n1 n2:Nat) (x y:SV) (i:Int):SF:={ fn:=21,tm:=eO 69 7 ([.v (.slice none 0 0),.sl 0 0 n2 none,.aJ,.aJ,.aJ,x,.aJ,.aJ,y,.v (.int .i64 i)]++List.replicate 59 .aJ),todo:=Lr,defers:=[],ret:=false,kind:=.normal,ro:=none }
theorem Lf (D:List aA) (ys:Option Addr→Nat→List Int) (l1 l2:List SV) (n1 n2:Nat):reach (ee D ys) 2 100 (EE D ys l1 l2 n1 n2) [(1000,.b true)] [(0,0)] [0] (DJ n1 n2 aK 0) 6 (gz l1 l2 n1 n2 [])=[Value.slice none 0 0=Value.slice none 0 0,0=0∧n2=n2∧nZ=none,Value.slice none 0 0=Value.slice none 0 0,vZ 0=vZ 0,l2=l2,l2.all ab=true]:=by kernel_rfl
theorem JF (D:List aA) (ys:Option Addr→Nat→List Int) (l1 l2:List SV) (n1 n2:Nat) (i:Int):reach (ee D ys) 2 100 (SM.at (DJ n1 n2 aK i) 6 (gz l1 l2 n1 n2 [])) (ff [0] false) [(0,0)] [0] (s8 n1 n2 aK 0) 6 (gz l1 l2 n1 n2 [])=[Value.slice none 0 0=Value.slice none 0 0,0=0∧n2=n2∧nZ=none,Value.slice none 0 0=Value.slice none 0 0,vZ 0=vZ 0,l2=l2,l2.all ab=true,decide (i<(↑(0:Nat):Int))=false]:=by kernel_rfl
theorem Lk (D:List aA) (ys:Option Addr→Nat→List Int) (l1 l2:List SV) (n1 n2:Nat) (m':List SV) (k k':Nat) (q:ByteArray) (i i':Int):reach (ee D ys) 2 100 (SM.at (s8 n1 n2 aK i) 6 (gz l1 l2 n1 n2 [])) (ff [0] true++[(2,.cells [.v (.string q)])]) [(0,0),(1,1)] [0,1] (s8 n1 n2 (.sl 1 0 k' none) i') 6 (gz l1 l2 n1 n2 [bJ m'])=[Value.slice none 0 0=Value.slice none 0 0,0=0∧n2=n2∧nZ=none,0=0∧(eB [] q).length=k'∧nZ=none,vZ (IntKind.i64.wrap (i+1))=vZ i',l2=l2,l2.all ab=true,List.map SV.v (vQ (eB [] q))=m',m'.all ab=true,Value.slice none 0 0=Value.slice none 0 0∧Value.agg { toList:=[vZ 2,Value.slice none 0 0]:Array Value }=Value.agg { toList:=[vZ 2,Value.slice none 0 0]:Array Value },l2[0+i.toNat*3+0]?=some (SV.v (Value.string q)),ao i n2=true,decide (i<(↑n2:Int))=true]:=by kernel_rfl
theorem JQ (D:List aA) (ys:Option Addr→Nat→List Int) (l1 l2:List SV) (n1 n2:Nat) (m m':List SV) (k k':Nat) (q:ByteArray) (i i':Int):reach (ee D ys) 2 100 (SM.at (s8 n1 n2 (.sl 1 0 k none) i) 6 (gz l1 l2 n1 n2 [bJ m])) (ff [0] true++[(2,.cells [.v (.string q)])]) [(0,0),(1,2)] [0,1] (s8 n1 n2 (.sl 1 0 k' none) i') 6 (gz l1 l2 n1 n2 [bJ m'])=[Value.slice none 0 0=Value.slice none 0 0,0=0∧n2=n2∧nZ=none,0=0∧(eB (cZ m k) q).length=k'∧nZ=none,vZ (IntKind.i64.wrap (i+1))=vZ i',l2=l2,l2.all ab=true,List.map SV.v (vQ (eB (cZ m k) q))=m',m'.all ab=true,pg m k (cZ m k)∧41=41∧(0,0)=(0,0)∧some 3=some 3∧Value.agg { toList:=[vZ 2,Value.slice none 0 0]:Array Value }=Value.agg { toList:=[vZ 2,Value.slice none 0 0]:Array Value }∧q.size≤1000000000∧∀ (e:ByteArray),e∈cZ m k→e.size≤1000000000,l2[0+i.toNat*3+0]?=some (SV.v (Value.string q)),ao i n2=true,decide (i<(↑n2:Int))=true]:=by kernel_rfl
theorem JN (D:List aA) (ys:Option Addr→Nat→List Int) (l1 l2:List SV) (n1 n2:Nat) (m:List SV) (k:Nat) (i:Int):reach (ee D ys) 2 100 (SM.at (s8 n1 n2 (.sl 1 0 k none) i) 6 (gz l1 l2 n1 n2 [bJ m])) (ff [0] false) [(0,0),(1,1)] [0,1] (n5 n1 n2 (.sl 1 0 k none) aK 0) 6 (gz l1 l2 n1 n2 [bJ m])=[Value.slice none 0 0=Value.slice none 0 0,0=0∧n2=n2∧nZ=none,0=0∧k=k∧nZ=none,Value.slice none 0 0=Value.slice none 0 0,vZ 0=vZ 0,l2=l2,l2.all ab=true,m=m,m.all ab=true,decide (i<(↑n2:Int))=false]:=by kernel_rfl
theorem LP (D:List aA) (ys:Option Addr→Nat→List Int) (l1 l2:List SV) (n1 n2:Nat) (m:List SV) (k:Nat) (i:Int) (v:Value):ax (ee D ys) 21 100 (SM.at (n5 n1 n2 (.sl 1 0 k none) aK i) 6 (gz l1 l2 n1 n2 [bJ m])) (ff [0] false) v=[Value.slice none 0 0=v,decide (i<(↑k:Int))=false]:=by kernel_rfl
theorem K7 (D:List aA) (ys:Option Addr→Nat→List Int) (l1 l2:List SV) (n1 n2:Nat) (m o:List SV) (k r:Nat) (i:Int):bR (ee D ys) 21 100 (SM.at (n5 n1 n2 (.sl 1 0 k none) (.sl 2 0 r none) i) 6 (gz l1 l2 n1 n2 [bJ m,e6 o])) (ff [0] false) (.sl 2 0 r none) 2 (.row o 9 (0,0) (some 1))=[0=0∧r=r∧nZ=none,o=o,o.all ab=true,decide (i<(↑k:Int))=false]:=by kernel_rfl
theorem Jv (D:List aA) (ys:Option Addr→Nat→List Int) (l1 l2:List SV) (n1 n2:Nat) (m o o' w:List SV) (k r:Nat) (q:ByteArray) (i i':Int):reach (ee D ys) 2 200 (SM.at (n5 n1 n2 (.sl 1 0 k none) aK i) 6 (gz l1 l2 n1 n2 [bJ m])) (ff [0] true++[(2,.cells [.v (.string q)]),(4,.cells [.v (.string q)]),(6,.cells [.v (.string q)]),(10,.b false)]) [(0,0),(1,1)] [0,1] (n5 n1 n2 (.sl 1 0 k none) aK i') 6 (gz l1 l2 n1 n2 [bJ m])=[Value.slice none 0 0=Value.slice none 0 0,0=0∧n2=n2∧nZ=none,0=0∧k=k∧nZ=none,Value.slice none 0 0=Value.slice none 0 0,vZ (IntKind.i64.wrap (i+1))=vZ i',l2=l2,l2.all ab=true,m=m,m.all ab=true,(!((aj q []).2==(aj q (ae l2 n2)).2&&List.map (fun n=>UInt8.ofNat n.toNat) (gD ys (aj q []).3 (aj q []).4)==List.map (fun n=>UInt8.ofNat n.toNat) (gD ys (aj q (ae l2 n2)).3 (aj q (ae l2 n2)).4)))=false,oQ D (aj q []).3 (aj q []).4∧oQ D (aj q (ae l2 n2)).3 (aj q (ae l2 n2)).4,41=41∧bc l2 n2 (ae l2 n2)∧ae l2 n2≠[],(q==q)=true,m[0+i.toNat*3+0]?=some (SV.v (Value.string q)),True,m[0+i.toNat*3+0]?=some (SV.v (Value.string q)),ao i k=true,m[0+i.toNat*3+0]?=some (SV.v (Value.string q)),ao i k=true,decide (i<(↑k:Int))=true]:=by kernel_rfl
theorem Jw (D:List aA) (ys:Option Addr→Nat→List Int) (l1 l2:List SV) (n1 n2:Nat) (m o o' w:List SV) (k r:Nat) (q:ByteArray) (i i':Int):reach (ee D ys) 2 200 (SM.at (n5 n1 n2 (.sl 1 0 k none) aK i) 6 (gz l1 l2 n1 n2 [bJ m])) (ff [0] true++[(2,.cells [.v (.string q)]),(4,.cells [.v (.string q)]),(6,.cells [.v (.string q)]),(10,.b true),(12,.cells [.v (.string q)]),(13,.b false)]) [(0,0),(1,1),(2,3)] [0,1,2] (n5 n1 n2 (.sl 1 0 k none) (.sl 2 0 1 none) i') 6 (gz l1 l2 n1 n2 [bJ m,e6 o'])=[Value.slice none 0 0=Value.slice none 0 0,0=0∧n2=n2∧nZ=none,0=0∧k=k∧nZ=none,0=0∧1=1∧nZ=none,vZ (IntKind.i64.wrap (i+1))=vZ i',l2=l2,l2.all ab=true,m=m,m.all ab=true,[]++List.take (1*1) (List.drop 0 (aX (List.replicate 1 (List.map SV.v [Value.string ⟨⟨[]⟩⟩])).flatten (0*1) [SV.v (Value.string q)]))=o',o'.all ab=true,false=false,m[0+i.toNat*3+0]?=some (SV.v (Value.string q)),ao i k=true,(!((aj q []).2==(aj q (ae l2 n2)).2&&List.map (fun n=>UInt8.ofNat n.toNat) (gD ys (aj q []).3 (aj q []).4)==List.map (fun n=>UInt8.ofNat n.toNat) (gD ys (aj q (ae l2 n2)).3 (aj q (ae l2 n2)).4)))=true,oQ D (aj q []).3 (aj q []).4∧oQ D (aj q (ae l2 n2)).3 (aj q (ae l2 n2)).4,41=41∧bc l2 n2 (ae l2 n2)∧ae l2 n2≠[],(q==q)=true,m[0+i.toNat*3+0]?=some (SV.v (Value.string q)),True,m[0+i.toNat*3+0]?=some (SV.v (Value.string q)),ao i k=true,m[0+i.toNat*3+0]?=some (SV.v (Value.string q)),ao i k=true,decide (i<(↑k:Int))=true]:=by kernel_rfl
theorem LN (D:List aA) (ys:Option Addr→Nat→List Int) (l1 l2:List SV) (n1 n2:Nat) (m o o' w:List SV) (k r:Nat) (q:ByteArray) (i i':Int):reach (ee D ys) 2 200 (SM.at (n5 n1 n2 (.sl 1 0 k none) (.sl 2 0 r none) i) 6 (gz l1 l2 n1 n2 [bJ m,e6 o])) (ff [0] true++[(2,.cells [.v (.string q)]),(4,.cells [.v (.string q)]),(6,.cells [.v (.string q)]),(10,.b false)]) [(0,0),(1,1),(2,2)] [0,1,2] (n5 n1 n2 (.sl 1 0 k none) (.sl 2 0 r none) i') 6 (gz l1 l2 n1 n2 [bJ m,e6 o])=[Value.slice none 0 0=Value.slice none 0 0,0=0∧n2=n2∧nZ=none,0=0∧k=k∧nZ=none,0=0∧r=r∧nZ=none,vZ (IntKind.i64.wrap (i+1))=vZ i',l2=l2,l2.all ab=true,m=m,m.all ab=true,o=o,o.all ab=true,(!((aj q []).2==(aj q (ae l2 n2)).2&&List.map (fun n=>UInt8.ofNat n.toNat) (gD ys (aj q []).3 (aj q []).4)==List.map (fun n=>UInt8.ofNat n.toNat) (gD ys (aj q (ae l2 n2)).3 (aj q (ae l2 n2)).4)))=false,oQ D (aj q []).3 (aj q []).4∧oQ D (aj q (ae l2 n2)).3 (aj q (ae l2 n2)).4,41=41∧bc l2 n2 (ae l2 n2)∧ae l2 n2≠[],(q==q)=true,m[0+i.toNat*3+0]?=some (SV.v (Value.string q)),True,m[0+i.toNat*3+0]?=some (SV.v (Value.string q)),ao i k=true,m[0+i.toNat*3+0]?=some (SV.v (Value.string q)),ao i k=true,decide (i<(↑k:Int))=true]:=by kernel_rfl
theorem Li (D:List aA) (ys:Option Addr→Nat→List Int) (l1 l2:List SV) (n1 n2:Nat) (m o o' w:List SV) (k r:Nat) (q:ByteArray) (i i':Int):reach (ee D ys) 2 200 (SM.at (n5 n1 n2 (.sl 1 0 k none) (.sl 2 0 r none) i) 6 (gz l1 l2 n1 n2 [bJ m,e6 o])) (ff [0] true++[(2,.cells [.v (.string q)]),(4,.cells [.v (.string q)]),(6,.cells [.v (.string q)]),(10,.b true),(12,.cells [.v (.string q)]),(13,.app o w)]) [(0,0),(1,1),(2,4)] [0,1,2] (n5 n1 n2 (.sl 1 0 k none) (.sl 2 0 (r+1) none) i') 6 (gz l1 l2 n1 n2 [bJ m,e6 o'])=[Value.slice none 0 0=Value.slice none 0 0,0=0∧n2=n2∧nZ=none,0=0∧k=k∧nZ=none,0=0∧r+1=r+1∧nZ=none,vZ (IntKind.i64.wrap (i+1))=vZ i',l2=l2,l2.all ab=true,m=m,m.all ab=true,o++w=o',o'.all ab=true,((List.take (1*1) (List.drop 0 (aX (List.replicate 1 (List.map SV.v [Value.string ⟨⟨[]⟩⟩])).flatten (0*1) [SV.v (Value.string q)]))=w∧w.length=1*1)∧1≠0∧(2*(r+1)+1024)*16≤140737488355328)∧List.take (r*1) o=o∧o.length=r*1∧w.all SV.flat=true,m[0+i.toNat*3+0]?=some (SV.v (Value.string q)),ao i k=true,(!((aj q []).2==(aj q (ae l2 n2)).2&&List.map (fun n=>UInt8.ofNat n.toNat) (gD ys (aj q []).3 (aj q []).4)==List.map (fun n=>UInt8.ofNat n.toNat) (gD ys (aj q (ae l2 n2)).3 (aj q (ae l2 n2)).4)))=true,oQ D (aj q []).3 (aj q []).4∧oQ D (aj q (ae l2 n2)).3 (aj q (ae l2 n2)).4,41=41∧bc l2 n2 (ae l2 n2)∧ae l2 n2≠[],(q==q)=true,m[0+i.toNat*3+0]?=some (SV.v (Value.string q)),True,m[0+i.toNat*3+0]?=some (SV.v (Value.string q)),ao i k=true,m[0+i.toNat*3+0]?=some (SV.v (Value.string q)),ao i k=true,decide (i<(↑k:Int))=true]:=by kernel_rfl
def o6 (l1 l2:List SV) (n1 n2:Nat) (r:List (Option (SO × Bool))):List (Option (SO × Bool)):=[]++r
noncomputable def EU (D:List aA) (ys:Option Addr→Nat→List Int) (l1 l2:List SV) (n1 n2:Nat):SM:=(bC (ee D ys) 21 [.v (.slice none 0 0),.v (.slice none 0 0)] (bO 6 0 0 [])).getD dC
noncomputable def KJ:List SI:=dn (ee [] fun _ _=>[]) 2 100 (EU [] (fun _ _=>[]) [] [] 0 0) [(1000,.b true)]
noncomputable def Dq (n1 n2:Nat) (x:SV) (i:Int):SF:={ fn:=21,tm:=eO 69 7 ([.v (.slice none 0 0),.v (.slice none 0 0),.aJ,.aJ,.aJ,x,.v (.int .i64 i)]++List.replicate 62 .aJ),todo:=KJ,defers:=[],ret:=false,kind:=.normal,ro:=none }
noncomputable def Jm:List SI:=dn (ee [] fun _ _=>[]) 2 100 (SM.at (Dq 0 0 aK 0) 6 (o6 [] [] 0 0 [])) (ff [0] false)
noncomputable def EF (n1 n2:Nat) (x:SV) (i:Int):SF:={ fn:=21,tm:=eO 69 7 ([.v (.slice none 0 0),.v (.slice none 0 0),.aJ,.aJ,.aJ,x,.aJ,.v (.int .i64 i)]++List.replicate 61 .aJ),todo:=Jm,defers:=[],ret:=false,kind:=.normal,ro:=none }
noncomputable def KH:List SI:=dn (ee [] fun _ _=>[]) 2 100 (SM.at (EF 0 0 aK 0) 6 (o6 [] [] 0 0 [])) (ff [0] false)
noncomputable def IC (n1 n2:Nat) (x y:SV) (i:Int):SF:={ fn:=21,tm:=eO 69 7 ([.v (.slice none 0 0),.v (.slice none 0 0),.aJ,.aJ,.aJ,x,.aJ,.aJ,y,.v (.int .i64 i)]++List.replicate 59 .aJ),todo:=KH,defers:=[],ret:=false,kind:=.normal,ro:=none }
theorem Ke (D:List aA) (ys:Option Addr→Nat→List Int) (l1 l2:List SV) (n1 n2:Nat):reach (ee D ys) 2 100 (EU D ys l1 l2 n1 n2) [(1000,.b true)] [] [] (Dq n1 n2 aK 0) 6 (o6 l1 l2 n1 n2 [])=[Value.slice none 0 0=Value.slice none 0 0,Value.slice none 0 0=Value.slice none 0 0,Value.slice none 0 0=Value.slice none 0 0,vZ 0=vZ 0]:=by kernel_rfl
theorem Kq (D:List aA) (ys:Option Addr→Nat→List Int) (l1 l2:List SV) (n1 n2:Nat) (i:Int):reach (ee D ys) 2 100 (SM.at (Dq n1 n2 aK i) 6 (o6 l1 l2 n1 n2 [])) (ff [0] false) [] [] (EF n1 n2 aK 0) 6 (o6 l1 l2 n1 n2 [])=[Value.slice none 0 0=Value.slice none 0 0,Value.slice none 0 0=Value.slice none 0 0,Value.slice none 0 0=Value.slice none 0 0,vZ 0=vZ 0,decide (i<(↑(0:Nat):Int))=false]:=by kernel_rfl
theorem LB (D:List aA) (ys:Option Addr→Nat→List Int) (l1 l2:List SV) (n1 n2:Nat) (i:Int):reach (ee D ys) 2 100 (SM.at (EF n1 n2 aK i) 6 (o6 l1 l2 n1 n2 [])) (ff [0] false) [] [] (IC n1 n2 aK aK 0) 6 (o6 l1 l2 n1 n2 [])=[Value.slice none 0 0=Value.slice none 0 0,Value.slice none 0 0=Value.slice none 0 0,Value.slice none 0 0=Value.slice none 0 0,Value.slice none 0 0=Value.slice none 0 0,vZ 0=vZ 0,decide (i<(↑(0:Nat):Int))=false]:=by kernel_rfl
theorem Lv (D:List aA) (ys:Option Addr→Nat→List Int) (l1 l2:List SV) (n1 n2:Nat) (i:Int) (v:Value):ax (ee D ys) 21 100 (SM.at (IC n1 n2 aK aK i) 6 (o6 l1 l2 n1 n2 [])) (ff [0] false) v=[Value.slice none 0 0=v,decide (i<(↑(0:Nat):Int))=false]:=by kernel_rfl
theorem vu {D:List aA} {ys:Option Addr→Nat→List Int} {w:World} (hX:mi D ys w) (hD:lE D) {a:Option Addr} {l:Nat} (h:oQ D a l):qm w a l (gD ys a l):=by
 cases a with
 | none=>
  have hl:l=0:=by
   rcases h with ⟨x,hx,h1,h2⟩ | ⟨_,h⟩
   ·rw [← h2];exact hD.nil x hx h1
   ·exact h
  subst hl
  exact lJ
 | some a=>
  rcases h with ⟨x,hx,h1,h2⟩ | ⟨h,_⟩
  ·have:=hX.2 x hx
   rw [h1,h2] at this
   exact ⟨this,fun e=>by cases e⟩
  ·cases h
theorem Cd {D:List aA} {ys:Option Addr→Nat→List Int} (hD:lE D):cr Try.prog (mi D ys) (24,eE (zS D ys)):=by
 refine fP ⟨_,Try.func24,by kernel_rfl,by kernel_rfl⟩ fun args sh v q h hq ν M w0 w a hr hX ha=>?_
 unfold zS at h
 split at h
 ·split at h
  ·rename_i k a1 l1 c1 k' a2 l2 c2 h1 h2
   cases h
   obtain ⟨y1,as1,rfl,q1,ha2⟩:=ha.cons_inv
   obtain ⟨y2,as2,rfl,q2,ha3⟩:=ha2.cons_inv
   obtain rfl:=ha3.aB
   obtain rfl:=iZ h1 q1
   obtain rfl:=iZ h2 q2
   exact (tO (vu hX hD hq.1) (vu hX hD hq.2)).mono fun e w' ⟨he,hB⟩=>⟨hB,he⟩
  ·cases h
 ·cases h
theorem LZ {M0 M:Own} {w00 w0:World} {D:List aA} {ys:Option Addr→Nat→List Int} (hD:lE D) (hM:∀ z,¬ M0 z) (hB:dz M0 w00 M w0) (hX:mi D ys w00):aW (ee D ys) M w0:=
 aW.Bg (Checked.mixed Try.checked) (by kernel_rfl) (gu.of ke rfl eY) (ep.list (X:=mi D ys) (l:=MG D ys) rfl (fun r h=>by
  simp only [MG,List.mem_cons,List.not_mem_nil,or_false] at h
  rcases h with rfl | rfl | rfl
  ·exact C0
  ·exact AM
  ·exact Cd hD) fun ν s w hr _=>hX.keep fun k hk=>(hr.frame k (Nat.lt_of_lt_of_le hk hB.size) (hB.frame k hk (hM k)).2).trans (hB.frame k hk (hM k)).1) (fun f g h=>by cases h)
end rd
end paths
end Go.Proofs.Ytbjmmnegkpeboaa
