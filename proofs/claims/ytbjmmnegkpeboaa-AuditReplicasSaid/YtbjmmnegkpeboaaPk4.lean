/- What the law AuditReplicas leans on, part 4: the symbolic executor, proved sound, contracts of functions, plain lemmas. By an AI agent. -/
import Derived.Test.YtbjmmnegkpeboaaPk3
set_option linter.unusedSimpArgs false
set_option linter.unusedVariables false
set_option maxRecDepth 100000
namespace Go.Proofs.Ytbjmmnegkpeboaa
open Go Go.Rx Go.RowKit Go.Proofs
namespace paths
def lM:Co:=fun args sh=>match args with
 | [.v u,.v (.string p)]=>some (.slice none 0 0,u=.slice none 0 0)
 | _=>tG args sh
def NJ:List (FuncId × Sum):=[(29,jM (gh l6) (eE lM)),(47,eP AA)]
noncomputable def uX:Env:={ EP [] [] with sums:=fun f=>NJ.lookup f }
def Bj (l:List SV):Option (SO × Bool):=some (.row l 41 (0,0) (some 3),false)
def jg (x:aA):SV:=.v (.agg #[.int .i64 x.k,.slice x.a x.l x.c])
def KW (x:aA):Option (SO × Bool):=some (.row [.v (.int .i64 x.k),.v (.slice x.a x.l x.c)] 39 (0,0) none,true)
noncomputable def Ap (l:List SV) (n:Nat) (x:aA):SM:=(bC uX 31 [.sl 0 0 n none,.v (.string x.p),jg x] (bO 6 1 0 [Bj l])).getD dC
noncomputable def Ct (x:aA):SM:=(bC uX 31 [.v (.slice none 0 0),.v (.string x.p),jg x] (bO 6 0 0 [])).getD dC
noncomputable def Jc:List SI:=dn uX 2 100 (Ap [] 0 ⟨⟨#[]⟩,1,none,0,0⟩) ([(1000,.b true)]++ff [0] true++ff [1] false)
noncomputable def kL (k:Nat) (q:ByteArray) (x:SV) (d:Bool) (i:Int):SF:={ fn:=31,tm:=eO 57 6 ([.sl 2 0 k none,.v (.string q),.aJ,.aJ,.aJ,.ptr 1 0,.aJ,x,.v (.bool d),.v (.int .i64 i)]++List.replicate 47 .aJ),todo:=Jc,defers:=[],ret:=false,kind:=.normal,ro:=none }
def xi (y:aA) (l m:List SV):List (Option (SO × Bool)):=[Bj l,KW y,jN m]
def kH (y:aA) (l m o:List SV):List (Option (SO × Bool)):=[Bj l,KW y,jN m,jN o]
theorem Q8 (l m:List SV) (n k:Nat) (y:aA):reach uX 2 100 (Ap l n y) ([(1000,.b true)]++ff [0] true++ff [1] false) [(0,0),(1,1),(2,2)] [0,2] (kL k y.p aK false 0) 6 (xi y l m)=[0=0∧(bW y.1 (ae l n)).length=k∧nZ=none,Value.string y.1=Value.string y.1,0=0,Value.slice none 0 0=Value.slice none 0 0,Value.bool false=Value.bool false,vZ 0=vZ 0,l=l,l.all ab=true,vZ y.2=vZ y.2,Value.slice y.3 y.4 y.5=Value.slice y.3 y.4 y.5,List.map SV.v (vI (bW y.1 (ae l n)))=m,m.all ab=true,(y.2==0)=false,bc l n (ae l n)∧bW y.1 (ae l n)≠[]]:=by kernel_rfl
theorem Qg (l m:List SV) (n:Nat) (y:aA):bR uX 31 100 (Ap l n y) ([(1000,.b true)]++ff [0,1] false) (.sl 3 0 1 none) 3 (.row m 41 (0,0) (some 3))=[0=0∧1=1∧nZ=none,[]++List.take 3 (List.drop 0 (aX (List.replicate 1 (List.map SV.v [Value.string ⟨⟨[]⟩⟩,vZ 0,Value.slice none 0 0])).flatten 0 (aX (aX (List.map SV.v [Value.string ⟨⟨[]⟩⟩,vZ 0,Value.slice none 0 0]) 0 [SV.v (Value.string y.1)]) 1 (List.take 2 (List.drop 0 (List.map SV.v [vZ y.2,Value.slice y.3 y.4 y.5]))))))=m,m.all ab=true,(y.2==0)=false,bc l n (ae l n)∧bW y.1 (ae l n)=[]]:=by kernel_rfl
theorem O7 (m:List SV) (y:aA):bR uX 31 100 (Ct y) ([(1000,.b true)]++ff [0,1] false) (.sl 2 0 1 none) 2 (.row m 41 (0,0) (some 3))=[0=0∧1=1∧nZ=none,[]++List.take 3 (List.drop 0 (aX (List.replicate 1 (List.map SV.v [Value.string ⟨⟨[]⟩⟩,vZ 0,Value.slice none 0 0])).flatten 0 (aX (aX (List.map SV.v [Value.string ⟨⟨[]⟩⟩,vZ 0,Value.slice none 0 0]) 0 [SV.v (Value.string y.1)]) 1 (List.take 2 (List.drop 0 (List.map SV.v [vZ y.2,Value.slice y.3 y.4 y.5]))))))=m,m.all ab=true,(y.2==0)=false,Value.slice none 0 0=Value.slice none 0 0]:=by kernel_rfl
theorem ON (l m o o' w w2:List SV) (k r:Nat) (y e:aA) (i i':Int):reach uX 2 100 (SM.at (kL k y.p aK false i) 6 (xi y l m)) (ff [0] true++[(7,.cells [.v (.string e.p)]),(13,.b false),(15,.cells (iC e))]) [(0,0),(1,1),(2,2),(3,4)] [0,2,3] (kL k y.p (.sl 3 0 1 none) false i') 6 (kH y l m o')=[0=0∧k=k∧nZ=none,Value.string y.1=Value.string y.1,0=0,0=0∧1=1∧nZ=none,Value.bool false=Value.bool false,vZ (IntKind.i64.wrap (i+1))=vZ i',l=l,l.all ab=true,vZ y.2=vZ y.2,Value.slice y.3 y.4 y.5=Value.slice y.3 y.4 y.5,m=m,m.all ab=true,[]++List.take 3 (List.drop 0 (aX (List.replicate 1 (List.map SV.v [Value.string ⟨⟨[]⟩⟩,vZ 0,Value.slice none 0 0])).flatten 0 (iC e)))=o',o'.all ab=true,List.take 3 (List.drop (0+i.toNat*3) m)=iC e∧(iC e).length=3,ao i k=true,decide (ey e.1 y.1>0)=false,e.1.size≤1000000000∧y.1.size≤1000000000,m[0+i.toNat*3+0]?=some (SV.v (Value.string e.1)),ao i k=true,decide (i<(↑k:Int))=true]:=by kernel_rfl
theorem Ri (l m o o' w w2:List SV) (k r:Nat) (y e:aA) (i i':Int):reach uX 2 100 (SM.at (kL k y.p (.sl 3 0 r none) false i) 6 (kH y l m o)) (ff [0] true++[(7,.cells [.v (.string e.p)]),(13,.b false),(15,.cells (iC e)),(16,.app o w)]) [(0,0),(1,1),(2,2),(3,5)] [0,2,3] (kL k y.p (.sl 3 0 (r+1) none) false i') 6 (kH y l m o')=[0=0∧k=k∧nZ=none,Value.string y.1=Value.string y.1,0=0,0=0∧r+1=r+1∧nZ=none,Value.bool false=Value.bool false,vZ (IntKind.i64.wrap (i+1))=vZ i',l=l,l.all ab=true,vZ y.2=vZ y.2,Value.slice y.3 y.4 y.5=Value.slice y.3 y.4 y.5,m=m,m.all ab=true,o++w=o',o'.all ab=true,((List.take 3 (List.drop 0 (aX (List.replicate 1 (List.map SV.v [Value.string ⟨⟨[]⟩⟩,vZ 0,Value.slice none 0 0])).flatten 0 (iC e)))=w∧w.length=1*3)∧1≠0∧(2*(r+1)+1024)*48≤140737488355328)∧List.take (r*3) o=o∧o.length=r*3∧w.all SV.flat=true,List.take 3 (List.drop (0+i.toNat*3) m)=iC e∧(iC e).length=3,ao i k=true,decide (ey e.1 y.1>0)=false,e.1.size≤1000000000∧y.1.size≤1000000000,m[0+i.toNat*3+0]?=some (SV.v (Value.string e.1)),ao i k=true,decide (i<(↑k:Int))=true]:=by kernel_rfl
theorem QD (l m o o' w w2:List SV) (k r:Nat) (y e:aA) (i i':Int):reach uX 2 100 (SM.at (kL k y.p aK false i) 6 (xi y l m)) (ff [0] true++[(7,.cells [.v (.string e.p)]),(13,.b true),(16,.cells (iC e))]) [(0,0),(1,1),(2,2),(3,6)] [0,2,3] (kL k y.p (.sl 3 0 2 none) true i') 6 (kH y l m o')=[0=0∧k=k∧nZ=none,Value.string y.1=Value.string y.1,0=0,0=0∧2=2∧nZ=none,Value.bool true=Value.bool true,vZ (IntKind.i64.wrap (i+1))=vZ i',l=l,l.all ab=true,vZ y.2=vZ y.2,Value.slice y.3 y.4 y.5=Value.slice y.3 y.4 y.5,m=m,m.all ab=true,List.take 3 ([]++List.take 3 (List.drop 0 (aX (List.replicate 1 (List.map SV.v [Value.string ⟨⟨[]⟩⟩,vZ 0,Value.slice none 0 0])).flatten 0 (aX (aX (List.map SV.v [Value.string ⟨⟨[]⟩⟩,vZ 0,Value.slice none 0 0]) 0 [SV.v (Value.string y.1)]) 1 (List.take 2 (List.drop 0 [SV.v (vZ y.2),SV.v (Value.slice y.3 y.4 y.5)]))))))++List.take 3 (List.drop 0 (aX (List.replicate 1 (List.map SV.v [Value.string ⟨⟨[]⟩⟩,vZ 0,Value.slice none 0 0])).flatten 0 (iC e)))=o',o'.all ab=true,List.take 3 (List.drop (0+i.toNat*3) m)=iC e∧(iC e).length=3,ao i k=true,decide (ey e.1 y.1>0)=true,e.1.size≤1000000000∧y.1.size≤1000000000,m[0+i.toNat*3+0]?=some (SV.v (Value.string e.1)),ao i k=true,decide (i<(↑k:Int))=true]:=by kernel_rfl
theorem PL (l m o o' w w2:List SV) (k r:Nat) (y e:aA) (i i':Int):reach uX 2 100 (SM.at (kL k y.p (.sl 3 0 r none) false i) 6 (kH y l m o)) (ff [0] true++[(7,.cells [.v (.string e.p)]),(13,.b true),(14,.app o w),(16,.cells (iC e)),(17,.app (o++w) w2)]) [(0,0),(1,1),(2,2),(3,7)] [0,2,3] (kL k y.p (.sl 3 0 (r+2) none) true i') 6 (kH y l m o')=[0=0∧k=k∧nZ=none,Value.string y.1=Value.string y.1,0=0,0=0∧r+1+1=r+2∧nZ=none,Value.bool true=Value.bool true,vZ (IntKind.i64.wrap (i+1))=vZ i',l=l,l.all ab=true,vZ y.2=vZ y.2,Value.slice y.3 y.4 y.5=Value.slice y.3 y.4 y.5,m=m,m.all ab=true,o++w++w2=o',o'.all ab=true,((List.take 3 (List.drop 0 (aX (List.replicate 1 (List.map SV.v [Value.string ⟨⟨[]⟩⟩,vZ 0,Value.slice none 0 0])).flatten 0 (iC e)))=w2∧w2.length=1*3)∧1≠0∧(2*(r+1+1)+1024)*48≤140737488355328)∧List.take ((r+1)*3) (o++w)=o++w∧(o++w).length=(r+1)*3∧w2.all SV.flat=true,List.take 3 (List.drop (0+i.toNat*3) m)=iC e∧(iC e).length=3,ao i k=true,((List.take 3 (List.drop 0 (aX (List.replicate 1 (List.map SV.v [Value.string ⟨⟨[]⟩⟩,vZ 0,Value.slice none 0 0])).flatten 0 (aX (aX (List.map SV.v [Value.string ⟨⟨[]⟩⟩,vZ 0,Value.slice none 0 0]) 0 [SV.v (Value.string y.1)]) 1 (List.take 2 (List.drop 0 [SV.v (vZ y.2),SV.v (Value.slice y.3 y.4 y.5)])))))=w∧w.length=1*3)∧1≠0∧(2*(r+1)+1024)*48≤140737488355328)∧List.take (r*3) o=o∧o.length=r*3∧w.all SV.flat=true,decide (ey e.1 y.1>0)=true,e.1.size≤1000000000∧y.1.size≤1000000000,m[0+i.toNat*3+0]?=some (SV.v (Value.string e.1)),ao i k=true,decide (i<(↑k:Int))=true]:=by kernel_rfl
theorem Qu (l m o o' w w2:List SV) (k r:Nat) (y e:aA) (i i':Int):reach uX 2 100 (SM.at (kL k y.p (.sl 3 0 r none) true i) 6 (kH y l m o)) (ff [0] true++[(12,.cells (iC e)),(13,.app o w)]) [(0,0),(1,1),(2,2),(3,5)] [0,2,3] (kL k y.p (.sl 3 0 (r+1) none) true i') 6 (kH y l m o')=[0=0∧k=k∧nZ=none,Value.string y.1=Value.string y.1,0=0,0=0∧r+1=r+1∧nZ=none,Value.bool true=Value.bool true,vZ (IntKind.i64.wrap (i+1))=vZ i',l=l,l.all ab=true,vZ y.2=vZ y.2,Value.slice y.3 y.4 y.5=Value.slice y.3 y.4 y.5,m=m,m.all ab=true,o++w=o',o'.all ab=true,((List.take 3 (List.drop 0 (aX (List.replicate 1 (List.map SV.v [Value.string ⟨⟨[]⟩⟩,vZ 0,Value.slice none 0 0])).flatten 0 (iC e)))=w∧w.length=1*3)∧1≠0∧(2*(r+1)+1024)*48≤140737488355328)∧List.take (r*3) o=o∧o.length=r*3∧w.all SV.flat=true,List.take 3 (List.drop (0+i.toNat*3) m)=iC e∧(iC e).length=3,ao i k=true,decide (i<(↑k:Int))=true]:=by kernel_rfl
theorem OO (l m o o' w w2:List SV) (k r:Nat) (y e:aA) (i i':Int):bR uX 31 100 (SM.at (kL k y.p (.sl 3 0 r none) false i) 6 (kH y l m o)) (ff [0] false++[(2,.app o w)]) (.sl 5 0 (r+1) none) 5 (.row o' 41 (0,0) (some 3))=[0=0∧r+1=r+1∧nZ=none,o++w=o',o'.all ab=true,((List.take 3 (List.drop 0 (aX (List.replicate 1 (List.map SV.v [Value.string ⟨⟨[]⟩⟩,vZ 0,Value.slice none 0 0])).flatten 0 (aX (aX (List.map SV.v [Value.string ⟨⟨[]⟩⟩,vZ 0,Value.slice none 0 0]) 0 [SV.v (Value.string y.1)]) 1 (List.take 2 (List.drop 0 [SV.v (vZ y.2),SV.v (Value.slice y.3 y.4 y.5)])))))=w∧w.length=1*3)∧1≠0∧(2*(r+1)+1024)*48≤140737488355328)∧List.take (r*3) o=o∧o.length=r*3∧w.all SV.flat=true,decide (i<(↑k:Int))=false]:=by kernel_rfl
theorem QR (l m o o' w w2:List SV) (k r:Nat) (y e:aA) (i i':Int):bR uX 31 100 (SM.at (kL k y.p (.sl 3 0 r none) true i) 6 (kH y l m o)) (ff [0] false) (.sl 3 0 r none) 3 (.row o' 41 (0,0) (some 3))=[0=0∧r=r∧nZ=none,o=o',o'.all ab=true,decide (i<(↑k:Int))=false]:=by kernel_rfl
def fT (x:aA):List aA→List aA
 | []=>[x]
 | e::l=>if ey e.p x.p>0 then x::e::l else e::fT x l
theorem n9 (x:aA):∀ l:List aA,(fT x l).length=l.length+1
 | []=>rfl
 | e::l=>by
  unfold fT
  split
  ·rfl
  ·rw [List.length_cons,n9 x l,List.length_cons]
def Io (w0:World) (xs:List aA) (e:Ending) (w':World):Prop:=Below w0.heap.size w0 w'∧∃ y,e=.returned y∧cy w0 w' y (vI xs) xs.length 3 41
theorem Jx (p:ByteArray) (w:World):Calls Try.prog 29 #[.slice none 0 0,.string p] w fun e w'=>Below w.heap.size w w'∧e=.returned (.slice none 0 0):=by
 refine (cp (E:=aL) rfl rfl (args:=[.v (.slice none 0 0),.v (.string p)]) (a:=[.slice none 0 0,.string p]) (S0:=Es p) (by kernel_rfl) (ay.cons (VR.ah.2 rfl) (ay.cons (VR.ah.2 rfl) ay.nil)) fun cs0=>?_)
 refine af.ax de (n:=60) (o:=[(1000,.b true)]) (v:=.slice none 0 0) ?_ fun ν' M1 w1 s' w' _ hB' hr=>⟨aI bo hB' hr,rfl⟩
 rw [Qs]
 simp only [ak,and_self,and_true,true_and]
theorem oO {X:World→Prop}:cr Try.prog X (29,jM (gh l6) (eE lM)):=by
 refine cr.br (iG ⟨_,Try.func29,by kernel_rfl,by kernel_rfl⟩ fun args sh ys n C elem ex p h hp ν M w0 w a hr hX ha=>?_) (fP ⟨_,Try.func29,by kernel_rfl,by kernel_rfl⟩ fun args sh v p h hp ν M w0 w a hr hX ha=>?_)
 ·dsimp only [l6] at h
  split at h
  ·rename_i i n p
   split at h
   ·rename_i zs e1 z1 x1 m1 hl
    cases h
    refine (k7 hr hl hp.1 ha).mono fun e w' ⟨hB,h⟩=>⟨hB,?_⟩
    rcases h with ⟨h1,_⟩ | ⟨_,y,h2,h3⟩
    ·exact absurd h1 hp.2
    ·exact ⟨y,h2,h3⟩
   ·cases h
  ·cases h
 ·dsimp only [lM] at h
  split at h
  ·rename_i u p
   cases h
   subst hp
   obtain ⟨y1,as1,rfl,q1,ha2⟩:=ha.cons_inv
   obtain ⟨y2,as2,rfl,q2,ha3⟩:=ha2.cons_inv
   obtain rfl:=ha3.aB
   obtain rfl:=VR.ah.1 q1
   obtain rfl:=VR.ah.1 q2
   exact Jx p w
  ·dsimp only [tG] at h
   split at h
   ·rename_i i n p
    split at h
    ·rename_i zs e1 z1 x1 m1 hl
     cases h
     refine (k7 hr hl hp.1 ha).mono fun e w' ⟨hB,h⟩=>⟨hB,?_⟩
     rcases h with ⟨_,h2⟩ | ⟨h1,_⟩
     ·exact h2
     ·exact absurd hp.2 h1
    ·cases h
   ·cases h
theorem E0 {M:Own} {w0:World}:aW uX M w0:=
 aW.Bg (Checked.mixed Try.checked) (by kernel_rfl) (gu.of ke rfl eY) (ep.list (X:=fun _=>True) (l:=NJ) rfl (fun r h=>by
  simp only [NJ,List.mem_cons,List.not_mem_nil,or_false] at h
  rcases h with rfl | rfl
  ·exact oO
  ·exact cr.pure (r:=(47,AA)) F4) fun ν s w hr _=>trivial) (fun f g h=>by cases h)
section
variable {w0:World} {cs0:List Frame} {l0 xs:List aA} {x:aA} {M:Own} {ν:aU}
theorem yJ (hM:∀ z,¬ M z) (hν:∀ i b,ν i=some b→i=0) (hl:xs.length≤1000):∀ (j i:Nat),i+j=xs.length→∀ (out:List aA),out.length≤i+1→
  af uX M w0 cs0 31 (Io w0 (out++xs.drop i)) ν (SM.at (kL xs.length x.p (.sl 3 0 out.length none) true i) 6 (kH x (cI l0) (cI xs) (cI out)))
 | 0,i,hj,out,ho=>by
  rw [List.drop_eq_nil_of_le (by omega),List.append_nil]
  refine nL (j:=3) E0 hM (n:=100) (o:=ff [0] false) ⟨?_⟩ fun w' y hB hy=>⟨hB,y,rfl,hy⟩
  rw [QR (w:=[]) (w2:=[]) (e:=x) (i':=0)]
  simp only [ak,az,and_self,and_true,true_and]
  exact decide_eq_false (by omega)
 | j+1,i,hj,out,ho=>by
  have hi:i<xs.length:=by omega
  have hxi:xs[i]?=some xs[i]:=List.getElem?_eq_getElem hi
  have t1:decide ((i:Int)<(xs.length:Int))=true:=decide_eq_true (by omega)
  have r1:=aO hi
  have ws:=aM (k:=i) (by omega)
  have ra:=qV hxi
  have nx:=yJ hM hν hl j (i+1) (by omega) (out++[xs[i]]) (by rw [List.length_append];simp;omega)
  rw [List.append_assoc,List.singleton_append,← List.drop_eq_getElem_cons hi,List.length_append,show ([xs[i]]:List aA).length=1 from rfl] at nx
  refine af.reach E0 (k:=2) (n:=100) (o:=(ff [0] true++[(12,.cells (iC xs[i])),(13,.app (cI out) (iC xs[i]))])) (ren:=[(0,0),(1,1),(2,2),(3,5)]) (eqs:=[0,2,3]) ?_ (by kernel_rfl) (fun i b h=>by rw [hν i b h];rfl) nx
  rw [Qu (w2:=[])]
  simp only [ak,Int.toNat_natCast,t1,r1,ra,ws,cV,az,oA,oX,ju,ic,List.all_append,and_self,and_true,true_and]
  repeat' apply And.intro
  all_goals first | rfl | omega | exact List.take_of_length_le (by rw [ic];exact Nat.le_refl _) | exact bt _ | skip
theorem Cw (hM:∀ z,¬ M z) (hν:∀ i b,ν i=some b→i=0) (hl:xs.length≤1000) (hp:x.p.size≤1000000000) (hs:∀ e∈xs,e.p.size≤1000000000):∀ (j i:Nat),i+j=xs.length→0<i→
  af uX M w0 cs0 31 (Io w0 (xs.take i++fT x (xs.drop i))) ν (SM.at (kL xs.length x.p (.sl 3 0 (xs.take i).length none) false i) 6 (kH x (cI l0) (cI xs) (cI (xs.take i))))
 | 0,i,hj,h0=>by
  have hlen:(xs.take i).length=i:=by rw [List.length_take];omega
  rw [List.drop_eq_nil_of_le (by omega),show fT x []=[x] from rfl]
  refine nL (j:=5) E0 hM (n:=100) (o:=(ff [0] false++[(2,.app (cI (xs.take i)) (iC x))])) ⟨?_⟩ fun w' y hB hy=>⟨hB,y,rfl,hy⟩
  rw [List.length_append,show ([x]:List aA).length=1 from rfl,OO (w2:=[]) (e:=x) (i':=0)]
  simp only [ak,cV,az,oA,oX,ju,ic,hlen,List.all_append,and_self,and_true,true_and]
  repeat' apply And.intro
  all_goals first | rfl | omega | exact List.take_of_length_le (by rw [ic,hlen];exact Nat.le_refl _) | exact bt _ | exact decide_eq_false (by omega) | skip
 | j+1,i,hj,h0=>by
  have hi:i<xs.length:=by omega
  have hlen:(xs.take i).length=i:=by rw [List.length_take];omega
  have hxi:xs[i]?=some xs[i]:=List.getElem?_eq_getElem hi
  have t1:decide ((i:Int)<(xs.length:Int))=true:=decide_eq_true (by omega)
  have r1:=aO hi
  have ws:=aM (k:=i) (by omega)
  have ra:=qV hxi
  have rc:=hQ hxi
  have z1:=hs _ (List.getElem_mem hi)
  have hd:=List.drop_eq_getElem_cons hi
  have ht:=List.take_succ_eq_append_getElem hi
  by_cases hc:ey xs[i].p x.p>0
  ·have tc:=decide_eq_true hc
   have nx:=yJ (w0:=w0) (cs0:=cs0) (x:=x) (l0:=l0) hM hν hl j (i+1) (by omega) (xs.take i++[x]++[xs[i]]) (by rw [List.length_append,List.length_append,hlen];simp)
   have e1:xs.take i++[x]++[xs[i]]++xs.drop (i+1)=xs.take i++fT x (xs.drop i):=by
    rw [hd];unfold fT;rw [if_pos hc];simp
   rw [e1,List.length_append,List.length_append,show ([x]:List aA).length=1 from rfl,show ([xs[i]]:List aA).length=1 from rfl] at nx
   refine af.reach E0 (k:=2) (n:=100) (o:=(ff [0] true++[(7,.cells [.v (.string xs[i].p)]),(13,.b true),(14,.app (cI (xs.take i)) (iC x)),(16,.cells (iC xs[i])),(17,.app (cI (xs.take i)++iC x) (iC xs[i]))])) (ren:=[(0,0),(1,1),(2,2),(3,7)]) (eqs:=[0,2,3]) ?_ (by kernel_rfl) (fun i b h=>by rw [hν i b h];rfl) nx
   rw [show (xs.take i).length+1+1=(xs.take i).length+2 from rfl,PL]
   simp only [ak,Int.toNat_natCast,t1,r1,ra,rc,ws,tc,z1,hp,cV,az,oA,oX,ju,ic,hlen,List.all_append,List.length_append,and_self,and_true,true_and]
   repeat' apply And.intro
   all_goals first | rfl | omega | exact List.take_of_length_le (by rw [ic,hlen];exact Nat.le_refl _) | exact List.take_of_length_le (by rw [List.length_append,ic,hlen,cV];omega) | exact bt _ | skip
  ·have tc:=decide_eq_false hc
   have nx:=Cw hM hν hl hp hs j (i+1) (by omega) (by omega)
   have e1:xs.take (i+1)++fT x (xs.drop (i+1))=xs.take i++fT x (xs.drop i):=by
    rw [hd,ht];conv=>rhs;unfold fT
    rw [if_neg hc,List.append_assoc];rfl
   rw [e1,ht,List.length_append,show ([xs[i]]:List aA).length=1 from rfl] at nx
   refine af.reach E0 (k:=2) (n:=100) (o:=(ff [0] true++[(7,.cells [.v (.string xs[i].p)]),(13,.b false),(15,.cells (iC xs[i])),(16,.app (cI (xs.take i)) (iC xs[i]))])) (ren:=[(0,0),(1,1),(2,2),(3,5)]) (eqs:=[0,2,3]) ?_ (by kernel_rfl) (fun i b h=>by rw [hν i b h];rfl) nx
   rw [Ri (w2:=[])]
   simp only [ak,Int.toNat_natCast,t1,r1,ra,rc,ws,tc,z1,hp,cV,az,oA,oX,ju,ic,hlen,List.all_append,and_self,and_true,true_and]
   repeat' apply And.intro
   all_goals first | rfl | omega | exact List.take_of_length_le (by rw [ic,hlen];exact Nat.le_refl _) | exact bt _ | skip
theorem HW (hM:∀ z,¬ M z) (hν:∀ i b,ν i=some b→i=0) (hl:xs.length≤1000) (hp:x.p.size≤1000000000) (hs:∀ e∈xs,e.p.size≤1000000000) (h0:0<xs.length):
  af uX M w0 cs0 31 (Io w0 (fT x xs)) ν (SM.at (kL xs.length x.p aK false (0:Nat)) 6 (xi x (cI l0) (cI xs))):=by
 have hxi:xs[0]?=some xs[0]:=List.getElem?_eq_getElem h0
 have t1:decide (((0:Nat):Int)<(xs.length:Int))=true:=decide_eq_true (by omega)
 have r1:=aO h0
 have ws:=aM (k:=0) (by omega)
 have ra:=qV hxi
 have rc:=hQ hxi
 have z1:=hs _ (List.getElem_mem h0)
 have hd:=List.drop_eq_getElem_cons h0
 rw [List.drop_zero] at hd
 have ht:=List.take_succ_eq_append_getElem h0
 rw [List.take_zero,List.nil_append] at ht
 by_cases hc:ey xs[0].p x.p>0
 ·have tc:=decide_eq_true hc
  have nx:=yJ (w0:=w0) (cs0:=cs0) (x:=x) (l0:=l0) hM hν hl (xs.length - 1) (0+1) (by omega) ([x]++[xs[0]]) (by simp)
  have e1:[x]++[xs[0]]++xs.drop (0+1)=fT x xs:=by
   conv=>rhs;rw [hd]
   unfold fT;rw [if_pos hc];simp
  rw [e1,show (([x]:List aA)++[xs[0]]).length=2 from rfl] at nx
  refine af.reach E0 (k:=2) (n:=100) (o:=(ff [0] true++[(7,.cells [.v (.string xs[0].p)]),(13,.b true),(16,.cells (iC xs[0]))])) (ren:=[(0,0),(1,1),(2,2),(3,6)]) (eqs:=[0,2,3]) ?_ (by kernel_rfl) (fun i b h=>by rw [hν i b h];rfl) nx
  rw [QD (o:=[]) (w:=[]) (w2:=[]) (r:=0)]
  simp only [ak,Int.toNat_natCast,t1,r1,ra,rc,ws,tc,z1,hp,cV,az,oX,ju,and_self,and_true,true_and]
  repeat' apply And.intro
  all_goals first | rfl | omega | exact bt _ | (simp [bt,List.all_append];done) | skip
 ·have tc:=decide_eq_false hc
  have nx:=Cw (w0:=w0) (cs0:=cs0) (x:=x) (l0:=l0) hM hν hl hp hs (xs.length - 1) (0+1) (by omega) (by omega)
  have e1:xs.take (0+1)++fT x (xs.drop (0+1))=fT x xs:=by
   rw [ht]
   conv=>rhs;rw [hd];unfold fT
   rw [if_neg hc];rfl
  rw [e1,ht,show ([xs[0]]:List aA).length=1 from rfl] at nx
  refine af.reach E0 (k:=2) (n:=100) (o:=(ff [0] true++[(7,.cells [.v (.string xs[0].p)]),(13,.b false),(15,.cells (iC xs[0]))])) (ren:=[(0,0),(1,1),(2,2),(3,4)]) (eqs:=[0,2,3]) ?_ (by kernel_rfl) (fun i b h=>by rw [hν i b h];rfl) nx
  rw [ON (o:=[]) (w:=[]) (w2:=[]) (r:=0)]
  simp only [ak,Int.toNat_natCast,t1,r1,ra,rc,ws,tc,z1,hp,cV,az,ju,and_self,and_true,true_and]
  repeat' apply And.intro
  all_goals first | rfl | omega | exact bt _ | skip
end
def dI (l:List aA) (x:aA):List aA:=fT x (bW x.p l)
theorem wM {w:World} {b c:Nat} {l:List aA} {x:aA} {rest:List Value} (hk:x.k≠0) (hh:w.heap[b]?=some (.cells (vI l++rest).toArray 41 (0,0))) (hsz:(vI l++rest).length=c*3) (hlc:l.length≤c) (few:l.length≤1000) (hq:x.p.size≤1000000000) (hs:∀ e∈l,e.p.size≤1000000000):
  Calls Try.prog 31 #[.slice (some ⟨b,0,none⟩) l.length c,.string x.p,.agg #[.int .i64 x.k,.slice x.a x.l x.c]] w (Io w (dI l x)):=by
 have hk0:(x.2==(0:Int))=false:=beq_eq_false_iff_ne.2 hk
 have ho:∀ (j:Nat) (o':SO) (b' c':Nat),[SO.row (cI l) 41 (0,0) (some 3)][j]?=some o'→[(b,c)][j]?=some (b',c')→∃ r,w.heap[b']?=some r∧OR (aE [(b,c)]) j o' r:=by
  intro j o' b' c' h1 h2
  match j with
  | 0=>
   simp only [List.getElem?_cons_zero,Option.some.injEq] at h1 h2
   subst h1
   cases h2
   exact ⟨_,hh,vI l,rest,rfl,by rw [← cR];exact ay.lits _ _,by rw [← cR,List.length_map,List.length_append];omega,(b,c),rfl,hsz⟩
  | j+1=>simp at h1
 refine aY (E:=uX) rfl (d:=6) (l:=[(b,c)]) (os:=[.row (cI l) 41 (0,0) (some 3)]) rfl (by simp) (by simp) ho rfl (args:=[.sl 0 0 l.length none,.v (.string x.p),jg x]) (a:=[.slice (some ⟨b,0,none⟩) l.length c,.string x.p,.agg #[.int .i64 x.k,.slice x.a x.l x.c]]) (S0:=Ap (cI l) l.length x) (by kernel_rfl) (ay.cons (VR.aQ.2 ⟨(b,c),rfl,hlc,rfl⟩) (ay.cons (VR.ah.2 rfl) (ay.cons (VR.ah.2 rfl) ay.nil))) fun cs0=>?_
 have hM:∀ z,¬ (aT [(b,c)] ([SO.row (cI l) 41 (0,0) (some 3)].map fun o=>(o,false))) z:=fun z=>a6 (os:=[_])
 have hν:∀ i b',aE [(b,c)] i=some b'→i=0:=fun i b' h=>fQ h
 have hd:(bW x.p l).length≤l.length:=List.length_filter_le _ _
 by_cases h0:bW x.p l=[]
 ·unfold dI
  rw [h0,show fT x []=[x] from rfl]
  refine nL (j:=3) E0 hM (n:=100) (o:=[(1000,.b true)]++ff [0,1] false) ⟨?_⟩ fun w' y hB hy=>⟨hB,y,rfl,hy⟩
  rw [show cI [x]=iC x from ju x,show ([x]:List aA).length=1 from rfl,Qg]
  simp only [ak,aN,h0,hk0,bt,and_self,and_true,true_and]
  repeat' apply And.intro
  all_goals first | rfl | exact few | exact ⟨rfl,rfl,few⟩ | skip
 ·have nx:=HW (w0:=w) (cs0:=cs0) (l0:=l) (x:=x) hM hν (xs:=bW x.p l) (by omega) hq (fun e he=>hs e (List.mem_filter.1 he).1) (List.length_pos_iff.2 h0)
  refine af.reach E0 (k:=2) (n:=100) (o:=[(1000,.b true)]++ff [0] true++ff [1] false) (ren:=[(0,0),(1,1),(2,2)]) (eqs:=[0,2]) (F:=kL (bW x.p l).length x.p aK false 0) (d:=6) (l:=xi x (cI l) (cI (bW x.p l))) ?_ (by kernel_rfl) (fun i b h=>by rw [hν i b h];rfl) nx
  rw [Q8]
  simp only [ak,aN,hk0,az,cR,aK,and_self,and_true,true_and]
  repeat' apply And.intro
  all_goals first | rfl | exact few | exact h0 | exact ⟨rfl,rfl,few⟩ | skip
theorem xQ {w:World} {x:aA} (hk:x.k≠0):Calls Try.prog 31 #[.slice none 0 0,.string x.p,.agg #[.int .i64 x.k,.slice x.a x.l x.c]] w (Io w (dI [] x)):=by
 have hk0:(x.2==(0:Int))=false:=beq_eq_false_iff_ne.2 hk
 refine (cp (E:=uX) rfl rfl (args:=[.v (.slice none 0 0),.v (.string x.p),jg x]) (a:=[.slice none 0 0,.string x.p,.agg #[.int .i64 x.k,.slice x.a x.l x.c]]) (S0:=Ct x) (by kernel_rfl) (ay.cons (VR.ah.2 rfl) (ay.cons (VR.ah.2 rfl) (ay.cons (VR.ah.2 rfl) ay.nil))) fun cs0=>?_)
 refine nL (j:=2) E0 bo (n:=100) (o:=[(1000,.b true)]++ff [0,1] false) ⟨?_⟩ fun w' y hB hy=>⟨hB,y,rfl,hy⟩
 rw [show dI [] x=[x] from rfl,show cI [x]=iC x from ju x,show ([x]:List aA).length=1 from rfl,O7]
 simp only [ak,hk0,bt,and_self,and_true,true_and]
 rfl
def lC (q:ByteArray):List SV:=[.v (.string q),.v (.int .i64 2),.v (.slice none 0 0)]
def lV (q:ByteArray):List Value:=[.string q,.int .i64 2,.slice none 0 0]
def bJ (l:List SV):Option (SO × Bool):=some (.row l 41 (0,0) (some 3),true)
def cQ (l:List ByteArray):List SV:=l.flatMap lC
def vQ (l:List ByteArray):List Value:=l.flatMap lV
theorem Cy (e:ByteArray):(lC e).length=3:=rfl
theorem Br (e:ByteArray):(lC e).all ab=true:=rfl
theorem bN (a:List ByteArray):(cQ a).all ab=true:=by
 rw [List.all_eq_true];intro x hx
 obtain ⟨r,_,hx⟩:=List.mem_flatMap.1 hx
 exact List.all_eq_true.1 (Br r) x hx
theorem ku:∀ l:List ByteArray,(vQ l).map SV.v=cQ l
 | []=>rfl
 | r::l=>by
  show (lV r++vQ l).map SV.v=lC r++cQ l
  rw [List.map_append,ku l];rfl
theorem Ic {ν:aU} {l:List ByteArray} {zs:List Value} (h:ay ν (cQ l) zs):zs=vQ l:=by
 rw [← ku] at h
 exact eF h (ay.lits ν (vQ l))
theorem Lj {xs:List ByteArray} {k:Nat} {x:ByteArray} (h:xs[k]?=some x):List.take 3 (List.drop (0+k*3) (cQ xs))=lC x:=by
 rw [Nat.zero_add];exact iL Cy h
theorem DM {xs:List ByteArray} {k:Nat} {x:ByteArray} (h:xs[k]?=some x):(cQ xs)[0+k*3+0]?=some (.v (.string x)):=by
 have h2:(List.take 3 (List.drop (0+k*3) (cQ xs)))[0]?=(lC x)[0]?:=by rw [Lj h]
 rw [List.getElem?_take,if_pos (by decide),List.getElem?_drop] at h2
 exact h2
def Ki (l:List SV):ByteArray:=match l with
 | .v (.string p)::_=>p
 | _=>⟨#[]⟩
theorem FL (e:ByteArray):Ki (lC e)=e:=rfl
def cZ (ys:List SV) (n:Nat):List ByteArray:=z6 Ki 3 n ys
theorem bT (l:List ByteArray):cZ (cQ l) l.length=l:=l5 Cy FL l
structure pg (ys:List SV) (n:Nat) (l:List ByteArray):Prop where
 cells:ys=cQ l
 len:n=l.length
 few:n≤1000
def JT (p:ByteArray) (e:ByteArray):Bool:=e.data.toList==p.data.toList
def xY (p:ByteArray) (l:List ByteArray):List ByteArray:=l.filter fun e=>!JT p e
def qu (x:ByteArray):List ByteArray→List ByteArray
 | []=>[x]
 | e::l=>if ey e x>0 then x::e::l else e::qu x l
theorem rV (x:ByteArray):∀ l:List ByteArray,(qu x l).length=l.length+1
 | []=>rfl
 | e::l=>by
  unfold qu
  split
  ·rfl
  ·rw [List.length_cons,rV x l,List.length_cons]
def RQ (w0:World) (xs:List ByteArray) (e:Ending) (w':World):Prop:=Below w0.heap.size w0 w'∧∃ y,e=.returned y∧cy w0 w' y (vQ xs) xs.length 3 41
def eB (l:List ByteArray) (q:ByteArray):List ByteArray:=qu q (xY q l)
def uP (q:ByteArray):aA:=⟨q,2,none,0,0⟩
theorem G0 (l:List ByteArray):vQ l=vI (l.map uP):=by
 unfold vQ vI
 rw [List.flatMap_map];rfl
theorem Eg (p:ByteArray) (l:List ByteArray):bW p (l.map uP)=(xY p l).map uP:=by
 unfold bW xY
 rw [List.filter_map];rfl
theorem A6 (q:ByteArray):∀ l:List ByteArray,fT (uP q) (l.map uP)=(qu q l).map uP
 | []=>rfl
 | e::l=>by
  rw [List.map_cons]
  unfold fT qu
  show (if ey e q>0 then _ else _)=_
  split
  ·rfl
  ·rw [A6 q l];rfl
theorem E4 (l:List ByteArray) (q:ByteArray):dI (l.map uP) (uP q)=(eB l q).map uP:=by
 unfold dI eB
 rw [show (uP q).p=q from rfl,Eg,A6]
theorem GM (w:World) (l:List ByteArray) (q:ByteArray):Io w (dI (l.map uP) (uP q))=RQ w (eB l q):=by
 funext e w'
 unfold Io RQ
 rw [E4,← G0,List.length_map]
theorem Ej {w:World} {b c:Nat} {l:List ByteArray} {q:ByteArray} {rest:List Value} (hh:w.heap[b]?=some (.cells (vQ l++rest).toArray 41 (0,0))) (hsz:(vQ l++rest).length=c*3) (hlc:l.length≤c) (few:l.length≤1000) (hq:q.size≤1000000000) (hs:∀ e∈l,e.size≤1000000000):
  Calls Try.prog 31 #[.slice (some ⟨b,0,none⟩) l.length c,.string q,.agg #[.int .i64 2,.slice none 0 0]] w (RQ w (eB l q)):=by
 rw [G0] at hh hsz
 have:=wM (w:=w) (b:=b) (c:=c) (l:=l.map uP) (x:=uP q) (rest:=rest) (show (2:Int)≠0 by decide) hh hsz (by rw [List.length_map];exact hlc) (by rw [List.length_map];exact few) hq (fun e he=>by
  obtain ⟨s,h1,rfl⟩:=List.mem_map.1 he
  exact hs s h1)
 rw [GM,List.length_map] at this
 exact this
theorem Dl {w:World} {q:ByteArray}:Calls Try.prog 31 #[.slice none 0 0,.string q,.agg #[.int .i64 2,.slice none 0 0]] w (RQ w (eB [] q)):=by
 have:=xQ (w:=w) (x:=uP q) (show (2:Int)≠0 by decide)
 rw [show ([]:List aA)=([]:List ByteArray).map uP from rfl,GM] at this
 exact this
def Dn:GX:=fun args sh=>match args with
 | [.v u,.v (.string q),L]=>match dZ L with
  | some lf=>some (vQ (eB [] q),(eB [] q).length,3,41,none,u=.slice none 0 0∧lf=.agg #[.int .i64 2,.slice none 0 0])
  | none=>none
 | [.sl i 0 n none,.v (.string q),L]=>match dZ L with
  | some lf=>match sh.look i with
   | some (.row ys t z x,_)=>some (vQ (eB (cZ ys n) q),(eB (cZ ys n) q).length,3,41,none,pg ys n (cZ ys n)∧t=41∧z=(0,0)∧x=some 3∧lf=.agg #[.int .i64 2,.slice none 0 0]∧q.size≤1000000000∧∀ e∈cZ ys n,e.size≤1000000000)
   | _=>none
  | none=>none
 | _=>none
theorem C0 {X:World→Prop}:cr Try.prog X (31,gh Dn):=by
 refine iG ⟨_,Try.func31,by kernel_rfl,by kernel_rfl⟩ fun args sh ys n C elem ex p h hp ν M w0 w a hr hX ha=>?_
 dsimp only [Dn] at h
 split at h
 ·rename_i u q L
  split at h
  ·rename_i lf hlf
   cases h
   obtain ⟨rfl,rfl⟩:=hp
   obtain ⟨y1,as1,rfl,q1,ha2⟩:=ha.cons_inv
   obtain ⟨y2,as2,rfl,q2,ha3⟩:=ha2.cons_inv
   obtain ⟨y3,as3,rfl,q3,ha4⟩:=ha3.cons_inv
   obtain rfl:=ha4.aB
   obtain rfl:=VR.ah.1 q1
   obtain rfl:=VR.ah.1 q2
   obtain rfl:=fL hlf q3
   exact Dl
  ·cases h
 ·rename_i i n q L
  split at h
  ·rename_i lf hlf
   split at h
   ·rename_i ys t z x m1 hl
    cases h
    obtain ⟨hH,rfl,rfl,rfl,rfl,hq,hs⟩:=hp
    obtain ⟨hc,hn,few⟩:=hH
    generalize hE:cZ ys n=l at *
    subst hc hn
    obtain ⟨y1,as1,rfl,q1,ha2⟩:=ha.cons_inv
    obtain ⟨y2,as2,rfl,q2,ha3⟩:=ha2.cons_inv
    obtain ⟨y3,as3,rfl,q3,ha4⟩:=ha3.cons_inv
    obtain rfl:=ha4.aB
    obtain rfl:=VR.ah.1 q2
    obtain rfl:=fL hlf q3
    obtain ⟨b,hb,hle,rfl⟩:=VR.aQ.1 q1
    obtain ⟨_,_,b',o,hb',ho,hor,_⟩:=hr.look hl
    rw [hb] at hb';cases hb'
    obtain ⟨zs,rest,rfl,hz,hx⟩:=hor
    obtain rfl:=Ic hz
    obtain ⟨_,b2,hb2,hsz⟩:=hx
    rw [hb] at hb2;cases hb2
    exact Ej ho hsz hle few hq hs
   ·cases h
  ·cases h
 ·cases h
theorem sJ {x e:ByteArray}:∀ {l:List ByteArray},e∈qu x l↔e=x∨e∈l
 | []=>by simp [qu]
 | a::l=>by
  unfold qu
  split
  ·simp
  ·rw [List.mem_cons,sJ (l:=l),List.mem_cons]
   constructor
   ·rintro (h | h | h)
    ·exact .inr (.inl h)
    ·exact .inl h
    ·exact .inr (.inr h)
   ·rintro (h | h | h)
    ·exact .inr (.inl h)
    ·exact .inl h
    ·exact .inr (.inr h)
theorem AP {p e:ByteArray}:JT p e=true↔e=p:=by
 unfold JT
 rw [beq_iff_eq]
 constructor
 ·intro h
  have:=Array.toList_inj.1 h
  cases e;cases p;exact congrArg _ this
 ·rintro rfl;rfl
theorem wO {q e:ByteArray} {l:List ByteArray}:e∈eB l q↔e=q∨e∈l:=by
 unfold eB xY
 rw [sJ,List.mem_filter]
 constructor
 ·rintro (h | h)
  ·exact .inl h
  ·exact .inr h.1
 ·rintro (h | h)
  ·exact .inl h
  ·by_cases he:e=q
   ·exact .inl he
   ·refine .inr ⟨h,?_⟩
    cases hi:JT q e
    ·rfl
    ·exact absurd (AP.1 hi) he
theorem xA (l:List ByteArray) (q:ByteArray):(eB l q).length≤l.length+1:=by
 unfold eB
 rw [rV]
 exact Nat.succ_le_succ (List.length_filter_le _ _)
theorem kj (l:List ByteArray) (q:ByteArray):eB l q≠[]:=fun h=>by
 have:=rV q (xY q l)
 unfold eB at h
 rw [h] at this;cases this
def bL (t l:List ByteArray):List ByteArray:=l.foldl eB t
theorem nd {e:ByteArray}:∀ {l t:List ByteArray},e∈bL t l↔e∈t∨e∈l
 | [],t=>by simp [bL]
 | q::l,t=>by
  show e∈bL (eB t q) l↔_
  rw [nd,wO,List.mem_cons]
  constructor
  ·rintro ((h | h) | h)
   ·exact .inr (.inl h)
   ·exact .inl h
   ·exact .inr (.inr h)
  ·rintro (h | h | h)
   ·exact .inl (.inr h)
   ·exact .inl (.inl h)
   ·exact .inr h
theorem iY:∀ (l t:List ByteArray),(bL t l).length≤t.length+l.length
 | [],t=>by simp [bL]
 | q::l,t=>by
  have h1:=iY l (eB t q)
  have h2:=xA t q
  show (bL (eB t q) l).length≤_
  rw [List.length_cons];omega
def ng (w w':World) (N:List ByteArray) (v:Value):Prop:=(N=[]∧v=.slice none 0 0)∨(N≠[]∧cy w w' v (N.map Value.string) N.length 1 9)
def lP (w:World) (N:List ByteArray) (e:Ending) (w':World):Prop:=Below w.heap.size w w'∧∃ v,e=.returned v∧ng w w' N v
theorem fD {ν:aU} {l:List ByteArray} {zs:List Value} (h:ay ν (strs l) zs):zs=l.map Value.string:=eF h (ay.lits ν _)
theorem gB (a b:List ByteArray):strs (a++b)=strs a++strs b:=by unfold strs;simp
theorem dW (q:ByteArray):strs [q]=[.v (.string q)]:=rfl
theorem bg (a:List ByteArray):(strs a).all SV.flat=true:=by
 rw [List.all_eq_true];intro x hx
 obtain ⟨v,hv,rfl⟩:=List.mem_map.1 hx
 obtain ⟨s,_,rfl⟩:=List.mem_map.1 hv
 rfl
def mz (t:List ByteArray) (k:Nat):Prop:=t.length≤k∧∀ e∈t,e.size≤1000000000
theorem mz.put {t:List ByteArray} {k:Nat} {q:ByteArray} (h:mz t k) (hq:q.size≤1000000000):mz (eB t q) (k+1):=
 ⟨Nat.le_trans (xA t q) (Nat.succ_le_succ h.1),fun e he=>by
  rcases wO.1 he with rfl | h1
  ·exact hq
  ·exact h.2 e h1⟩
theorem fX {t:List ByteArray} {i:Nat} {q:ByteArray} (h:t[i]?=some q):(cQ t)[0+(i:Int).toNat*3+0]?=some (.v (.string q)):=by
 rw [Int.toNat_natCast];exact DM h
theorem vi (t:List ByteArray) (h:t.length≤1000):pg (cQ t) t.length t:=⟨rfl,rfl,h⟩
section
variable {W:World} {cs0:List Frame} {D:List c5} {ys:c5→List Int} {xs1 xs2:List c5} {M:Own} {ν:aU}
end
section
variable {W:World} {cs0:List Frame} {D:List c5} {ys:c5→List Int} {xs1:List c5} {M:Own} {ν:aU}
end
section
variable {W:World} {cs0:List Frame} {D:List c5} {ys:c5→List Int} {xs2:List c5} {M:Own} {ν:aU}
end
section
variable {W:World} {cs0:List Frame} {D:List c5} {ys:c5→List Int} {M:Own} {ν:aU}
end
def qC (a b:ByteArray):Prop:=ey a b<0
theorem AU (a b:ByteArray):qC a b∨a=b∨qC b a:=by
 have n1:=fC a b
 unfold qC
 rcases Int.lt_trichotomy (ey a b) 0 with h | h | h
 ·exact .inl h
 ·exact .inr (.inl (iD h))
 ·exact .inr (.inr (by omega))
theorem A4 (a:ByteArray):¬ qC a a:=by
 unfold qC;rw [pE];decide
theorem qj {x:ByteArray}:∀ {l:List ByteArray},l.Pairwise qC→(∀ e∈l,e≠x)→(qu x l).Pairwise qC
 | [],_,_=>by simp [qu]
 | a::l,h,hx=>by
  obtain ⟨h1,h2⟩:=List.pairwise_cons.1 h
  have hax:a≠x:=hx a List.mem_cons_self
  unfold qu
  split
  ·rename_i hc
   have hxa:qC x a:=by
    have n1:=fC a x
    unfold qC;omega
   refine List.pairwise_cons.2 ⟨fun e he=>?_,h⟩
   rcases List.mem_cons.1 he with rfl | he
   ·exact hxa
   ·exact gj hxa (h1 e he)
  ·rename_i hc
   have hax2:qC a x:=by
    rcases AU a x with h | h | h
    ·exact h
    ·exact absurd h hax
    ·have n1:=fC a x
     unfold qC at h;omega
   refine List.pairwise_cons.2 ⟨fun e he=>?_,qj h2 fun e he=>hx e (List.mem_cons_of_mem _ he)⟩
   rcases sJ.1 he with rfl | he
   ·exact hax2
   ·exact h1 e he
theorem ym {l:List ByteArray} (h:l.Pairwise qC) (q:ByteArray):(eB l q).Pairwise qC:=by
 unfold eB
 refine qj (h.filter _) fun e he heq=>?_
 have:=(List.mem_filter.1 he).2
 rw [heq] at this
 have hq:JT q q=true:=AP.2 rfl
 rw [hq] at this;cases this
theorem jt:∀ {l t:List ByteArray},t.Pairwise qC→(bL t l).Pairwise qC
 | [],t,h=>h
 | q::l,t,h=>jt (l:=l) (ym h q)
theorem yc {l:List ByteArray} (h:l.Pairwise qC):l.Nodup:=List.Pairwise.imp (fun hab he=>by subst he;exact A4 _ hab) h
theorem ta {l m:List ByteArray} (hl:l.Pairwise qC) (hm:m.Pairwise qC) (h:∀ e,e∈l↔e∈m):l=m:=by
 have hp:l.Perm m:=(List.perm_ext_iff_of_nodup (yc hl) (yc hm)).2 h
 refine List.Perm.eq_of_pairwise (le:=fun a b=>qC a b) (fun a b _ _ h1 h2=>absurd (gj h1 h2:qC a a) (A4 a)) hl hm hp
theorem qg {α:Type} [DecidableEq α] [Inhabited α] {zs:List α} {x:α}:x∈Lib.compact zs↔x∈zs:=by
 unfold Lib.compact Lib.compactUpTo
 rw [List.mem_map]
 constructor
 ·rintro ⟨i,hi,rfl⟩
  have hlt:=List.mem_range.1 (List.mem_filter.1 hi).1
  rw [getElem!_pos zs.toArray i (by simpa using hlt)]
  simp
 ·intro hx
  obtain ⟨i,hi,hxi⟩:=List.getElem_of_mem hx
  have key:∀ n i (hi:i<zs.length),i≤n→∃ j,j∈(List.range zs.length).filter (Lib.keeps zs.toArray)∧zs.toArray[j]! = zs[i]:=by
   intro n
   induction n with
   | zero=>
    intro i hi hn
    obtain rfl:i=0:=by omega
    refine ⟨0,List.mem_filter.2 ⟨List.mem_range.2 hi,by simp [Lib.keeps]⟩,?_⟩
    rw [getElem!_pos zs.toArray 0 (by simpa using hi)];simp
   | succ n ih=>
    intro i hi hn
    by_cases hk:Lib.keeps zs.toArray i=true
    ·refine ⟨i,List.mem_filter.2 ⟨List.mem_range.2 hi,hk⟩,?_⟩
     rw [getElem!_pos zs.toArray i (by simpa using hi)];simp
    ·have hk:¬ (i=0∨zs.toArray[i]!≠zs.toArray[i - 1]!):=fun h=>hk (decide_eq_true h)
     rw [not_or] at hk
     obtain ⟨h0,h1⟩:=hk
     have h1:=Classical.not_not.1 h1
     obtain ⟨j,hj,hje⟩:=ih (i - 1) (by omega) (by omega)
     refine ⟨j,hj,hje.trans ?_⟩
     rw [getElem!_pos zs.toArray i (by simpa using hi),getElem!_pos zs.toArray (i - 1) (by simp;omega)] at h1
     simpa using h1.symm
  obtain ⟨j,hj,hje⟩:=key i i hi (Nat.le_refl _)
  exact ⟨j,hj,hje.trans hxi⟩
theorem ui {L:List ByteArray} {e:ByteArray}:e∈eh L↔e∈L:=by
 unfold eh
 rw [List.mem_map]
 constructor
 ·rintro ⟨x,hx,rfl⟩
  obtain ⟨s,hs,rfl⟩:=List.mem_map.1 (qg.1 hx)
  simpa using hs
 ·intro he
  exact ⟨e.data.toList,qg.2 (List.mem_map.2 ⟨e,he,rfl⟩),by simp⟩
theorem vx {L:List ByteArray} (h:L.Pairwise fun a b=>vM a b=true):(eh L).Pairwise qC:=by
 unfold eh Lib.compact Lib.compactUpTo
 rw [List.map_map,List.pairwise_map]
 refine List.Pairwise.imp_of_mem ?_ ((List.pairwise_lt_range (n:=(L.map fun s:ByteArray=>s.data.toList).length)).filter _)
 intro i j hi hj hij
 obtain ⟨hi1,hi2⟩:=List.mem_filter.1 hi
 obtain ⟨hj1,hj2⟩:=List.mem_filter.1 hj
 have hil:=List.mem_range.1 hi1
 have hjl:=List.mem_range.1 hj1
 simp only [List.length_map] at hil hjl
 have at_:∀ k (hk:k<L.length),(L.map fun s:ByteArray=>s.data.toList).toArray[k]! = L[k].data.toList:=fun k hk=>by
  rw [getElem!_pos _ k (by simpa using hk)];simp
 have hk:j=0∨(L.map fun s:ByteArray=>s.data.toList).toArray[j]!≠(L.map fun s:ByteArray=>s.data.toList).toArray[j - 1]!:=of_decide_eq_true hj2
 have hk:=hk.resolve_left (by omega)
 rw [at_ j hjl,at_ (j - 1) (by omega)] at hk
 show qC (⟨((L.map fun s:ByteArray=>s.data.toList).toArray[i]!).toArray⟩:ByteArray) ⟨((L.map fun s:ByteArray=>s.data.toList).toArray[j]!).toArray⟩
 rw [at_ i hil,at_ j hjl]
 have e1:∀ b:ByteArray,(⟨b.data.toList.toArray⟩:ByteArray)=b:=fun b=>by simp
 rw [e1,e1]
 have hle:∀ {a b:ByteArray},vM a b=true→qC a b∨a=b:=fun {a b} h=>by
  rcases AU a b with h1 | h1 | h1
  ·exact .inl h1
  ·exact .inr h1
  ·have:=yj h (Kd h1)
   exact .inr this
 have p1:qC L[j - 1] L[j]:=by
  rcases hle (List.pairwise_iff_getElem.1 h (j - 1) j (by omega) hjl (by omega)) with h1 | h1
  ·exact h1
  ·exact absurd (by rw [h1]) hk
 rcases Nat.lt_or_ge i (j - 1) with hlt | hge
 ·rcases hle (List.pairwise_iff_getElem.1 h i (j - 1) hil (by omega) hlt) with h1 | h1
  ·exact gj h1 p1
  ·rw [h1];exact p1
 ·have:i=j - 1:=by omega
  subst this;exact p1
end paths
end Go.Proofs.Ytbjmmnegkpeboaa
set_option linter.unusedSimpArgs false
set_option linter.unusedVariables false
set_option maxRecDepth 100000
namespace Go.Proofs.Ytbjmmnegkpeboaa
open Go Go.Rx Go.RowKit Go.Proofs Go.Sort
namespace paths
end paths
end Go.Proofs.Ytbjmmnegkpeboaa
set_option linter.unusedSimpArgs false
set_option linter.unusedVariables false
set_option maxRecDepth 100000
namespace Go.Proofs.Ytbjmmnegkpeboaa
open Go Go.Rx Go.RowKit Go.Proofs
namespace paths
theorem MX.sub {W w:World} (h:MX W) (hs:W.hp.Sub w.hp):MX w:=h.keep (oF (Hp.Sub.refl _) hs)
def GV (n:Nat) (w w2:World):Prop:=∀ k o,n≤k→w.heap[k]?=some o→w2.heap[k]?=some o
noncomputable def Ax (l m:List SV) (n c d:Nat) (k:Int):SM:=(bC aL 8 [.sl 0 0 n (some c),.v (.int .i64 k),.sl 1 0 n (some d)] (bO 6 2 0 [cD l,cD m])).getD dC
noncomputable def Ig:List SI:=dn aL 2 60 (Ax [] [] 0 0 0 0) [(1000,.b true)]
noncomputable def th (n c d:Nat) (k i:Int):SF:={ fn:=8,tm:=eO 35 6 ([.sl 0 0 n (some c),.v (.int .i64 k),.sl 1 0 n (some d)]++List.replicate 11 .aJ++[.sl 0 0 n (some c),.v (.int .i64 n),.v (.int .i64 i)]++List.replicate 18 .aJ),todo:=Ig,defers:=[],ret:=false,kind:=.normal,ro:=none }
theorem NS (l m:List SV) (n c d:Nat) (k:Int):reach aL 2 60 (Ax l m n c d k) [(1000,.b true),(0,.b false)] [(0,0),(1,1)] [0,1] (th n c d k 0) 6 [cD l,cD m]=[0=0∧n=n∧some c=some c,vZ k=vZ k,0=0∧n=n∧some d=some d,0=0∧n=n∧some c=some c,vZ (↑n:Int)=vZ (↑n:Int),vZ 0=vZ 0,l=l,l.all ab=true,m=m,m.all ab=true,(!(↑n:Int)==(↑n:Int))=false]:=by kernel_rfl
theorem N2 (l m:List SV) (n c d:Nat) (k i:Int) (v:Value):ax aL 8 60 (SM.at (th n c d k i) 6 [cD l,cD m]) (ff [0] false) v=[Value.bool true=v,decide (i<(↑n:Int))=false]:=by kernel_rfl
theorem Oc (k:Int) (v:Value):ax aL 8 60 (ch aL 8 [.v (.slice none 0 0),.v (.int .i64 k),.v (.slice none 0 0)]) [(1000,.b true)] v=[Value.bool true=v]:=by kernel_rfl
def sk (k:Int) (q:ByteArray):List SV:=[.v (.int .i64 k),.v (.string q)]
def kx (k:Int) (l:List ByteArray):List Value:=l.flatMap fun q=>[.int .i64 k,.string q]
def eQ (k:Int) (l:List ByteArray):List SV:=l.flatMap (sk k)
theorem gV (k:Int) (l:List ByteArray):(eQ k l).all ab=true:=by
 rw [List.all_eq_true];intro x hx
 obtain ⟨r,_,hx⟩:=List.mem_flatMap.1 hx
 simp only [sk,List.mem_cons,List.not_mem_nil,or_false] at hx
 rcases hx with rfl | rfl <;> rfl
theorem mU (k:Int):∀ l:List ByteArray,(kx k l).map SV.v=eQ k l
 | []=>rfl
 | q::l=>by
  have e:eQ k (q::l)=sk k q++eQ k l:=by simp [eQ]
  have e2:kx k (q::l)=[.int .i64 k,.string q]++kx k l:=by simp [kx]
  rw [e,e2,List.map_append,mU k l];rfl
theorem tL {k:Int} {L:List ByteArray} {i:Nat} {q:ByteArray} (h:L[i]?=some q):List.take 2 (List.drop (0+(i:Int).toNat*2) (eQ k L))=sk k q:=by
 rw [Int.toNat_natCast,Nat.zero_add];exact iL (g:=sk k) (m:=2) (fun _=>rfl) h
section
variable {w0:World} {cs0:List Frame} {L:List ByteArray} {M:Own} {ν:aU} {c d:Nat}
end
theorem An {w:World} (k:Int):Calls Try.prog 8 #[.slice none 0 0,.int .i64 k,.slice none 0 0] w fun e w'=>Below w.heap.size w w'∧e=.returned (.bool true):=by
 refine ek (E:=aL) (args:=[.v (.slice none 0 0),.v (.int .i64 k),.v (.slice none 0 0)]) (a:=[.slice none 0 0,.int .i64 k,.slice none 0 0]) (n:=60) (o:=[(1000,.b true)]) rfl rfl de (by kernel_rfl) (ay.cons (VR.ah.2 rfl) (ay.cons (VR.ah.2 rfl) (ay.cons (VR.ah.2 rfl) ay.nil))) ⟨?_⟩
 rw [Oc]
 simp only [ak,and_self,and_true,true_and]
structure bU where
 p:ByteArray
 k:Int
 e:Int
def oC (x:bU):List SV:=[.v (.string x.p),.v (.int .i64 x.k),.v (.int .i64 x.e)]
def oV (x:bU):List Value:=[.string x.p,.int .i64 x.k,.int .i64 x.e]
theorem c8 (e:bU):(oC e).length=3:=rfl
theorem dK (e:bU):(oC e).all ab=true:=rfl
noncomputable def Cm:Env:=EP [] []
noncomputable def CE (l:List SV) (off n c:Nat):SM:=(bC Cm 5 [.sl 0 off n (some c)] (bO 6 1 0 [cD l])).getD dC
noncomputable def Hs:List SI:=dn Cm 2 60 (CE [] 0 0 0) [(1000,.b true)]
noncomputable def yG (off n c:Nat) (z i:Int):SF:={ fn:=5,tm:=eO 25 5 ([.sl 0 off n (some c),.aJ,.aJ,.v (.int .i64 z),.aJ,.aJ,.sl 0 off n (some c),.v (.int .i64 n),.v (.int .i64 i)]++List.replicate 16 .aJ),todo:=Hs,defers:=[],ret:=false,kind:=.normal,ro:=none }
theorem OU (l:List SV) (off n c:Nat):reach Cm 2 60 (CE l off n c) [(1000,.b true)] [(0,0)] [0] (yG off n c 0 0) 6 [cD l]=[off=off∧n=n∧some c=some c,vZ 0=vZ 0,off=off∧n=n∧some c=some c,vZ (↑n:Int)=vZ (↑n:Int),vZ 0=vZ 0,l=l,l.all ab=true]:=by kernel_rfl
theorem NW (l:List SV) (off n c:Nat) (x:bU) (z i z' i':Int):reach Cm 2 60 (SM.at (yG off n c z i) 6 [cD l]) (ff [0] true++[(2,.cells (oC x))]) [(0,0)] [0] (yG off n c z' i') 6 [cD l]=[off=off∧n=n∧some c=some c,vZ (IntKind.i64.wrap (z+(↑x.1.size:Int)))=vZ z',off=off∧n=n∧some c=some c,vZ (↑n:Int)=vZ (↑n:Int),vZ (IntKind.i64.wrap (i+1))=vZ i',l=l,l.all ab=true,List.take 3 (List.drop (off+i.toNat*3) l)=oC x∧(oC x).length=3,ao i n=true,decide (i<(↑n:Int))=true]:=by kernel_rfl
theorem N1 (l:List SV) (off n c:Nat) (z i:Int) (b:Bool):ax Cm 5 60 (SM.at (yG off n c z i) 6 [cD l]) (ff [0] false++ff [1,2,3,4,5] true) (.bool b)=[Value.bool (decide (z≤5000))=Value.bool b,decide ((↑n:Int)≤100)=true,decide ((↑n:Int)≤100)=true,decide ((↑n:Int)≤100)=true,decide (i<(↑n:Int))=false]:=by kernel_rfl
theorem OQ (l:List SV) (off n c:Nat) (z i:Int) (b:Bool):ax Cm 5 60 (SM.at (yG off n c z i) 6 [cD l]) (ff [0] false++ff [1,2,3,4,5] false) (.bool b)=[Value.bool false=Value.bool b,decide ((↑n:Int)≤100)=false,decide ((↑n:Int)≤100)=false,decide ((↑n:Int)≤100)=false,decide (i<(↑n:Int))=false]:=by kernel_rfl
theorem Qr (a:Option Addr) (c:Nat) (b:Bool):ax Cm 5 60 (ch Cm 5 [.v (.slice a 0 c)]) (ff [1000] true) (.bool b)=[Value.bool true=Value.bool b]:=by kernel_rfl
def B5 (z:Int) (xs:List bU):Int:=xs.foldl (fun n e=>IntKind.i64.wrap (n+(e.p.size:Int))) z
def ij (xs:List bU):Bool:=decide ((xs.length:Int)≤100)&&decide (B5 0 xs≤5000)
theorem BA (z:Int) (xs:List bU) (e:bU):B5 z (xs++[e])=IntKind.i64.wrap (B5 z xs+(e.p.size:Int)):=by
 unfold B5;rw [List.foldl_append];rfl
theorem JC {M:Own} {w0:World}:aW Cm M w0:=kb fun r h=>by cases h
section
variable {M:Own} {w0:World} {cs0:List Frame} {R:Ending→World→Prop} {ν:aU} {xs:List bU} {off c:Nat}
theorem Ee (hν:∀ i b,ν i=some b→i=0) (hl:xs.length≤9223372036854775807) (hM:∀ b,¬ M b) (hR:∀ w',Below w0.heap.size w0 w'→R (.returned (.bool (ij xs))) w'):
  ∀ (j k:Nat),k+j=xs.length→af Cm M w0 cs0 5 R ν (SM.at (yG off xs.length c (B5 0 (xs.take k)) k) 6 [cD (ar oC off xs)])
 | 0,k,hk=>by
  have hk:k=xs.length:=by omega
  by_cases h:(xs.length:Int)≤100
  ·refine af.ax JC (n:=60) (o:=ff [0] false++ff [1,2,3,4,5] true) (v:=.bool (ij xs)) ?_ fun ν' M1 w1 s' w' _ hB hr=>hR _ (aI hM hB hr)
   rw [N1]
   simp only [ak,h,decide_true,hk,Int.lt_irrefl,decide_false,true_and,and_true]
   unfold ij
   first | (rw [List.take_length];simp [h];done) | (simp [h];done)
  ·refine af.ax JC (n:=60) (o:=ff [0] false++ff [1,2,3,4,5] false) (v:=.bool (ij xs)) ?_ fun ν' M1 w1 s' w' _ hB hr=>hR _ (aI hM hB hr)
   rw [OQ]
   simp only [ak,h,decide_true,hk,Int.lt_irrefl,decide_false,true_and,and_true]
   unfold ij
   first | (rw [List.take_length];simp [h];done) | (simp [h];done)
 | j+1,k,hk=>by
  have hi:k<xs.length:=by omega
  have hxk:xs[k]?=some xs[k]:=List.getElem?_eq_getElem hi
  have t1:decide ((k:Int)<(xs.length:Int))=true:=decide_eq_true (by omega)
  have r1:=aO hi
  have ws:IntKind.i64.wrap ((k:Int)+1)=((k+1:Nat):Int):=by rw [wi (by omega)];omega
  have ra:=fM (off:=off) c8 hxk
  have hcl:(ar oC off xs).all ab=true:=bw dK
  have nx:=Ee hν hl hM hR j (k+1) (by omega)
  rw [List.take_succ_eq_append_getElem hi,BA] at nx
  refine af.reach JC (k:=2) (n:=60) (o:=(ff [0] true++[(2,.cells (oC xs[k]))])) (ren:=[(0,0)]) (eqs:=[0]) ?_ (by kernel_rfl) (fun i b h=>by rw [hν i b h];rfl) nx
  rw [NW]
  simp only [ak,Int.toNat_natCast,t1,r1,ws,ra,hcl,c8,and_self,and_true,true_and]
  try (repeat' apply And.intro)
  all_goals first | rfl | exact ws.symm | exact ws | skip
end
inductive gC (W:World) (a:Option Addr) (l c:Nat) (D:List bU):Prop where
 | none (hl:l=0) (hD:D=[])
 | some (b off:Nat) (cs:Array Value) (e:TypeId) (fz:Nat × Nat) (ha:a=.some ⟨b,off,.none⟩) (hl:D.length=l) (hlc:l≤c) (hh:W.heap[b]?=.some (.cells cs e fz)) (hoff:off≤cs.size) (hc:∀ (k:Nat) (v:Value),(D.flatMap oV)[k]?=.some v→cs[off+k]?=.some v)
theorem gC.keep {W w:World} {a:Option Addr} {l c:Nat} {D:List bU} (h:gC W a l c D) (hk:∀ k,k<W.heap.size→w.heap[k]?=W.heap[k]?):gC w a l c D:=by
 rcases h with ⟨hl,hD⟩ | ⟨b,off,cs,e,fz,ha,hl,hlc,hh,hoff,hc⟩
 ·exact .none hl hD
 ·exact .some b off cs e fz ha hl hlc ((hk b (Array.getElem?_eq_some_iff.1 hh).1).trans hh) hoff hc
section
variable {H:Type} {enc:TypeId × Value→H} {W:World} {base:Nat} {spare:Nat→Bool} {held:Bool}
theorem CS {vs:List Value} {n:Nat} {y:DataW H × List MemPlace} (h:DataW.trod enc Try.prog W base spare held n 44 vs=some y) (hw:∀ q∈y.1.weights Try.prog 44,q≤reachBytes):∃ r:{ x:bU // x.p.size≤reachBytes },vs=oV r.1:=by
 have hs:Try.prog.underlying 44=some (.struct (structFields Try.prog 44)):=by kernel_rfl
 obtain ⟨xs,n',_,_,hl,_,_⟩:=DataW.trod_struct hs h
 have hl:vs.length=3:=hl.trans (by kernel_rfl)
 obtain ⟨n0,y0,h0,w0⟩:=gP (i:=0) (o:=0) (ft:=9) (k:=1) h hs (by kernel_rfl) (by kernel_rfl) (by kernel_rfl) (by kernel_rfl)
 obtain ⟨n1,y1,h1,w1⟩:=gP (i:=1) (o:=1) (ft:=3) (k:=1) h hs (by kernel_rfl) (by kernel_rfl) (by kernel_rfl) (by kernel_rfl)
 obtain ⟨n2,y2,h2,w2⟩:=gP (i:=2) (o:=2) (ft:=42) (k:=1) h hs (by kernel_rfl) (by kernel_rfl) (by kernel_rfl) (by kernel_rfl)
 match vs,hl with
 | [v0,v1,v2],_=>
  obtain ⟨s,hs0,hx0,_⟩:=DataW.trod_string Try.underlying9 h0
  obtain ⟨z1,hz1,_,wf1⟩:=DataW.trod_int Try.underlying3 h1
  obtain ⟨z2,hz2,_,_⟩:=DataW.trod_int (show Try.prog.underlying 42=some (.int .i64) by kernel_rfl) h2
  cases hs0;cases hz1;cases hz2
  refine ⟨⟨⟨s,z1,z2⟩,?_⟩,rfl⟩
  have:=hw s.data.toList.length (w0 _ (by rw [hx0];unfold DataW.weights;exact List.mem_singleton.2 rfl))
  simpa using this
theorem GB {a:Option Addr} {l c:Nat} {d:DataW H} {p:List MemPlace} (h:DataW.Trod enc Try.prog W base spare held 23 (.slice a l c) d p) (hw:∀ q∈d.weights Try.prog 23,q≤reachBytes):
  ∃ D:List bU,gC W a l c D∧(∀ x∈D,x.p.size≤reachBytes)∧l≤9223372036854775807:=by
 obtain ⟨n,hn⟩:=h
 have hr:=we (h:=fun r:{ x:bU // x.p.size≤reachBytes }=>oV r.1) (C:=3) (by decide) (fun _=>rfl) (fun vs n y h hq=>CS h fun q hq'=>hw q (hq q hq')) (show Try.prog.underlying 23=some (.slice 44) by kernel_rfl) (by kernel_rfl) hn
 obtain ⟨⟨hlc,hcm⟩,rfl | ⟨b,off,xs,cs,e,fz,rfl,rfl,hh,hoff,hc⟩⟩:=hr
 ·exact ⟨[],.none rfl rfl,fun x hx=>(nomatch hx),by omega⟩
 ·refine ⟨xs.map (·.1),.some b off cs e fz rfl (by simp) hlc hh hoff fun k v hk=>hc k v ?_,fun x hx=>?_,Nat.le_trans hlc (Nat.le_trans hcm (by decide))⟩
  ·rw [List.flatMap_map] at hk;exact hk
  ·obtain ⟨r,_,rfl⟩:=List.mem_map.1 hx
   exact r.2
end
theorem v8 {W:World} {a:Option Addr} {l c:Nat} {D:List bU} (h:gC W a l c D) (hl:l≤9223372036854775807):Calls Try.prog 5 #[.slice a l c] W fun e w'=>Below W.heap.size W w'∧e=.returned (.bool (ij D)):=by
 rcases h with ⟨rfl,rfl⟩ | ⟨b,off,cs,e,fz,rfl,rfl,hlc,hh,hoff,hc⟩
 ·refine ek (E:=Cm) (args:=[.v (.slice a 0 c)]) (a:=[.slice a 0 c]) (n:=60) (o:=ff [1000] true) rfl rfl JC (by kernel_rfl) (ay.cons (VR.ah.2 rfl) ay.nil) ⟨?_⟩
  rw [Qr]
  simp only [ak,and_self,and_true,true_and]
  rfl
 ·refine (aY (E:=Cm) (R:=fun e w'=>Below W.heap.size W w'∧e=.returned (.bool (ij D))) rfl (d:=6) (l:=[(b,0)]) (os:=[.look (ar oC off D)]) rfl (by simp) (by simp) ?_ rfl (args:=[.sl 0 off D.length (some c)]) (a:=[.slice (some ⟨b,off,none⟩) D.length c]) (S0:=CE (ar oC off D) off D.length c) (by kernel_rfl) (ay.cons (VR.aQ.2 ⟨(b,0),rfl,hlc,rfl⟩) ay.nil) fun cs0=>?_)
  ·intro j o' b' c' h1 h2
   match j with
   | 0=>
    simp only [List.getElem?_cons_zero,Option.some.injEq] at h1 h2
    subst h1
    cases h2
    exact ⟨_,hh,eK (h:=oV) (fun ν x=>ay.lits ν (oV x)) hoff hc⟩
   | j+1=>simp at h1
  ·have hM:∀ z,¬ (aT [(b,0)] ([SO.look (ar oC off D)].map fun o=>(o,false))) z:=fun z=>a6
   have hν:∀ i c,aE [(b,0)] i=some c→i=0:=fun i c h=>fQ h
   have hcl:(ar oC off D).all ab=true:=bw dK
   have nx:=Ee (w0:=W) (cs0:=cs0) (R:=fun e w'=>Below W.heap.size W w'∧e=.returned (.bool (ij D))) (c:=c) (off:=off) hν (by omega) hM (fun w' hB=>⟨hB,rfl⟩) D.length 0 (by omega)
   rw [List.take_zero,show B5 0 []=0 from rfl] at nx
   refine af.reach JC (k:=2) (n:=60) (o:=[(1000,.b true)]) (ren:=[(0,0)]) (eqs:=[0]) (F:=yG off D.length c 0 0) (d:=6) (l:=[cD (ar oC off D)]) ?_ (by kernel_rfl) (fun i b h=>by rw [hν i b h];rfl) nx
   rw [OU]
   simp only [ak,hcl,and_self,and_true,true_and]
def MB (k e:Int):Bool:=(decide (k<1)||decide (k>6))||((decide (k=5)&&decide (e=0))||(decide (k<5)&&!decide (e=0)))
section
variable {w0:World} {cs0:List Frame} {xs:List bU} {M:Own} {ν:aU} {off c:Nat}
end
section
variable {NW hi1 N1 hi2:Nat} {w:World} {D:List c5} {ys:c5→List Int} {b1 b2:Nat} {y1 y2:Value} {c1 c2:c5→List Int} {l1 l2:List c5} {L1 L2:List ByteArray} {xs1 xs2:List c5}
end
theorem wW {w w1 w2 W:World} {H:Hp} {y:Value} {zs:List Value} {n C:Nat} {e:TypeId} (hs:W.heap.size≤w.heap.size) (h:cy w w1 y zs n C e) (hk:(H.grow w w1).Sub w2.hp):cy W w2 y zs n C e:=by
 obtain ⟨g,cc,rest,hy,hbase,hnc,hh,hsz⟩:=h
 refine ⟨g,cc,rest,hy,Nat.le_trans hs hbase,hnc,hk _ _ ?_,hsz⟩
 unfold Hp.grow
 rw [if_neg (by omega)];exact hh
theorem tK {w w1 w2 W:World} {H:Hp} {N:List ByteArray} {v:Value} (hs:W.heap.size≤w.heap.size) (h:ng w w1 N v) (hk:(H.grow w w1).Sub w2.hp):ng W w2 N v:=by
 rcases h with h | ⟨h0,h⟩
 ·exact .inl h
 ·exact .inr ⟨h0,wW hs h hk⟩
def ig (k:Int) (w w':World) (l:List ByteArray) (v:Value):Prop:=(l=[]∧v=.slice none 0 0)∨(l≠[]∧cy w w' v (kx k l) l.length 2 48)
theorem jf {k:Int} {w w1 w2 W:World} {H:Hp} {N:List ByteArray} {v:Value} (hs:W.heap.size≤w.heap.size) (h:ig k w w1 N v) (hk:(H.grow w w1).Sub w2.hp):ig k W w2 N v:=by
 rcases h with h | ⟨h0,h⟩
 ·exact .inl h
 ·exact .inr ⟨h0,wW hs h hk⟩
theorem AN {A B w wa:World} {v u:Value} {zs ws:List Value} {n m C D:Nat} {e e2:TypeId} (h1:cy A wa v zs n C e) (h2:cy B w u ws m D e2) (h3:cy A w v zs n C e) (hl:wa.heap.size≤B.heap.size):
  ∃ g1 g2 c d r1 r2,g1≠g2∧v=.slice (some ⟨g1,0,none⟩) n c∧u=.slice (some ⟨g2,0,none⟩) m d∧n≤c∧m≤d∧w.heap[g1]?=some (.cells (zs++r1).toArray e)∧w.heap[g2]?=some (.cells (ws++r2).toArray e2):=by
 obtain ⟨g1,c1,q1,rfl,_,_,a1,_⟩:=h1
 obtain ⟨g2,c2,q2,rfl,b2,n2,a2,_⟩:=h2
 obtain ⟨g3,c3,q3,y3,_,n3,a3,_⟩:=h3
 injection y3 with y3 y4 y5
 injection y3 with y3
 injection y3 with y3
 subst y3 y5
 have h1:=(Array.getElem?_eq_some_iff.1 a1).1
 exact ⟨g1,g2,c1,c2,q3,q2,by omega,rfl,rfl,n3,n2,a3,a2⟩
theorem oM {w w1 w2:World} {H:Hp} (hk:(H.grow w w1).Sub w2.hp):GV w.heap.size w1 w2:=fun k o hk1 ho=>hk k o (by unfold Hp.grow;rw [if_neg (by omega)];exact ho)
def xG (e:aA):List SV:=[.v (.int .i64 e.k),.v (.slice e.a e.l e.c)]
def nG:Option (SO × Bool):=some (.row [.v (.int .i64 0),.v (.slice none 0 0)] 39 (0,0) none,true)
noncomputable def AW (l:List SV) (n c:Nat) (p:ByteArray):SM:=(bC aL 25 [.sl 0 0 n (some c),.v (.string p)] (bO 6 1 0 [cD l])).getD dC
noncomputable def HK:List SI:=dn aL 2 60 (AW [] 0 0 ⟨#[]⟩) [(1000,.b true)]
noncomputable def wT (n c:Nat) (p:ByteArray) (i:Int):SF:={ fn:=25,tm:=eO 25 5 ([.sl 0 0 n (some c),.v (.string p),.aJ,.aJ,.ptr 1 0,.v (.int .i64 i)]++List.replicate 19 .aJ),todo:=HK,defers:=[],ret:=false,kind:=.normal,ro:=none }
theorem N0 (l:List SV) (n c:Nat) (p:ByteArray):reach aL 2 60 (AW l n c p) [(1000,.b true)] [(0,0),(1,1)] [0] (wT n c p 0) 6 [cD l,nG]=[0=0∧n=n∧some c=some c,Value.string p=Value.string p,0=0,vZ 0=vZ 0,l=l,l.all ab=true,vZ 0=vZ 0,Value.slice none 0 0=Value.slice none 0 0]:=by kernel_rfl
theorem Q7 (l:List SV) (n c:Nat) (p q:ByteArray) (i i':Int):reach aL 2 60 (SM.at (wT n c p i) 6 [cD l,nG]) (ff [0] true++[(2,.cells [.v (.string q)])]++ff [3] false) [(0,0),(1,1)] [0] (wT n c p i') 6 [cD l,nG]=[0=0∧n=n∧some c=some c,Value.string p=Value.string p,0=0,vZ (IntKind.i64.wrap (i+1))=vZ i',l=l,l.all ab=true,vZ 0=vZ 0,Value.slice none 0 0=Value.slice none 0 0,(q.toList==p.toList)=false,l[0+i.toNat*3+0]?=some (SV.v (Value.string q)),ao i n=true,decide (i<(↑n:Int))=true]:=by kernel_rfl
theorem Rs (l:List SV) (n c:Nat) (p q:ByteArray) (i:Int) (e:aA) (v:Value):ax aL 25 60 (SM.at (wT n c p i) 6 [cD l,nG]) (ff [0] true++[(2,.cells [.v (.string q)])]++ff [3] true++[(5,.cells (xG e))]) v=[Value.agg { toList:=[vZ e.2,Value.slice e.3 e.4 e.5]:Array Value }=v,List.take 2 (List.drop (0+i.toNat*3+1) l)=xG e∧(xG e).length=2,ao i n=true,(q.toList==p.toList)=true,l[0+i.toNat*3+0]?=some (SV.v (Value.string q)),ao i n=true,decide (i<(↑n:Int))=true]:=by kernel_rfl
theorem Qy (l:List SV) (n c:Nat) (p:ByteArray) (i:Int) (v:Value):ax aL 25 60 (SM.at (wT n c p i) 6 [cD l,nG]) (ff [0] false) v=[Value.agg { toList:=[vZ 0,Value.slice none 0 0]:Array Value }=v,decide (i<(↑n:Int))=false]:=by kernel_rfl
noncomputable def zH (p:ByteArray):SM:=ch aL 25 [.v (.slice none 0 0),.v (.string p)]
theorem NY (p:ByteArray) (v:Value):ax aL 25 60 (zH p) [(1000,.b true)] v=[Value.agg { toList:=[vZ 0,Value.slice none 0 0]:Array Value }=v]:=by kernel_rfl
noncomputable def yq:Env:=EP [(45,lX)] []
noncomputable def CH (l:List SV) (n c:Nat) (p:ByteArray):SM:=(bC yq 28 [.sl 0 0 n (some c),.v (.string p)] (bO 6 1 0 [cD l])).getD dC
noncomputable def IE:List SI:=dn yq 2 60 (CH [] 0 0 ⟨#[]⟩) [(1000,.b true)]
noncomputable def nC (n c:Nat) (p:ByteArray) (x:SV) (i:Int):SF:={ fn:=28,tm:=eO 29 5 ([.sl 0 0 n (some c),.v (.string p),.aJ,.aJ,.aJ,x,.v (.int .i64 i)]++List.replicate 22 .aJ),todo:=IE,defers:=[],ret:=false,kind:=.normal,ro:=none }
def oa (l:List SV):Option (SO × Bool):=some (.row l 9 (0,0) (some 1),true)
theorem Rz (l:List SV) (n c:Nat) (p:ByteArray):reach yq 2 60 (CH l n c p) [(1000,.b true)] [(0,0)] [0] (nC n c p aK 0) 6 [cD l]=[0=0∧n=n∧some c=some c,Value.string p=Value.string p,Value.slice none 0 0=Value.slice none 0 0,vZ 0=vZ 0,l=l,l.all ab=true]:=by kernel_rfl
theorem QG (l:List SV) (n c:Nat) (p q:ByteArray) (i i':Int):reach yq 2 60 (SM.at (nC n c p aK i) 6 [cD l]) (ff [0] true++[(2,.cells [.v (.string q)])]++ff [3,4] false) [(0,0)] [0] (nC n c p aK i') 6 [cD l]=[0=0∧n=n∧some c=some c,Value.string p=Value.string p,Value.slice none 0 0=Value.slice none 0 0,vZ (IntKind.i64.wrap (i+1))=vZ i',l=l,l.all ab=true,dF q p=false,q.size≤1000000000∧p.size≤1000000000,l[0+i.toNat*3+0]?=some (SV.v (Value.string q)),ao i n=true,decide (i<(↑n:Int))=true]:=by kernel_rfl
theorem P7 (l l':List SV) (n c:Nat) (p q:ByteArray) (i i':Int):reach yq 2 60 (SM.at (nC n c p aK i) 6 [cD l]) (ff [0] true++[(2,.cells [.v (.string q)])]++ff [3,4] true++[(6,.cells [.v (.string q)])]) [(0,0),(1,2)] [0,1] (nC n c p (.sl 1 0 1 none) i') 6 [cD l,oa l']=[0=0∧n=n∧some c=some c,Value.string p=Value.string p,0=0∧1=1∧nZ=none,vZ (IntKind.i64.wrap (i+1))=vZ i',l=l,l.all ab=true,[]++List.take 1 (List.drop 0 (aX (List.replicate 1 (List.map SV.v [Value.string ⟨⟨[]⟩⟩])).flatten 0 [SV.v (Value.string q)]))=l',l'.all ab=true,l[0+i.toNat*3+0]?=some (SV.v (Value.string q)),ao i n=true,dF q p=true,q.size≤1000000000∧p.size≤1000000000,l[0+i.toNat*3+0]?=some (SV.v (Value.string q)),ao i n=true,decide (i<(↑n:Int))=true]:=by kernel_rfl
theorem Pn (l m:List SV) (n c k:Nat) (p q:ByteArray) (i i':Int):reach yq 2 60 (SM.at (nC n c p (.sl 1 0 k none) i) 6 [cD l,oa m]) (ff [0] true++[(2,.cells [.v (.string q)])]++ff [3,4] false) [(0,0),(1,1)] [0,1] (nC n c p (.sl 1 0 k none) i') 6 [cD l,oa m]=[0=0∧n=n∧some c=some c,Value.string p=Value.string p,0=0∧k=k∧nZ=none,vZ (IntKind.i64.wrap (i+1))=vZ i',l=l,l.all ab=true,m=m,m.all ab=true,dF q p=false,q.size≤1000000000∧p.size≤1000000000,l[0+i.toNat*3+0]?=some (SV.v (Value.string q)),ao i n=true,decide (i<(↑n:Int))=true]:=by kernel_rfl
theorem Qv (l m l' w:List SV) (n c k:Nat) (p q:ByteArray) (i i':Int):reach yq 2 60 (SM.at (nC n c p (.sl 1 0 k none) i) 6 [cD l,oa m]) (ff [0] true++[(2,.cells [.v (.string q)])]++ff [3,4] true++[(6,.cells [.v (.string q)]),(7,.app m w)]) [(0,0),(1,3)] [0,1] (nC n c p (.sl 1 0 (k+1) none) i') 6 [cD l,oa l']=[0=0∧n=n∧some c=some c,Value.string p=Value.string p,0=0∧k+1=k+1∧nZ=none,vZ (IntKind.i64.wrap (i+1))=vZ i',l=l,l.all ab=true,m++w=l',l'.all ab=true,((List.take 1 (List.drop 0 (aX (List.replicate 1 (List.map SV.v [Value.string ⟨⟨[]⟩⟩])).flatten 0 [SV.v (Value.string q)]))=w∧w.length=1*1)∧1≠0∧(2*(k+1)+1024)*16≤140737488355328)∧List.take (k*1) m=m∧m.length=k*1∧w.all SV.flat=true,l[0+i.toNat*3+0]?=some (SV.v (Value.string q)),ao i n=true,dF q p=true,q.size≤1000000000∧p.size≤1000000000,l[0+i.toNat*3+0]?=some (SV.v (Value.string q)),ao i n=true,decide (i<(↑n:Int))=true]:=by kernel_rfl
theorem P9 (l:List SV) (n c:Nat) (p:ByteArray) (i:Int) (v:Value):ax yq 28 60 (SM.at (nC n c p aK i) 6 [cD l]) (ff [0] false) v=[Value.slice none 0 0=v,decide (i<(↑n:Int))=false]:=by kernel_rfl
theorem Ph (l m:List SV) (n c k:Nat) (p:ByteArray) (i:Int):bR yq 28 60 (SM.at (nC n c p (.sl 1 0 k none) i) 6 [cD l,oa m]) (ff [0] false) (.sl 1 0 k none) 1 (.row m 9 (0,0) (some 1))=[0=0∧k=k∧nZ=none,m=m,m.all ab=true,decide (i<(↑n:Int))=false]:=by kernel_rfl
noncomputable def Cu (p:ByteArray):SM:=ch yq 28 [.v (.slice none 0 0),.v (.string p)]
theorem Oq (p:ByteArray) (v:Value):ax yq 28 60 (Cu p) [(1000,.b true)] v=[Value.slice none 0 0=v]:=by kernel_rfl
def aj (p:ByteArray) (l:List aA):aA:=(l.find? (oR p)).getD ⟨p,0,none,0,0⟩
def bP (p:ByteArray) (l:List aA):List ByteArray:=(l.map fun e=>e.p).filter fun q=>dF q p
def jv (e:aA):Value:=.agg #[.int .i64 e.k,.slice e.a e.l e.c]
theorem Gq {xs:List aA} {k:Nat} {x:aA} (h:xs[k]?=some x):List.take 2 (List.drop (0+k*3+1) (cI xs))=xG x:=by
 have h1:=qV h
 have h2:List.drop (0+k*3+1) (cI xs)=List.drop 1 (List.drop (0+k*3) (cI xs)):=by rw [List.drop_drop]
 have h3:List.take 2 (List.drop 1 (List.drop (0+k*3) (cI xs)))=List.drop 1 (List.take 3 (List.drop (0+k*3) (cI xs))):=by rw [List.drop_take]
 rw [h2,h3,h1];rfl
def gA (a:SV) (s:SH):Option (List aA × Prop):=match a with
 | .v (.slice none 0 0)=>some ([],True)
 | .sl i 0 n none=>match s.look i with
  | some (.row ys e (0,0) (some 3),_)=>some (ae ys n,e=41∧bc ys n (ae ys n)∧ae ys n≠[])
  | _=>none
 | _=>none
theorem kq {a:SV} {s:SH} {xs:List aA} {p:Prop} (h:gA a s=some (xs,p)) (hp:p):(xs=[]∧a=.v (.slice none 0 0))∨(xs≠[]∧xs.length≤1000∧∃ i mk,a=.sl i 0 xs.length none∧s.look i=some (.row (cI xs) 41 (0,0) (some 3),mk)):=by
 unfold gA at h
 split at h
 ·cases h;exact .inl ⟨rfl,rfl⟩
 ·rename_i i n
  split at h
  ·rename_i ys e mk hl
   cases h
   obtain ⟨rfl,⟨h1,h2,h3⟩,h4⟩:=hp
   refine .inr ⟨h4,by omega,i,mk,by rw [← h2],?_⟩
   rw [hl];congr 3
  ·cases h
 ·cases h
section
variable {w0:World} {cs0:List Frame} {R:Ending→World→Prop} {xs:List aA} {p:ByteArray} {b:Nat × Nat} {c:Nat}
theorem zm (hl:xs.length≤1000) (hR:∀ w',Below w0.heap.size w0 w'→R (.returned (jv (aj p xs))) w'):∀ (j i:Nat),i+j=xs.length→(∀ e∈xs.take i,oR p e=false)→
  af aL (aT [b] [(.look (cI xs),false)]) w0 cs0 25 R (aE [b]) (SM.at (wT xs.length c p i) 6 [cD (cI xs),nG])
 | 0,i,hj,hn=>by
  refine cz de kQ (n:=60) (o:=ff [0] false) (v:=.agg #[.int .i64 0,.slice none 0 0]) ⟨?_⟩ fun w' hw=>?_
  ·rw [Qy];simp only [ak,true_and,and_true];exact decide_eq_false (by omega)
  ·rw [List.take_of_length_le (by omega)] at hn
   have:xs.find? (oR p)=none:=by
    rw [List.find?_eq_none];intro e he;rw [hn e he];simp
   have e2:aj p xs=⟨p,0,none,0,0⟩:=by unfold aj;rw [this];rfl
   have:=hR w' hw
   rw [e2] at this;exact this
 | j+1,i,hj,hn=>by
  have hi:i<xs.length:=by omega
  have hxi:xs[i]?=some xs[i]:=List.getElem?_eq_getElem hi
  have t1:decide ((i:Int)<(xs.length:Int))=true:=decide_eq_true (by omega)
  have r1:=aO hi
  have ws:=aM (k:=i) (by omega)
  have rc:=hQ hxi
  have ra:=Gq hxi
  cases hq:oR p xs[i]
  ·have hq':(xs[i].p.toList==p.toList)=false:=by rw [oP,oP];exact hq
   refine af.reach de (k:=2) (n:=60) (o:=(ff [0] true++[(2,.cells [.v (.string xs[i].p)])]++ff [3] false)) (ren:=[(0,0),(1,1)]) (eqs:=[0]) ?_ (by kernel_rfl) (fun i b h=>by rw [fQ h];rfl) (l:=[cD (cI xs),nG]) (zm hl hR j (i+1) (by omega) fun e he=>by
    rw [List.take_succ_eq_append_getElem hi] at he
    rcases List.mem_append.1 he with h | h
    ·exact hn e h
    ·rw [List.mem_singleton.1 h];exact hq)
   rw [Q7]
   simp only [ak,Int.toNat_natCast,t1,r1,rc,hq',ws,az,and_self]
  ·have hq':(xs[i].p.toList==p.toList)=true:=by rw [oP,oP];exact hq
   refine cz de kQ (n:=60) (o:=(ff [0] true++[(2,.cells [.v (.string xs[i].p)])]++ff [3] true++[(5,.cells (xG xs[i]))])) (v:=jv xs[i]) ⟨?_⟩ fun w' hw=>?_
   ·rw [Rs]
    simp only [ak,Int.toNat_natCast,t1,r1,rc,ra,hq',and_self,true_and,and_true]
    exact ⟨rfl,rfl⟩
   ·have hf:xs.find? (oR p)=some xs[i]:=by
     conv=>lhs;rw [← List.take_append_drop i xs]
     rw [List.find?_append]
     have:(xs.take i).find? (oR p)=none:=by
      rw [List.find?_eq_none];intro e he;rw [hn e he];simp
     rw [this,List.drop_eq_getElem_cons hi,List.find?_cons,hq];rfl
    have e2:aj p xs=xs[i]:=by unfold aj;rw [hf];rfl
    have:=hR w' hw
    rw [e2] at this;exact this
end
def AL:Co:=fun args sh=>match args with
 | [A,.v (.string p)]=>match gA A sh with
  | some (xs,q)=>some (jv (aj p xs),q)
  | none=>none
 | _=>none
theorem AM {X:World→Prop}:cr Try.prog X (25,eE AL):=by
 refine fP ⟨_,Try.func25,by kernel_rfl,by kernel_rfl⟩ fun args sh v q h hp ν M w0 w a hr hX ha=>?_
 dsimp only [AL] at h
 split at h
 ·rename_i A p
  split at h
  ·rename_i xs q hl
   cases h
   obtain ⟨y1,as1,rfl,q1,ha2⟩:=ha.cons_inv
   obtain ⟨y2,as2,rfl,q2,ha3⟩:=ha2.cons_inv
   obtain rfl:=ha3.aB
   obtain rfl:=VR.ah.1 q2
   rcases kq hl hp with ⟨rfl,rfl⟩ | ⟨hne,hfew,i,mk,rfl,hlk⟩
   ·obtain rfl:=VR.ah.1 q1
    refine (cp (E:=aL) (R:=fun e w'=>Below w.heap.size w w'∧e=.returned (jv (aj p []))) rfl rfl (args:=[.v (.slice none 0 0),.v (.string p)]) (a:=[.slice none 0 0,.string p]) (S0:=zH p) (by kernel_rfl) (ay.cons (VR.ah.2 rfl) (ay.cons (VR.ah.2 rfl) ay.nil)) fun cs0=>?_)
    refine cz de bo (n:=60) (o:=[(1000,.b true)]) (v:=jv (aj p [])) ⟨?_⟩ fun w' hw=>⟨hw,rfl⟩
    rw [NY]
    simp only [ak,true_and,and_true]
    rfl
   ·obtain ⟨bb,hbb,hle,rfl⟩:=VR.aQ.1 q1
    refine lL (E:=aL) rfl rfl hr hlk (az xs) (args':=fun c=>[.sl 0 0 xs.length (some c),.v (.string p)]) (S0:=fun c=>AW (cI xs) xs.length c p) (fun b hb=>?_) (fun c=>by kernel_rfl) fun b cs0=>?_
    ·rw [hbb] at hb;cases hb
     have hle':xs.length≤bb.2:=hle
     exact ay.cons (VR.aQ.2 ⟨bb,rfl,hle',rfl⟩) (ay.cons (VR.ah.2 rfl) ay.nil)
    ·have nx:=zm (w0:=w) (cs0:=cs0) (b:=b) (c:=b.2) (p:=p) (xs:=xs) (R:=fun e w'=>Below w.heap.size w w'∧e=.returned (jv (aj p xs))) hfew (fun w' hw=>⟨hw,rfl⟩) xs.length 0 (by omega) (fun e he=>by simp at he)
     refine af.reach de (k:=2) (n:=60) (o:=[(1000,.b true)]) (ren:=[(0,0),(1,1)]) (eqs:=[0]) (F:=wT xs.length b.2 p 0) (d:=6) (l:=[cD (cI xs),nG]) ?_ (by kernel_rfl) (fun i b h=>by rw [fQ h];rfl) nx
     rw [N0]
     simp only [ak,az,and_self,and_true,true_and]
     first | done | rfl
  ·cases h
 ·cases h
theorem Hk {M:Own} {w0:World}:aW yq M w0:=kb fun r h=>by rw [List.mem_singleton.1 h];exact BO
theorem pX (p:ByteArray) {xs:List aA} {i:Nat} (h:i<xs.length):bP p (xs.take (i+1))=bP p (xs.take i)++(if dF xs[i].p p=true then [xs[i].p] else []):=by
 rw [List.take_succ_eq_append_getElem h]
 unfold bP
 rw [List.map_append,List.filter_append]
 congr 1
 cases hp:dF xs[i].p p <;> simp [hp]
theorem Ab (p:ByteArray) (xs:List aA):(bP p xs).length≤xs.length:=by
 unfold bP
 exact Nat.le_trans (List.length_filter_le _ _) (by rw [List.length_map];exact Nat.le_refl _)
def Mk (w0:World) (l:List ByteArray) (e:Ending) (w':World):Prop:=Below w0.heap.size w0 w'∧((l=[]∧e=.returned (.slice none 0 0))∨(l≠[]∧∃ y,e=.returned y∧cy w0 w' y (l.map Value.string) l.length 1 9))
section
variable {w0:World} {cs0:List Frame} {xs:List aA} {p:ByteArray} {b:Nat × Nat} {c:Nat}
theorem wb (hl:xs.length≤1000) (hp:p.size≤1000000000) (hs:∀ e∈xs,e.p.size≤1000000000):∀ (j i:Nat),i+j=xs.length→bP p (xs.take i)≠[]→
  af yq (aT [b] [(.look (cI xs),false)]) w0 cs0 28 (Mk w0 (bP p xs)) (aE [b]) (SM.at (nC xs.length c p (.sl 1 0 (bP p (xs.take i)).length none) i) 6 [cD (cI xs),oa (strs (bP p (xs.take i)))])
 | 0,i,hj,hne=>by
  rw [List.take_of_length_le (by omega)] at hne ⊢
  refine af.bR Hk (n:=60) (o:=ff [0] false) (x:=.sl 1 0 (bP p xs).length none) (i:=1) (so:=.row (strs (bP p xs)) 9 (0,0) (some 1)) (by
   rw [Ph]
   simp only [ak,au,and_self,and_true,true_and]
   exact decide_eq_false (by omega)) fun ν' w' y b1 ob hv hb ho hor hw hB'=>?_
  obtain ⟨M3,w3,M4,s',hBb,hr⟩:=hB'
  have hn:w0.heap.size≤b1.1:=by
   rcases hw with h | h
   ·exact h
   ·exact absurd h (kQ _)
  exact ⟨aI kQ hBb hr,.inr ⟨hne,y,rfl,cy.e8 hv hb ho hor hn fun zs hz=>fD hz⟩⟩
 | j+1,i,hj,hne=>by
  have hi:i<xs.length:=by omega
  have hsn:=pX p hi
  have hxi:xs[i]?=some xs[i]:=List.getElem?_eq_getElem hi
  have t1:decide ((i:Int)<(xs.length:Int))=true:=decide_eq_true (by omega)
  have r1:=aO hi
  have ws:=aM (k:=i) (by omega)
  have rc:=hQ hxi
  have z1:=hs _ (List.getElem_mem hi)
  have hbl:(bP p (xs.take i)).length≤1000:=Nat.le_trans (Ab _ _) (by rw [List.length_take];omega)
  cases hq:dF xs[i].p p
  ·rw [hq,if_neg (by decide),List.append_nil] at hsn
   have nx:=wb hl hp hs j (i+1) (by omega) (by rw [hsn];exact hne)
   rw [hsn] at nx
   refine af.reach Hk (k:=2) (n:=60) (o:=(ff [0] true++[(2,.cells [.v (.string xs[i].p)])]++ff [3,4] false)) (ren:=[(0,0),(1,1)]) (eqs:=[0,1]) ?_ (by kernel_rfl) (fun i b h=>by rw [fQ h];rfl) nx
   rw [Pn]
   simp only [ak,Int.toNat_natCast,t1,r1,rc,hq,ws,az,au,and_self,and_true,true_and]
   exact ⟨z1,hp⟩
  ·rw [hq,if_pos rfl] at hsn
   have nx:=wb hl hp hs j (i+1) (by omega) (by rw [hsn];simp)
   rw [hsn,List.length_append,show ([xs[i].p]:List ByteArray).length=1 from rfl,gB,dW] at nx
   refine af.reach Hk (k:=2) (n:=60) (o:=(ff [0] true++[(2,.cells [.v (.string xs[i].p)])]++ff [3,4] true++[(6,.cells [.v (.string xs[i].p)]),(7,.app (strs (bP p (xs.take i))) [.v (.string xs[i].p)])])) (ren:=[(0,0),(1,3)]) (eqs:=[0,1]) ?_ (by kernel_rfl) (fun i b h=>by rw [fQ h];rfl) nx
   rw [Qv]
   simp only [ak,Int.toNat_natCast,t1,r1,rc,hq,ws,az,au,bg,aD,List.all_append,and_self,and_true,true_and]
   repeat' apply And.intro
   all_goals first | rfl | exact z1 | exact hp | omega | exact List.take_of_length_le (by rw [aD];omega) | skip
theorem Ay (hl:xs.length≤1000) (hp:p.size≤1000000000) (hs:∀ e∈xs,e.p.size≤1000000000):∀ (j i:Nat),i+j=xs.length→bP p (xs.take i)=[]→
  af yq (aT [b] [(.look (cI xs),false)]) w0 cs0 28 (Mk w0 (bP p xs)) (aE [b]) (SM.at (nC xs.length c p aK i) 6 [cD (cI xs)])
 | 0,i,hj,hn=>by
  rw [List.take_of_length_le (by omega)] at hn
  refine cz Hk kQ (n:=60) (o:=ff [0] false) (v:=.slice none 0 0) ⟨?_⟩ fun w' hw=>⟨hw,.inl ⟨hn,rfl⟩⟩
  rw [P9]
  simp only [ak,and_self,and_true,true_and]
  exact decide_eq_false (by omega)
 | j+1,i,hj,hn=>by
  have hi:i<xs.length:=by omega
  have hsn:=pX p hi
  have hxi:xs[i]?=some xs[i]:=List.getElem?_eq_getElem hi
  have t1:decide ((i:Int)<(xs.length:Int))=true:=decide_eq_true (by omega)
  have r1:=aO hi
  have ws:=aM (k:=i) (by omega)
  have rc:=hQ hxi
  have z1:=hs _ (List.getElem_mem hi)
  cases hq:dF xs[i].p p
  ·rw [hq,if_neg (by decide),List.append_nil] at hsn
   have nx:=Ay hl hp hs j (i+1) (by omega) (by rw [hsn];exact hn)
   refine af.reach Hk (k:=2) (n:=60) (o:=(ff [0] true++[(2,.cells [.v (.string xs[i].p)])]++ff [3,4] false)) (ren:=[(0,0)]) (eqs:=[0]) ?_ (by kernel_rfl) (fun i b h=>by rw [fQ h];rfl) nx
   rw [QG]
   simp only [ak,Int.toNat_natCast,t1,r1,rc,hq,ws,az,aK,and_self,and_true,true_and]
   exact ⟨z1,hp⟩
  ·rw [hq,if_pos rfl,hn,List.nil_append] at hsn
   have nx:=wb (w0:=w0) (cs0:=cs0) (b:=b) (c:=c) (p:=p) hl hp hs j (i+1) (by omega) (by rw [hsn];simp)
   rw [hsn,show ([xs[i].p]:List ByteArray).length=1 from rfl,dW] at nx
   refine af.reach Hk (k:=2) (n:=60) (o:=(ff [0] true++[(2,.cells [.v (.string xs[i].p)])]++ff [3,4] true++[(6,.cells [.v (.string xs[i].p)])])) (ren:=[(0,0),(1,2)]) (eqs:=[0,1]) ?_ (by kernel_rfl) (fun i b h=>by rw [fQ h];rfl) nx
   rw [P7]
   simp only [ak,Int.toNat_natCast,t1,r1,rc,hq,ws,az,and_self,and_true,true_and]
   repeat' apply And.intro
   all_goals first | rfl | exact z1 | exact hp | omega | skip
end
theorem oG {ν:aU} {M:Own} {w0 w:World} {sh:SH} (hr:HR ν M w0 sh w) {A:SV} {xs:List aA} {q:Prop} {p:ByteArray} (hl:gA A sh=some (xs,q)) (hq:q) (hp:p.size≤1000000000) (hs:∀ e∈xs,e.p.size≤1000000000) {a:List Value}
  (ha:ay ν [A,.v (.string p)] a):Calls Try.prog 28 a.toArray w (Mk w (bP p xs)):=by
 obtain ⟨y1,as1,rfl,q1,ha2⟩:=ha.cons_inv
 obtain ⟨y2,as2,rfl,q2,ha3⟩:=ha2.cons_inv
 obtain rfl:=ha3.aB
 obtain rfl:=VR.ah.1 q2
 rcases kq hl hq with ⟨rfl,rfl⟩ | ⟨hne,hfew,i,mk,rfl,hlk⟩
 ·obtain rfl:=VR.ah.1 q1
  refine (cp (E:=yq) rfl rfl (args:=[.v (.slice none 0 0),.v (.string p)]) (a:=[.slice none 0 0,.string p]) (S0:=Cu p) (by kernel_rfl) (ay.cons (VR.ah.2 rfl) (ay.cons (VR.ah.2 rfl) ay.nil)) fun cs0=>?_)
  refine cz Hk bo (n:=60) (o:=[(1000,.b true)]) (v:=.slice none 0 0) ⟨?_⟩ fun w' hw=>⟨hw,.inl ⟨rfl,rfl⟩⟩
  rw [Oq]
  simp only [ak,true_and,and_true]
 ·obtain ⟨bb,hbb,hle,rfl⟩:=VR.aQ.1 q1
  refine lL (E:=yq) rfl rfl hr hlk (az xs) (args':=fun c=>[.sl 0 0 xs.length (some c),.v (.string p)]) (S0:=fun c=>CH (cI xs) xs.length c p) (fun b hb=>?_) (fun c=>by kernel_rfl) fun b cs0=>?_
  ·rw [hbb] at hb;cases hb
   have hle':xs.length≤bb.2:=hle
   exact ay.cons (VR.aQ.2 ⟨bb,rfl,hle',rfl⟩) (ay.cons (VR.ah.2 rfl) ay.nil)
  ·have nx:=Ay (w0:=w) (cs0:=cs0) (b:=b) (c:=b.2) (p:=p) (xs:=xs) hfew hp hs xs.length 0 (by omega) rfl
   refine af.reach Hk (k:=2) (n:=60) (o:=[(1000,.b true)]) (ren:=[(0,0)]) (eqs:=[0]) (F:=nC xs.length b.2 p aK 0) (d:=6) (l:=[cD (cI xs)]) ?_ (by kernel_rfl) (fun i b h=>by rw [fQ h];rfl) nx
   rw [Rz]
   simp only [ak,az,aK,and_self,and_true,true_and]
def ze:GX:=fun args sh=>match args with
 | [A,.v (.string p)]=>match gA A sh with
  | some (xs,q)=>some ((bP p xs).map Value.string,(bP p xs).length,1,9,none,q∧bP p xs≠[]∧p.size≤1000000000∧∀ e∈xs,e.p.size≤1000000000)
  | _=>none
 | _=>none
def yQ:Co:=fun args sh=>match args with
 | [A,.v (.string p)]=>match gA A sh with
  | some (xs,q)=>some (.slice none 0 0,q∧bP p xs=[]∧p.size≤1000000000∧∀ e∈xs,e.p.size≤1000000000)
  | _=>none
 | _=>none
theorem B3 {X:World→Prop}:cr Try.prog X (28,jM (gh ze) (eE yQ)):=by
 refine cr.br (iG ⟨_,Try.func28,by kernel_rfl,by kernel_rfl⟩ fun args sh ys n C elem ex p h hp ν M w0 w a hr hX ha=>?_) (fP ⟨_,Try.func28,by kernel_rfl,by kernel_rfl⟩ fun args sh v p h hp ν M w0 w a hr hX ha=>?_)
 ·dsimp only [ze] at h
  split at h
  ·split at h
   ·rename_i xs q hl
    cases h
    refine (oG hr hl hp.1 hp.2.2.1 hp.2.2.2 ha).mono fun e w' ⟨hB,h⟩=>⟨hB,?_⟩
    rcases h with ⟨h1,_⟩ | ⟨_,y,h2,h3⟩
    ·exact absurd h1 hp.2.1
    ·exact ⟨y,h2,h3⟩
   ·cases h
  ·cases h
 ·dsimp only [yQ] at h
  split at h
  ·split at h
   ·rename_i xs q hl
    cases h
    refine (oG hr hl hp.1 hp.2.2.1 hp.2.2.2 ha).mono fun e w' ⟨hB,h⟩=>⟨hB,?_⟩
    rcases h with ⟨_,h2⟩ | ⟨h1,_⟩
    ·exact h2
    ·exact absurd hp.2.1 h1
   ·cases h
  ·cases h
def kG (x:SV):Option (Int × Option Addr × Nat × Nat):=match wR x with
 | some [.v (.int .i64 k),.v (.slice a l c)]=>some (k,a,l,c)
 | _=>none
theorem iZ {ν:aU} {x:SV} {y:Value} {k:Int} {a:Option Addr} {l c:Nat} (h:kG x=some (k,a,l,c)) (hv:VR ν x y):y=.agg #[.int .i64 k,.slice a l c]:=by
 unfold kG at h
 split at h
 ·rename_i k' a' l' c' hx
  cases h
  unfold wR at hx
  split at hx
  ·rename_i mm
   cases hx
   obtain ⟨u,rfl,hu⟩:=VR.cW.1 hv
   obtain rfl:=eF hu (ay.lits ν [.int .i64 k,.slice a l c])
   rfl
  ·rename_i cs
   obtain rfl:=VR.ah.1 hv
   have hx:=Option.some.inj hx
   match cs,hx with
   | ⟨[c1,c2]⟩,hx=>
    simp at hx
    obtain ⟨h1,h2⟩:=hx
    subst h1 h2;rfl
   | ⟨[]⟩,hx=>simp at hx
   | ⟨[_]⟩,hx=>simp at hx
   | ⟨_::_::_::_⟩,hx=>simp at hx
  ·cases hx
 ·cases h
def DA:GX:=fun args sh=>match args with
 | [A,.v (.string p),L]=>match gA A sh,kG L with
  | some (xs,q),some (k,a,l,c)=>some (vI (dI xs ⟨p,k,a,l,c⟩),(dI xs ⟨p,k,a,l,c⟩).length,3,41,none,q∧k≠0∧p.size≤1000000000∧∀ e∈xs,e.p.size≤1000000000)
  | _,_=>none
 | _=>none
def NP:List (FuncId × Sum):=[(26,eP lk),(27,eP kO),(28,jM (gh ze) (eE yQ)),(29,jM (gh l6) (eE lM)),(30,eP wc),(25,eE AL),(31,gh DA)]
noncomputable def mc:Env:={ EP [] [] with sums:=fun f=>NP.lookup f }
noncomputable def fR (l:List SV) (n:Nat) (x:aA):SM:=(bC mc 15 [.sl 0 0 n none,.v (.string x.p),jg x] (bO 6 1 0 [Bj l])).getD dC
noncomputable def ki (x:aA):SM:=(bC mc 15 [.v (.slice none 0 0),.v (.string x.p),jg x] (bO 6 0 0 [])).getD dC
theorem RF (l m:List SV) (n k:Nat) (x:aA):fk mc 15 300 (fR l n x) (ff [1] true++ff [0,2,3] false++[(1000,.b true)]) [(0,0)] (.tup [.sl 0 0 n none,.v (.int .i64 23)])=[0=0∧n=n∧nZ=none,vZ 23=vZ 23,(!a7 x.1)=true,x.1.size.le 1000000000]:=by kernel_rfl
theorem st1 (l m:List SV) (n k:Nat) (x:aA):fk mc 15 300 (fR l n x) (ff [3] true++ff [0,1,2,4,5] false++[(1000,.b true)]) [(0,0)] (.tup [.sl 0 0 n none,.v (.int .i64 (aZ x.k x.l))])=[0=0∧n=n∧nZ=none,vZ (aZ x.2 x.4)=vZ (aZ x.2 x.4),(!aZ x.2 x.4==0)=true,True,(!a7 x.1)=false,x.1.size.le 1000000000]:=by kernel_rfl
theorem st2 (l m:List SV) (n k:Nat) (x:aA):fk mc 15 300 (fR l n x) (ff [4,5,6,7,8,9,10,11] true++ff [0,1,2,3,12,13] false++[(1000,.b true)]) [(0,0)] (.tup [.sl 0 0 n none,.v (.int .i64 22)])=[0=0∧n=n∧nZ=none,vZ 22=vZ 22,decide ((↑(bP x.1 (ae l n)).length:Int)>0)=true,(!x.2==2)=true,(!x.2==2)=true,(!x.2==2)=true,(41=41∧bc l n (ae l n)∧ae l n≠[])∧bP x.1 (ae l n)≠[]∧x.1.size≤1000000000∧∀ (e:aA),e∈ae l n→e.p.size≤1000000000,(!x.2==2)=true,(!x.2==2)=true,(!x.2==2)=true,(!aZ x.2 x.4==0)=false,True,(!a7 x.1)=false,x.1.size.le 1000000000]:=by kernel_rfl
theorem QP (l m:List SV) (n k:Nat) (x:aA):bR mc 15 300 (fR l n x) (ff [4,5,6,8,9,10,12,13] true++ff [0,1,2,3,7,11,14,15] false++[(1000,.b true)]) (.tup [.sl 2 0 k none,.v (.int .i64 0)]) 2 (.row m 41 (0,0) (some 3))=[0=0∧(bW x.1 (ae l n)).length=k∧nZ=none,vZ 0=vZ 0,List.map SV.v (vI (bW x.1 (ae l n)))=m,m.all ab=true,bc l n (ae l n)∧bW x.1 (ae l n)≠[],(x.2==0)=true,false=false,(!x.2==2)=true,(!x.2==2)=true,(!x.2==2)=true,(41=41∧bc l n (ae l n)∧ae l n≠[])∧bP x.1 (ae l n)=[]∧x.1.size≤1000000000∧∀ (e:aA),e∈ae l n→e.p.size≤1000000000,(!x.2==2)=true,(!x.2==2)=true,(!x.2==2)=true,(!aZ x.2 x.4==0)=false,True,(!a7 x.1)=false,x.1.size.le 1000000000]:=by kernel_rfl
theorem Rm (l m:List SV) (n k:Nat) (x:aA):fk mc 15 300 (fR l n x) (ff [4,5,6,8,9,10,12] true++ff [0,1,2,3,7,11,13,14] false++[(1000,.b true)]) [(0,0)] (.v (.tuple #[.slice none 0 0,.int .i64 0]))=[Value.tuple { toList:=[Value.slice none 0 0,vZ 0]:Array Value }=Value.tuple { toList:=[Value.slice none 0 0,vZ 0]:Array Value },bc l n (ae l n)∧bW x.1 (ae l n)=[],(x.2==0)=true,false=false,(!x.2==2)=true,(!x.2==2)=true,(!x.2==2)=true,(41=41∧bc l n (ae l n)∧ae l n≠[])∧bP x.1 (ae l n)=[]∧x.1.size≤1000000000∧∀ (e:aA),e∈ae l n→e.p.size≤1000000000,(!x.2==2)=true,(!x.2==2)=true,(!x.2==2)=true,(!aZ x.2 x.4==0)=false,True,(!a7 x.1)=false,x.1.size.le 1000000000]:=by kernel_rfl
theorem Nz (l m:List SV) (n k:Nat) (x:aA):fk mc 15 300 (fR l n x) (ff [4,5,6,8,9,10,14,15,16,18,19,20,21] true++ff [0,1,2,3,7,11,12,13,17,22,23] false++[(1000,.b true)]) [(0,0)] (.tup [.sl 0 0 n none,.v (.int .i64 22)])=[0=0∧n=n∧nZ=none,vZ 22=vZ 22,(!(aj (aq x.p) (ae l n)).2==2)=true,(!(aq x.1).toList==(⟨⟨[]⟩⟩:ByteArray).toList)=true,(!(aq x.1).toList==(⟨⟨[]⟩⟩:ByteArray).toList)=true,(!(aq x.1).toList==(⟨⟨[]⟩⟩:ByteArray).toList)=true,41=41∧bc l n (ae l n)∧ae l n≠[],(!(aq x.1).toList==(⟨⟨[]⟩⟩:ByteArray).toList)=true,(!(aq x.1).toList==(⟨⟨[]⟩⟩:ByteArray).toList)=true,(!(aq x.1).toList==(⟨⟨[]⟩⟩:ByteArray).toList)=true,x.1.size.le 1000000000,(x.2==0)=false,false=false,(!x.2==2)=true,(!x.2==2)=true,(!x.2==2)=true,(41=41∧bc l n (ae l n)∧ae l n≠[])∧bP x.1 (ae l n)=[]∧x.1.size≤1000000000∧∀ (e:aA),e∈ae l n→e.p.size≤1000000000,(!x.2==2)=true,(!x.2==2)=true,(!x.2==2)=true,(!aZ x.2 x.4==0)=false,True,(!a7 x.1)=false,x.1.size.le 1000000000]:=by kernel_rfl
theorem Ll (l m:List SV) (n k:Nat) (x:aA):fk mc 15 300 (fR l n x) (ff [4,5,6,8,9,10,22,23,24,25,26] true++ff [0,1,2,3,7,11,12,13,14,15,16,17,18,19,20,21,27,28] false++[(1000,.b true)]) [(0,0)] (.tup [.sl 0 0 n none,.v (.int .i64 24)])=[0=0∧n=n∧nZ=none,vZ 24=vZ 24,decide ((↑n:Int)≥128)=true,((aj x.p (ae l n)).2==0)=true,((aj x.p (ae l n)).2==0)=true,((aj x.p (ae l n)).2==0)=true,((aj x.p (ae l n)).2==0)=true,41=41∧bc l n (ae l n)∧ae l n≠[],false=false,(!(aq x.1).toList==(⟨⟨[]⟩⟩:ByteArray).toList)=false,(!(aq x.1).toList==(⟨⟨[]⟩⟩:ByteArray).toList)=false,(!(aq x.1).toList==(⟨⟨[]⟩⟩:ByteArray).toList)=false,(!(aq x.1).toList==(⟨⟨[]⟩⟩:ByteArray).toList)=false,(!(aq x.1).toList==(⟨⟨[]⟩⟩:ByteArray).toList)=false,(!(aq x.1).toList==(⟨⟨[]⟩⟩:ByteArray).toList)=false,x.1.size.le 1000000000,(x.2==0)=false,false=false,(!x.2==2)=true,(!x.2==2)=true,(!x.2==2)=true,(41=41∧bc l n (ae l n)∧ae l n≠[])∧bP x.1 (ae l n)=[]∧x.1.size≤1000000000∧∀ (e:aA),e∈ae l n→e.p.size≤1000000000,(!x.2==2)=true,(!x.2==2)=true,(!x.2==2)=true,(!aZ x.2 x.4==0)=false,True,(!a7 x.1)=false,x.1.size.le 1000000000]:=by kernel_rfl
theorem IY (l m:List SV) (n k:Nat) (x:aA):bR mc 15 300 (fR l n x) (ff [4,5,6,8,9,10,22,23,24,25] true++ff [0,1,2,3,7,11,12,13,14,15,16,17,18,19,20,21,26,27,28,29] false++[(1000,.b true)]) (.tup [.sl 2 0 k none,.v (.int .i64 0)]) 2 (.row m 41 (0,0) (some 3))=[0=0∧(dI (ae l n) { p:=x.1,k:=x.2,a:=x.3,l:=x.4,c:=x.5:aA }).length=k∧nZ=none,vZ 0=vZ 0,List.map SV.v (vI (dI (ae l n) { p:=x.1,k:=x.2,a:=x.3,l:=x.4,c:=x.5:aA }))=m,m.all ab=true,(41=41∧bc l n (ae l n)∧ae l n≠[])∧x.2≠0∧x.1.size≤1000000000∧∀ (e:aA),e∈ae l n→e.p.size≤1000000000,decide ((↑n:Int)≥128)=false,((aj x.p (ae l n)).2==0)=true,((aj x.p (ae l n)).2==0)=true,((aj x.p (ae l n)).2==0)=true,((aj x.p (ae l n)).2==0)=true,41=41∧bc l n (ae l n)∧ae l n≠[],false=false,(!(aq x.1).toList==(⟨⟨[]⟩⟩:ByteArray).toList)=false,(!(aq x.1).toList==(⟨⟨[]⟩⟩:ByteArray).toList)=false,(!(aq x.1).toList==(⟨⟨[]⟩⟩:ByteArray).toList)=false,(!(aq x.1).toList==(⟨⟨[]⟩⟩:ByteArray).toList)=false,(!(aq x.1).toList==(⟨⟨[]⟩⟩:ByteArray).toList)=false,(!(aq x.1).toList==(⟨⟨[]⟩⟩:ByteArray).toList)=false,x.1.size.le 1000000000,(x.2==0)=false,false=false,(!x.2==2)=true,(!x.2==2)=true,(!x.2==2)=true,(41=41∧bc l n (ae l n)∧ae l n≠[])∧bP x.1 (ae l n)=[]∧x.1.size≤1000000000∧∀ (e:aA),e∈ae l n→e.p.size≤1000000000,(!x.2==2)=true,(!x.2==2)=true,(!x.2==2)=true,(!aZ x.2 x.4==0)=false,True,(!a7 x.1)=false,x.1.size.le 1000000000]:=by kernel_rfl
theorem I6 (l m:List SV) (n k:Nat) (x:aA):bR mc 15 300 (fR l n x) (ff [4,5,6,8,9,10] true++ff [0,1,2,3,7,11,12,13,14,15,16,17,18,19,20,21,22,23,24,25,26,27,28,29] false++[(1000,.b true)]) (.tup [.sl 2 0 k none,.v (.int .i64 0)]) 2 (.row m 41 (0,0) (some 3))=[0=0∧(dI (ae l n) { p:=x.1,k:=x.2,a:=x.3,l:=x.4,c:=x.5:aA }).length=k∧nZ=none,vZ 0=vZ 0,List.map SV.v (vI (dI (ae l n) { p:=x.1,k:=x.2,a:=x.3,l:=x.4,c:=x.5:aA }))=m,m.all ab=true,(41=41∧bc l n (ae l n)∧ae l n≠[])∧x.2≠0∧x.1.size≤1000000000∧∀ (e:aA),e∈ae l n→e.p.size≤1000000000,false=false,((aj x.p (ae l n)).2==0)=false,((aj x.p (ae l n)).2==0)=false,((aj x.p (ae l n)).2==0)=false,((aj x.p (ae l n)).2==0)=false,41=41∧bc l n (ae l n)∧ae l n≠[],false=false,(!(aq x.1).toList==(⟨⟨[]⟩⟩:ByteArray).toList)=false,(!(aq x.1).toList==(⟨⟨[]⟩⟩:ByteArray).toList)=false,(!(aq x.1).toList==(⟨⟨[]⟩⟩:ByteArray).toList)=false,(!(aq x.1).toList==(⟨⟨[]⟩⟩:ByteArray).toList)=false,(!(aq x.1).toList==(⟨⟨[]⟩⟩:ByteArray).toList)=false,(!(aq x.1).toList==(⟨⟨[]⟩⟩:ByteArray).toList)=false,x.1.size.le 1000000000,(x.2==0)=false,false=false,(!x.2==2)=true,(!x.2==2)=true,(!x.2==2)=true,(41=41∧bc l n (ae l n)∧ae l n≠[])∧bP x.1 (ae l n)=[]∧x.1.size≤1000000000∧∀ (e:aA),e∈ae l n→e.p.size≤1000000000,(!x.2==2)=true,(!x.2==2)=true,(!x.2==2)=true,(!aZ x.2 x.4==0)=false,True,(!a7 x.1)=false,x.1.size.le 1000000000]:=by kernel_rfl
theorem LR (l m:List SV) (n k:Nat) (x:aA):fk mc 15 300 (fR l n x) (ff [4,5,6,8,9,10,14,15,16,18,19,20,23,24,25,26,27] true++ff [0,1,2,3,7,11,12,13,17,21,22,28,29] false++[(1000,.b true)]) [(0,0)] (.tup [.sl 0 0 n none,.v (.int .i64 24)])=[0=0∧n=n∧nZ=none,vZ 24=vZ 24,decide ((↑n:Int)≥128)=true,((aj x.p (ae l n)).2==0)=true,((aj x.p (ae l n)).2==0)=true,((aj x.p (ae l n)).2==0)=true,((aj x.p (ae l n)).2==0)=true,41=41∧bc l n (ae l n)∧ae l n≠[],(!(aj (aq x.p) (ae l n)).2==2)=false,(!(aq x.1).toList==(⟨⟨[]⟩⟩:ByteArray).toList)=true,(!(aq x.1).toList==(⟨⟨[]⟩⟩:ByteArray).toList)=true,(!(aq x.1).toList==(⟨⟨[]⟩⟩:ByteArray).toList)=true,41=41∧bc l n (ae l n)∧ae l n≠[],(!(aq x.1).toList==(⟨⟨[]⟩⟩:ByteArray).toList)=true,(!(aq x.1).toList==(⟨⟨[]⟩⟩:ByteArray).toList)=true,(!(aq x.1).toList==(⟨⟨[]⟩⟩:ByteArray).toList)=true,x.1.size.le 1000000000,(x.2==0)=false,false=false,(!x.2==2)=true,(!x.2==2)=true,(!x.2==2)=true,(41=41∧bc l n (ae l n)∧ae l n≠[])∧bP x.1 (ae l n)=[]∧x.1.size≤1000000000∧∀ (e:aA),e∈ae l n→e.p.size≤1000000000,(!x.2==2)=true,(!x.2==2)=true,(!x.2==2)=true,(!aZ x.2 x.4==0)=false,True,(!a7 x.1)=false,x.1.size.le 1000000000]:=by kernel_rfl
theorem IT (l m:List SV) (n k:Nat) (x:aA):bR mc 15 300 (fR l n x) (ff [4,5,6,8,9,10,14,15,16,18,19,20,23,24,25,26] true++ff [0,1,2,3,7,11,12,13,17,21,22,27,28,29,30] false++[(1000,.b true)]) (.tup [.sl 2 0 k none,.v (.int .i64 0)]) 2 (.row m 41 (0,0) (some 3))=[0=0∧(dI (ae l n) { p:=x.1,k:=x.2,a:=x.3,l:=x.4,c:=x.5:aA }).length=k∧nZ=none,vZ 0=vZ 0,List.map SV.v (vI (dI (ae l n) { p:=x.1,k:=x.2,a:=x.3,l:=x.4,c:=x.5:aA }))=m,m.all ab=true,(41=41∧bc l n (ae l n)∧ae l n≠[])∧x.2≠0∧x.1.size≤1000000000∧∀ (e:aA),e∈ae l n→e.p.size≤1000000000,decide ((↑n:Int)≥128)=false,((aj x.p (ae l n)).2==0)=true,((aj x.p (ae l n)).2==0)=true,((aj x.p (ae l n)).2==0)=true,((aj x.p (ae l n)).2==0)=true,41=41∧bc l n (ae l n)∧ae l n≠[],(!(aj (aq x.p) (ae l n)).2==2)=false,(!(aq x.1).toList==(⟨⟨[]⟩⟩:ByteArray).toList)=true,(!(aq x.1).toList==(⟨⟨[]⟩⟩:ByteArray).toList)=true,(!(aq x.1).toList==(⟨⟨[]⟩⟩:ByteArray).toList)=true,41=41∧bc l n (ae l n)∧ae l n≠[],(!(aq x.1).toList==(⟨⟨[]⟩⟩:ByteArray).toList)=true,(!(aq x.1).toList==(⟨⟨[]⟩⟩:ByteArray).toList)=true,(!(aq x.1).toList==(⟨⟨[]⟩⟩:ByteArray).toList)=true,x.1.size.le 1000000000,(x.2==0)=false,false=false,(!x.2==2)=true,(!x.2==2)=true,(!x.2==2)=true,(41=41∧bc l n (ae l n)∧ae l n≠[])∧bP x.1 (ae l n)=[]∧x.1.size≤1000000000∧∀ (e:aA),e∈ae l n→e.p.size≤1000000000,(!x.2==2)=true,(!x.2==2)=true,(!x.2==2)=true,(!aZ x.2 x.4==0)=false,True,(!a7 x.1)=false,x.1.size.le 1000000000]:=by kernel_rfl
theorem Ip (l m:List SV) (n k:Nat) (x:aA):bR mc 15 300 (fR l n x) (ff [4,5,6,8,9,10,14,15,16,18,19,20] true++ff [0,1,2,3,7,11,12,13,17,21,22,23,24,25,26,27,28,29,30] false++[(1000,.b true)]) (.tup [.sl 2 0 k none,.v (.int .i64 0)]) 2 (.row m 41 (0,0) (some 3))=[0=0∧(dI (ae l n) { p:=x.1,k:=x.2,a:=x.3,l:=x.4,c:=x.5:aA }).length=k∧nZ=none,vZ 0=vZ 0,List.map SV.v (vI (dI (ae l n) { p:=x.1,k:=x.2,a:=x.3,l:=x.4,c:=x.5:aA }))=m,m.all ab=true,(41=41∧bc l n (ae l n)∧ae l n≠[])∧x.2≠0∧x.1.size≤1000000000∧∀ (e:aA),e∈ae l n→e.p.size≤1000000000,false=false,((aj x.p (ae l n)).2==0)=false,((aj x.p (ae l n)).2==0)=false,((aj x.p (ae l n)).2==0)=false,((aj x.p (ae l n)).2==0)=false,41=41∧bc l n (ae l n)∧ae l n≠[],(!(aj (aq x.p) (ae l n)).2==2)=false,(!(aq x.1).toList==(⟨⟨[]⟩⟩:ByteArray).toList)=true,(!(aq x.1).toList==(⟨⟨[]⟩⟩:ByteArray).toList)=true,(!(aq x.1).toList==(⟨⟨[]⟩⟩:ByteArray).toList)=true,41=41∧bc l n (ae l n)∧ae l n≠[],(!(aq x.1).toList==(⟨⟨[]⟩⟩:ByteArray).toList)=true,(!(aq x.1).toList==(⟨⟨[]⟩⟩:ByteArray).toList)=true,(!(aq x.1).toList==(⟨⟨[]⟩⟩:ByteArray).toList)=true,x.1.size.le 1000000000,(x.2==0)=false,false=false,(!x.2==2)=true,(!x.2==2)=true,(!x.2==2)=true,(41=41∧bc l n (ae l n)∧ae l n≠[])∧bP x.1 (ae l n)=[]∧x.1.size≤1000000000∧∀ (e:aA),e∈ae l n→e.p.size≤1000000000,(!x.2==2)=true,(!x.2==2)=true,(!x.2==2)=true,(!aZ x.2 x.4==0)=false,True,(!a7 x.1)=false,x.1.size.le 1000000000]:=by kernel_rfl
theorem Ni (l m:List SV) (n k:Nat) (x:aA):fk mc 15 300 (fR l n x) (ff [13,14,15,17,18,19,20] true++ff [0,1,2,3,4,5,6,7,8,9,10,11,12,16,21,22] false++[(1000,.b true)]) [(0,0)] (.tup [.sl 0 0 n none,.v (.int .i64 22)])=[0=0∧n=n∧nZ=none,vZ 22=vZ 22,(!(aj (aq x.p) (ae l n)).2==2)=true,(!(aq x.1).toList==(⟨⟨[]⟩⟩:ByteArray).toList)=true,(!(aq x.1).toList==(⟨⟨[]⟩⟩:ByteArray).toList)=true,(!(aq x.1).toList==(⟨⟨[]⟩⟩:ByteArray).toList)=true,41=41∧bc l n (ae l n)∧ae l n≠[],(!(aq x.1).toList==(⟨⟨[]⟩⟩:ByteArray).toList)=true,(!(aq x.1).toList==(⟨⟨[]⟩⟩:ByteArray).toList)=true,(!(aq x.1).toList==(⟨⟨[]⟩⟩:ByteArray).toList)=true,x.1.size.le 1000000000,(x.2==0)=false,false=false,(!x.2==2)=false,(!x.2==2)=false,(!x.2==2)=false,(!x.2==2)=false,(!x.2==2)=false,(!x.2==2)=false,(!aZ x.2 x.4==0)=false,True,(!a7 x.1)=false,x.1.size.le 1000000000]:=by kernel_rfl
theorem Ku (l m:List SV) (n k:Nat) (x:aA):fk mc 15 300 (fR l n x) (ff [21,22,23,24,25] true++ff [0,1,2,3,4,5,6,7,8,9,10,11,12,13,14,15,16,17,18,19,20,26,27] false++[(1000,.b true)]) [(0,0)] (.tup [.sl 0 0 n none,.v (.int .i64 24)])=[0=0∧n=n∧nZ=none,vZ 24=vZ 24,decide ((↑n:Int)≥128)=true,((aj x.p (ae l n)).2==0)=true,((aj x.p (ae l n)).2==0)=true,((aj x.p (ae l n)).2==0)=true,((aj x.p (ae l n)).2==0)=true,41=41∧bc l n (ae l n)∧ae l n≠[],false=false,(!(aq x.1).toList==(⟨⟨[]⟩⟩:ByteArray).toList)=false,(!(aq x.1).toList==(⟨⟨[]⟩⟩:ByteArray).toList)=false,(!(aq x.1).toList==(⟨⟨[]⟩⟩:ByteArray).toList)=false,(!(aq x.1).toList==(⟨⟨[]⟩⟩:ByteArray).toList)=false,(!(aq x.1).toList==(⟨⟨[]⟩⟩:ByteArray).toList)=false,(!(aq x.1).toList==(⟨⟨[]⟩⟩:ByteArray).toList)=false,x.1.size.le 1000000000,(x.2==0)=false,false=false,(!x.2==2)=false,(!x.2==2)=false,(!x.2==2)=false,(!x.2==2)=false,(!x.2==2)=false,(!x.2==2)=false,(!aZ x.2 x.4==0)=false,True,(!a7 x.1)=false,x.1.size.le 1000000000]:=by kernel_rfl
theorem IG (l m:List SV) (n k:Nat) (x:aA):bR mc 15 300 (fR l n x) (ff [21,22,23,24] true++ff [0,1,2,3,4,5,6,7,8,9,10,11,12,13,14,15,16,17,18,19,20,25,26,27,28] false++[(1000,.b true)]) (.tup [.sl 2 0 k none,.v (.int .i64 0)]) 2 (.row m 41 (0,0) (some 3))=[0=0∧(dI (ae l n) { p:=x.1,k:=x.2,a:=x.3,l:=x.4,c:=x.5:aA }).length=k∧nZ=none,vZ 0=vZ 0,List.map SV.v (vI (dI (ae l n) { p:=x.1,k:=x.2,a:=x.3,l:=x.4,c:=x.5:aA }))=m,m.all ab=true,(41=41∧bc l n (ae l n)∧ae l n≠[])∧x.2≠0∧x.1.size≤1000000000∧∀ (e:aA),e∈ae l n→e.p.size≤1000000000,decide ((↑n:Int)≥128)=false,((aj x.p (ae l n)).2==0)=true,((aj x.p (ae l n)).2==0)=true,((aj x.p (ae l n)).2==0)=true,((aj x.p (ae l n)).2==0)=true,41=41∧bc l n (ae l n)∧ae l n≠[],false=false,(!(aq x.1).toList==(⟨⟨[]⟩⟩:ByteArray).toList)=false,(!(aq x.1).toList==(⟨⟨[]⟩⟩:ByteArray).toList)=false,(!(aq x.1).toList==(⟨⟨[]⟩⟩:ByteArray).toList)=false,(!(aq x.1).toList==(⟨⟨[]⟩⟩:ByteArray).toList)=false,(!(aq x.1).toList==(⟨⟨[]⟩⟩:ByteArray).toList)=false,(!(aq x.1).toList==(⟨⟨[]⟩⟩:ByteArray).toList)=false,x.1.size.le 1000000000,(x.2==0)=false,false=false,(!x.2==2)=false,(!x.2==2)=false,(!x.2==2)=false,(!x.2==2)=false,(!x.2==2)=false,(!x.2==2)=false,(!aZ x.2 x.4==0)=false,True,(!a7 x.1)=false,x.1.size.le 1000000000]:=by kernel_rfl
theorem HP (l m:List SV) (n k:Nat) (x:aA):bR mc 15 300 (fR l n x) (ff [0,1,2,3,4,5,6,7,8,9,10,11,12,13,14,15,16,17,18,19,20,21,22,23,24,25,26,27,28] false++[(1000,.b true)]) (.tup [.sl 2 0 k none,.v (.int .i64 0)]) 2 (.row m 41 (0,0) (some 3))=[0=0∧(dI (ae l n) { p:=x.1,k:=x.2,a:=x.3,l:=x.4,c:=x.5:aA }).length=k∧nZ=none,vZ 0=vZ 0,List.map SV.v (vI (dI (ae l n) { p:=x.1,k:=x.2,a:=x.3,l:=x.4,c:=x.5:aA }))=m,m.all ab=true,(41=41∧bc l n (ae l n)∧ae l n≠[])∧x.2≠0∧x.1.size≤1000000000∧∀ (e:aA),e∈ae l n→e.p.size≤1000000000,false=false,((aj x.p (ae l n)).2==0)=false,((aj x.p (ae l n)).2==0)=false,((aj x.p (ae l n)).2==0)=false,((aj x.p (ae l n)).2==0)=false,41=41∧bc l n (ae l n)∧ae l n≠[],false=false,(!(aq x.1).toList==(⟨⟨[]⟩⟩:ByteArray).toList)=false,(!(aq x.1).toList==(⟨⟨[]⟩⟩:ByteArray).toList)=false,(!(aq x.1).toList==(⟨⟨[]⟩⟩:ByteArray).toList)=false,(!(aq x.1).toList==(⟨⟨[]⟩⟩:ByteArray).toList)=false,(!(aq x.1).toList==(⟨⟨[]⟩⟩:ByteArray).toList)=false,(!(aq x.1).toList==(⟨⟨[]⟩⟩:ByteArray).toList)=false,x.1.size.le 1000000000,(x.2==0)=false,false=false,(!x.2==2)=false,(!x.2==2)=false,(!x.2==2)=false,(!x.2==2)=false,(!x.2==2)=false,(!x.2==2)=false,(!aZ x.2 x.4==0)=false,True,(!a7 x.1)=false,x.1.size.le 1000000000]:=by kernel_rfl
theorem Ka (l m:List SV) (n k:Nat) (x:aA):fk mc 15 300 (fR l n x) (ff [13,14,15,17,18,19,22,23,24,25,26] true++ff [0,1,2,3,4,5,6,7,8,9,10,11,12,16,20,21,27,28] false++[(1000,.b true)]) [(0,0)] (.tup [.sl 0 0 n none,.v (.int .i64 24)])=[0=0∧n=n∧nZ=none,vZ 24=vZ 24,decide ((↑n:Int)≥128)=true,((aj x.p (ae l n)).2==0)=true,((aj x.p (ae l n)).2==0)=true,((aj x.p (ae l n)).2==0)=true,((aj x.p (ae l n)).2==0)=true,41=41∧bc l n (ae l n)∧ae l n≠[],(!(aj (aq x.p) (ae l n)).2==2)=false,(!(aq x.1).toList==(⟨⟨[]⟩⟩:ByteArray).toList)=true,(!(aq x.1).toList==(⟨⟨[]⟩⟩:ByteArray).toList)=true,(!(aq x.1).toList==(⟨⟨[]⟩⟩:ByteArray).toList)=true,41=41∧bc l n (ae l n)∧ae l n≠[],(!(aq x.1).toList==(⟨⟨[]⟩⟩:ByteArray).toList)=true,(!(aq x.1).toList==(⟨⟨[]⟩⟩:ByteArray).toList)=true,(!(aq x.1).toList==(⟨⟨[]⟩⟩:ByteArray).toList)=true,x.1.size.le 1000000000,(x.2==0)=false,false=false,(!x.2==2)=false,(!x.2==2)=false,(!x.2==2)=false,(!x.2==2)=false,(!x.2==2)=false,(!x.2==2)=false,(!aZ x.2 x.4==0)=false,True,(!a7 x.1)=false,x.1.size.le 1000000000]:=by kernel_rfl
theorem Hr (l m:List SV) (n k:Nat) (x:aA):bR mc 15 300 (fR l n x) (ff [13,14,15,17,18,19,22,23,24,25] true++ff [0,1,2,3,4,5,6,7,8,9,10,11,12,16,20,21,26,27,28,29] false++[(1000,.b true)]) (.tup [.sl 2 0 k none,.v (.int .i64 0)]) 2 (.row m 41 (0,0) (some 3))=[0=0∧(dI (ae l n) { p:=x.1,k:=x.2,a:=x.3,l:=x.4,c:=x.5:aA }).length=k∧nZ=none,vZ 0=vZ 0,List.map SV.v (vI (dI (ae l n) { p:=x.1,k:=x.2,a:=x.3,l:=x.4,c:=x.5:aA }))=m,m.all ab=true,(41=41∧bc l n (ae l n)∧ae l n≠[])∧x.2≠0∧x.1.size≤1000000000∧∀ (e:aA),e∈ae l n→e.p.size≤1000000000,decide ((↑n:Int)≥128)=false,((aj x.p (ae l n)).2==0)=true,((aj x.p (ae l n)).2==0)=true,((aj x.p (ae l n)).2==0)=true,((aj x.p (ae l n)).2==0)=true,41=41∧bc l n (ae l n)∧ae l n≠[],(!(aj (aq x.p) (ae l n)).2==2)=false,(!(aq x.1).toList==(⟨⟨[]⟩⟩:ByteArray).toList)=true,(!(aq x.1).toList==(⟨⟨[]⟩⟩:ByteArray).toList)=true,(!(aq x.1).toList==(⟨⟨[]⟩⟩:ByteArray).toList)=true,41=41∧bc l n (ae l n)∧ae l n≠[],(!(aq x.1).toList==(⟨⟨[]⟩⟩:ByteArray).toList)=true,(!(aq x.1).toList==(⟨⟨[]⟩⟩:ByteArray).toList)=true,(!(aq x.1).toList==(⟨⟨[]⟩⟩:ByteArray).toList)=true,x.1.size.le 1000000000,(x.2==0)=false,false=false,(!x.2==2)=false,(!x.2==2)=false,(!x.2==2)=false,(!x.2==2)=false,(!x.2==2)=false,(!x.2==2)=false,(!aZ x.2 x.4==0)=false,True,(!a7 x.1)=false,x.1.size.le 1000000000]:=by kernel_rfl
theorem I0 (l m:List SV) (n k:Nat) (x:aA):bR mc 15 300 (fR l n x) (ff [13,14,15,17,18,19] true++ff [0,1,2,3,4,5,6,7,8,9,10,11,12,16,20,21,22,23,24,25,26,27,28,29] false++[(1000,.b true)]) (.tup [.sl 2 0 k none,.v (.int .i64 0)]) 2 (.row m 41 (0,0) (some 3))=[0=0∧(dI (ae l n) { p:=x.1,k:=x.2,a:=x.3,l:=x.4,c:=x.5:aA }).length=k∧nZ=none,vZ 0=vZ 0,List.map SV.v (vI (dI (ae l n) { p:=x.1,k:=x.2,a:=x.3,l:=x.4,c:=x.5:aA }))=m,m.all ab=true,(41=41∧bc l n (ae l n)∧ae l n≠[])∧x.2≠0∧x.1.size≤1000000000∧∀ (e:aA),e∈ae l n→e.p.size≤1000000000,false=false,((aj x.p (ae l n)).2==0)=false,((aj x.p (ae l n)).2==0)=false,((aj x.p (ae l n)).2==0)=false,((aj x.p (ae l n)).2==0)=false,41=41∧bc l n (ae l n)∧ae l n≠[],(!(aj (aq x.p) (ae l n)).2==2)=false,(!(aq x.1).toList==(⟨⟨[]⟩⟩:ByteArray).toList)=true,(!(aq x.1).toList==(⟨⟨[]⟩⟩:ByteArray).toList)=true,(!(aq x.1).toList==(⟨⟨[]⟩⟩:ByteArray).toList)=true,41=41∧bc l n (ae l n)∧ae l n≠[],(!(aq x.1).toList==(⟨⟨[]⟩⟩:ByteArray).toList)=true,(!(aq x.1).toList==(⟨⟨[]⟩⟩:ByteArray).toList)=true,(!(aq x.1).toList==(⟨⟨[]⟩⟩:ByteArray).toList)=true,x.1.size.le 1000000000,(x.2==0)=false,false=false,(!x.2==2)=false,(!x.2==2)=false,(!x.2==2)=false,(!x.2==2)=false,(!x.2==2)=false,(!x.2==2)=false,(!aZ x.2 x.4==0)=false,True,(!a7 x.1)=false,x.1.size.le 1000000000]:=by kernel_rfl
theorem P8 (m:List SV) (k:Nat) (x:aA):fk mc 15 300 (ki x) (ff [1] true++ff [0,2] false++[(1000,.b true)]) [] (.v (.tuple #[.slice none 0 0,.int .i64 23]))=[Value.tuple { toList:=[Value.slice none 0 0,vZ 23]:Array Value }=Value.tuple { toList:=[Value.slice none 0 0,vZ 23]:Array Value },(!a7 x.1)=true,x.1.size.le 1000000000]:=by kernel_rfl
theorem Rf (m:List SV) (k:Nat) (x:aA):fk mc 15 300 (ki x) (ff [3] true++ff [0,1,2,4] false++[(1000,.b true)]) [] (.v (.tuple #[.slice none 0 0,.int .i64 (aZ x.k x.l)]))=[Value.tuple { toList:=[Value.slice none 0 0,vZ (aZ x.2 x.4)]:Array Value }=Value.tuple { toList:=[Value.slice none 0 0,vZ (aZ x.2 x.4)]:Array Value },(!aZ x.2 x.4==0)=true,True,(!a7 x.1)=false,x.1.size.le 1000000000]:=by kernel_rfl
theorem Q1 (m:List SV) (k:Nat) (x:aA):fk mc 15 300 (ki x) (ff [4,5,6,8,9,10,12] true++ff [0,1,2,3,7,11,13,14] false++[(1000,.b true)]) [] (.v (.tuple #[.slice none 0 0,.int .i64 0]))=[Value.tuple { toList:=[Value.slice none 0 0,vZ 0]:Array Value }=Value.tuple { toList:=[Value.slice none 0 0,vZ 0]:Array Value },Value.slice none 0 0=Value.slice none 0 0,(x.2==0)=true,false=false,(!x.2==2)=true,(!x.2==2)=true,(!x.2==2)=true,True∧bP x.1 []=[]∧x.1.size≤1000000000∧∀ (e:aA),e∈[]→e.p.size≤1000000000,(!x.2==2)=true,(!x.2==2)=true,(!x.2==2)=true,(!aZ x.2 x.4==0)=false,True,(!a7 x.1)=false,x.1.size.le 1000000000]:=by kernel_rfl
theorem Mh (m:List SV) (k:Nat) (x:aA):fk mc 15 300 (ki x) (ff [4,5,6,8,9,10,14,15,16,18,19,20,21] true++ff [0,1,2,3,7,11,12,13,17,22] false++[(1000,.b true)]) [] (.v (.tuple #[.slice none 0 0,.int .i64 22]))=[Value.tuple { toList:=[Value.slice none 0 0,vZ 22]:Array Value }=Value.tuple { toList:=[Value.slice none 0 0,vZ 22]:Array Value },(!(aj (aq x.p) []).2==2)=true,(!(aq x.1).toList==(⟨⟨[]⟩⟩:ByteArray).toList)=true,(!(aq x.1).toList==(⟨⟨[]⟩⟩:ByteArray).toList)=true,(!(aq x.1).toList==(⟨⟨[]⟩⟩:ByteArray).toList)=true,True,(!(aq x.1).toList==(⟨⟨[]⟩⟩:ByteArray).toList)=true,(!(aq x.1).toList==(⟨⟨[]⟩⟩:ByteArray).toList)=true,(!(aq x.1).toList==(⟨⟨[]⟩⟩:ByteArray).toList)=true,x.1.size.le 1000000000,(x.2==0)=false,false=false,(!x.2==2)=true,(!x.2==2)=true,(!x.2==2)=true,True∧bP x.1 []=[]∧x.1.size≤1000000000∧∀ (e:aA),e∈[]→e.p.size≤1000000000,(!x.2==2)=true,(!x.2==2)=true,(!x.2==2)=true,(!aZ x.2 x.4==0)=false,True,(!a7 x.1)=false,x.1.size.le 1000000000]:=by kernel_rfl
theorem Nj (m:List SV) (k:Nat) (x:aA):bR mc 15 300 (ki x) (ff [4,5,6,8,9,10,22,23,24,25] true++ff [0,1,2,3,7,11,12,13,14,15,16,17,18,19,20,21,26,27,28] false++[(1000,.b true)]) (.tup [.sl 1 0 k none,.v (.int .i64 0)]) 1 (.row m 41 (0,0) (some 3))=[0=0∧(dI [] { p:=x.1,k:=x.2,a:=x.3,l:=x.4,c:=x.5:aA }).length=k∧nZ=none,vZ 0=vZ 0,List.map SV.v (vI (dI [] { p:=x.1,k:=x.2,a:=x.3,l:=x.4,c:=x.5:aA }))=m,m.all ab=true,True∧x.2≠0∧x.1.size≤1000000000∧∀ (e:aA),e∈[]→e.p.size≤1000000000,false=false,((aj x.p []).2==0)=true,((aj x.p []).2==0)=true,((aj x.p []).2==0)=true,((aj x.p []).2==0)=true,True,false=false,(!(aq x.1).toList==(⟨⟨[]⟩⟩:ByteArray).toList)=false,(!(aq x.1).toList==(⟨⟨[]⟩⟩:ByteArray).toList)=false,(!(aq x.1).toList==(⟨⟨[]⟩⟩:ByteArray).toList)=false,(!(aq x.1).toList==(⟨⟨[]⟩⟩:ByteArray).toList)=false,(!(aq x.1).toList==(⟨⟨[]⟩⟩:ByteArray).toList)=false,(!(aq x.1).toList==(⟨⟨[]⟩⟩:ByteArray).toList)=false,x.1.size.le 1000000000,(x.2==0)=false,false=false,(!x.2==2)=true,(!x.2==2)=true,(!x.2==2)=true,True∧bP x.1 []=[]∧x.1.size≤1000000000∧∀ (e:aA),e∈[]→e.p.size≤1000000000,(!x.2==2)=true,(!x.2==2)=true,(!x.2==2)=true,(!aZ x.2 x.4==0)=false,True,(!a7 x.1)=false,x.1.size.le 1000000000]:=by kernel_rfl
theorem Mi (m:List SV) (k:Nat) (x:aA):fk mc 15 300 (ki x) (ff [13,14,15,17,18,19,20] true++ff [0,1,2,3,4,5,6,7,8,9,10,11,12,16,21] false++[(1000,.b true)]) [] (.v (.tuple #[.slice none 0 0,.int .i64 22]))=[Value.tuple { toList:=[Value.slice none 0 0,vZ 22]:Array Value }=Value.tuple { toList:=[Value.slice none 0 0,vZ 22]:Array Value },(!(aj (aq x.p) []).2==2)=true,(!(aq x.1).toList==(⟨⟨[]⟩⟩:ByteArray).toList)=true,(!(aq x.1).toList==(⟨⟨[]⟩⟩:ByteArray).toList)=true,(!(aq x.1).toList==(⟨⟨[]⟩⟩:ByteArray).toList)=true,True,(!(aq x.1).toList==(⟨⟨[]⟩⟩:ByteArray).toList)=true,(!(aq x.1).toList==(⟨⟨[]⟩⟩:ByteArray).toList)=true,(!(aq x.1).toList==(⟨⟨[]⟩⟩:ByteArray).toList)=true,x.1.size.le 1000000000,(x.2==0)=false,false=false,(!x.2==2)=false,(!x.2==2)=false,(!x.2==2)=false,(!x.2==2)=false,(!x.2==2)=false,(!x.2==2)=false,(!aZ x.2 x.4==0)=false,True,(!a7 x.1)=false,x.1.size.le 1000000000]:=by kernel_rfl
theorem Mx (m:List SV) (k:Nat) (x:aA):bR mc 15 300 (ki x) (ff [21,22,23,24] true++ff [0,1,2,3,4,5,6,7,8,9,10,11,12,13,14,15,16,17,18,19,20,25,26,27] false++[(1000,.b true)]) (.tup [.sl 1 0 k none,.v (.int .i64 0)]) 1 (.row m 41 (0,0) (some 3))=[0=0∧(dI [] { p:=x.1,k:=x.2,a:=x.3,l:=x.4,c:=x.5:aA }).length=k∧nZ=none,vZ 0=vZ 0,List.map SV.v (vI (dI [] { p:=x.1,k:=x.2,a:=x.3,l:=x.4,c:=x.5:aA }))=m,m.all ab=true,True∧x.2≠0∧x.1.size≤1000000000∧∀ (e:aA),e∈[]→e.p.size≤1000000000,false=false,((aj x.p []).2==0)=true,((aj x.p []).2==0)=true,((aj x.p []).2==0)=true,((aj x.p []).2==0)=true,True,false=false,(!(aq x.1).toList==(⟨⟨[]⟩⟩:ByteArray).toList)=false,(!(aq x.1).toList==(⟨⟨[]⟩⟩:ByteArray).toList)=false,(!(aq x.1).toList==(⟨⟨[]⟩⟩:ByteArray).toList)=false,(!(aq x.1).toList==(⟨⟨[]⟩⟩:ByteArray).toList)=false,(!(aq x.1).toList==(⟨⟨[]⟩⟩:ByteArray).toList)=false,(!(aq x.1).toList==(⟨⟨[]⟩⟩:ByteArray).toList)=false,x.1.size.le 1000000000,(x.2==0)=false,false=false,(!x.2==2)=false,(!x.2==2)=false,(!x.2==2)=false,(!x.2==2)=false,(!x.2==2)=false,(!x.2==2)=false,(!aZ x.2 x.4==0)=false,True,(!a7 x.1)=false,x.1.size.le 1000000000]:=by kernel_rfl
theorem FD {X:World→Prop}:cr Try.prog X (31,gh DA):=by
 refine iG ⟨_,Try.func31,by kernel_rfl,by kernel_rfl⟩ fun args sh ys n C elem ex p h hp ν M w0 w a hr hX ha=>?_
 dsimp only [DA] at h
 split at h
 ·rename_i A p L
  split at h
  ·rename_i xs q k a1 l1 c1 hl hd
   cases h
   obtain ⟨hq,hk,h1,h2⟩:=hp
   obtain ⟨y1,as1,rfl,q1,ha2⟩:=ha.cons_inv
   obtain ⟨y2,as2,rfl,q2,ha3⟩:=ha2.cons_inv
   obtain ⟨y3,as3,rfl,q3,ha4⟩:=ha3.cons_inv
   obtain rfl:=ha4.aB
   obtain rfl:=VR.ah.1 q2
   obtain rfl:=iZ hd q3
   rcases kq hl hq with ⟨rfl,rfl⟩ | ⟨hne,hfew,i,mk,rfl,hlk⟩
   ·obtain rfl:=VR.ah.1 q1
    exact xQ (w:=w) (x:=⟨p,k,a1,l1,c1⟩) hk
   ·obtain ⟨bb,hbb,hle,rfl⟩:=VR.aQ.1 q1
    obtain ⟨_,_,b,ob,hb,ho,hor,_⟩:=hr.look hlk
    rw [hbb] at hb;cases hb
    obtain ⟨zs,rest,rfl,hz,r,b',hb',hsz⟩:=hor
    rw [hbb] at hb';cases hb'
    obtain rfl:=vX hz
    exact wM (w:=w) (x:=⟨p,k,a1,l1,c1⟩) hk ho hsz hle hfew h1 h2
  ·cases h
 ·cases h
theorem pQ {M:Own} {w0:World}:aW mc M w0:=
 aW.Bg (Checked.mixed Try.checked) (by kernel_rfl) (gu.of ke rfl eY) (ep.list (X:=fun _=>True) (l:=NP) rfl (fun r h=>by
  simp only [NP,List.mem_cons,List.not_mem_nil,or_false] at h
  rcases h with rfl | rfl | rfl | rfl | rfl | rfl | rfl
  ·exact cr.pure (r:=(26,lk)) sq
  ·exact cr.pure (r:=(27,kO)) Dt
  ·exact B3
  ·exact oO
  ·exact cr.pure (r:=(30,wc)) zP
  ·exact AM
  ·exact FD) fun ν s w hr _=>trivial) (fun f g h=>by cases h)
def A3 (x:aA):Bool:=!(aq x.p).toList==(⟨#[]⟩:ByteArray).toList
def aP (xs:List aA) (x:aA):List aA × Int:=
 if a7 x.p=false then (xs,23)
 else if aZ x.k x.l≠0 then (xs,aZ x.k x.l)
 else if x.k≠2∧bP x.p xs≠[] then (xs,22)
 else if x.k=0 then (bW x.p xs,0)
 else if A3 x=true∧(aj (aq x.p) xs).k≠2 then (xs,22)
 else if (aj x.p xs).k=0∧128≤xs.length then (xs,24)
 else (dI xs x,0)
def tV (y:Value) (c:Int):Value:=.tuple #[y,.int .i64 c]
def ML (w0:World) (y0:Value) (r:List aA × Int) (e:Ending) (w':World):Prop:=
 Below w0.heap.size w0 w'∧((r.2≠0∧e=.returned (tV y0 r.2))∨(r.2=0∧r.1=[]∧e=.returned (tV (.slice none 0 0) 0))∨(r.2=0∧r.1≠[]∧∃ y,e=.returned (tV y 0)∧cy w0 w' y (vI r.1) r.1.length 3 41))
theorem gU (xs:List aA) (x:aA):dI xs x≠[]:=fun h=>by
 have:=n9 x (bW x.p xs)
 unfold dI at h
 rw [h] at this;simp at this
section
variable {E:Env} {M:Own} {w0:World} {cs0:List Frame} {f:FuncId} {R:Ending→World→Prop} {ν:aU} {n:Nat} {S:SM} {o:List (Nat × gX)}
theorem fE {m j:Nat} {l:List aA} (K:aW E M w0) (hM:∀ z,¬ M z) (h:uw (bR E f n S o (.tup [.sl j 0 m none,.v (.int .i64 0)]) j (.row (cI l) 41 (0,0) (some 3))))
  (hR:∀ w' y,Below w0.heap.size w0 w'→cy w0 w' y (vI l) m 3 41→R (.returned (tV y 0)) w'):af E M w0 cs0 f R ν S:=
 af.bR K h.out fun ν' w' y b ob hv hb ho hor hw hB=>by
  have hn:w0.heap.size≤b.1:=by
   rcases hw with h | h
   ·exact h
   ·exact absurd h (hM _)
  obtain ⟨_,_,_,_,hB,hr⟩:=hB
  obtain ⟨a,rfl,ha⟩:=VR.cC.1 hv
  obtain ⟨y1,a1,rfl,q1,ha1⟩:=ha.cons_inv
  obtain ⟨y2,a2,rfl,q2,ha2⟩:=ha1.cons_inv
  obtain rfl:=ha2.aB
  obtain rfl:=VR.ah.1 q2
  exact hR w' y1 (aI hM hB hr) (cy.e8 q1 hb ho hor hn fun zs hz=>vX hz)
theorem iA {b:Nat × Nat} {m:Nat} {c:Int} (K:aW E M w0) (hM:∀ z,¬ M z) (h:uw (fk E f n S o [(0,0)] (.tup [.sl 0 0 m none,.v (.int .i64 c)])))
  (hR:∀ w',Below w0.heap.size w0 w'→R (.returned (tV (.slice (some ⟨b.1,0,none⟩) m b.2) c)) w'):af E M w0 cs0 f R (aE [b]) S:=
 af.fk K hM h.out fun ν' w' y hle hv hB=>by
  obtain ⟨a,rfl,ha⟩:=VR.cC.1 hv
  obtain ⟨y1,a1,rfl,q1,ha1⟩:=ha.cons_inv
  obtain ⟨y2,a2,rfl,q2,ha2⟩:=ha1.cons_inv
  obtain rfl:=ha2.aB
  obtain rfl:=VR.ah.1 q2
  obtain ⟨b',hb',hle',rfl⟩:=VR.aQ.1 q1
  have hb0:(ν'.ren [(0,0)]) 0=some b:=hle 0 b rfl
  rw [hb0] at hb';cases hb'
  exact hR w' hB
theorem j3 {rn:List (Nat × Nat)} {v:Value} (K:aW E M w0) (hM:∀ z,¬ M z) (h:uw (fk E f n S o rn (.v v))) (hR:∀ w',Below w0.heap.size w0 w'→R (.returned v) w'):af E M w0 cs0 f R ν S:=
 af.fk K hM h.out fun ν' w' y hle hv hB=>by rw [VR.ah.1 hv];exact hR w' hB
end
section
variable {w0:World} {cs0:List Frame} {xs:List aA} {x:aA} {b:Nat × Nat}
theorem CZ (hne:xs≠[]) (hl:xs.length≤1000) (hp:x.p.size≤1000000000) (hs:∀ e∈xs,e.p.size≤1000000000):
  af mc (aT [b] [(.row (cI xs) 41 (0,0) (some 3),false)]) w0 cs0 15 (ML w0 (.slice (some ⟨b.1,0,none⟩) xs.length b.2) (aP xs x)) (aE [b]) (fR (cI xs) xs.length x):=by
 have hM:∀ z,¬ (aT [b] [(SO.row (cI xs) 41 (0,0) (some 3),false)]) z:=fun z=>a6 (os:=[_])
 have hh:bc (cI xs) xs.length xs:=⟨rfl,rfl,hl⟩
 have hx:(⟨x.1,x.2,x.3,x.4,x.5⟩:aA)=x:=rfl
 have hpe:(!(aq x.1).toList==(⟨⟨[]⟩⟩:ByteArray).toList)=A3 x:=rfl
 cases g:a7 x.p
 ·have hr:aP xs x=(xs,23):=by unfold aP;rw [if_pos g]
  rw [hr]
  refine iA pQ hM (o:=(ff [1] true++ff [0,2,3] false++[(1000,.b true)])) (n:=300) ⟨?_⟩ fun w' hB=>⟨hB,.inl ⟨by show (23:Int)≠0;decide,rfl⟩⟩
  rw [RF (m:=[]) (k:=0)]
  simp only [ak,g,Bool.not_false,and_self,and_true,true_and]
  exact hp
 have g':a7 x.1=true:=g
 by_cases c1:aZ x.k x.l=0
 case neg=>
  have d1:(!aZ x.2 x.4==(0:Int))=true:=by simpa using c1
  have hr:aP xs x=(xs,aZ x.k x.l):=by unfold aP;rw [if_neg (by simp [g]),if_pos c1]
  rw [hr]
  refine iA pQ hM (o:=(ff [3] true++ff [0,1,2,4,5] false++[(1000,.b true)])) (n:=300) ⟨?_⟩ fun w' hB=>⟨hB,.inl ⟨c1,rfl⟩⟩
  rw [st1 (m:=[]) (k:=0)]
  simp only [ak,g',d1,Bool.not_true,and_self,and_true,true_and]
  exact hp
 have d1:(!aZ x.2 x.4==(0:Int))=false:=by simpa using c1
 have fin:∀ {P Q R:Prop},P→Q→R→P∧Q∧R:=fun a b c=>⟨a,b,c⟩
 by_cases c2:x.k=2
 ·have d2:(!x.2==(2:Int))=false:=by simpa using c2
  have d0:(x.2==(0:Int))=false:=beq_eq_false_iff_ne.2 (by omega)
  have k0:x.2≠0:=by show x.k≠0;omega
  have hr0:aP xs x=if A3 x=true∧(aj (aq x.p) xs).k≠2 then (xs,22) else if (aj x.p xs).k=0∧128≤xs.length then (xs,24) else (dI xs x,0):=by
   unfold aP
   rw [if_neg (by simp [g]),if_neg (by simp [c1]),if_neg (by simp [c2]),if_neg (by omega)]
  cases u:A3 x
  ·rw [u] at hr0 hpe
   rw [if_neg (by simp)] at hr0
   by_cases ct:(aj x.p xs).k=0
   ·have dt:((aj x.p xs).2==(0:Int))=true:=beq_iff_eq.2 ct
    by_cases cf:128≤xs.length
    ·have df:decide ((xs.length:Int)≥(128:Int))=true:=decide_eq_true (by omega)
     rw [hr0,if_pos ⟨ct,cf⟩]
     refine iA pQ hM (o:=(ff [21,22,23,24,25] true++ff [0,1,2,3,4,5,6,7,8,9,10,11,12,13,14,15,16,17,18,19,20,26,27] false++[(1000,.b true)])) (n:=300) ⟨?_⟩ fun w' hB=>⟨hB,.inl ⟨by show (24:Int)≠0;decide,rfl⟩⟩
     rw [Ku (m:=[]) (k:=0)]
     simp only [ak,aN,g',d1,d2,d0,hpe,dt,df,Bool.not_true,and_self,and_true,true_and]
     repeat' apply And.intro
     all_goals first | exact hp | exact hh | exact hne | skip
    ·have df:decide ((xs.length:Int)≥(128:Int))=false:=decide_eq_false (by omega)
     rw [hr0,if_neg (by omega)]
     refine fE (j:=2) (l:=dI xs x) (m:=(dI xs x).length) pQ hM (o:=(ff [21,22,23,24] true++ff [0,1,2,3,4,5,6,7,8,9,10,11,12,13,14,15,16,17,18,19,20,25,26,27,28] false++[(1000,.b true)])) (n:=300) ⟨?_⟩ fun w' y hB hy=>⟨hB,.inr (.inr ⟨rfl,gU _ _,y,rfl,hy⟩)⟩
     rw [IG]
     simp only [ak,aN,cR,az,hx,g',d1,d2,d0,hpe,dt,df,Bool.not_true,and_self,and_true,true_and]
     repeat' apply And.intro
     all_goals first | exact hp | exact hh | exact hne | exact hs | exact k0 | skip
   ·have dt:((aj x.p xs).2==(0:Int))=false:=beq_eq_false_iff_ne.2 ct
    rw [hr0,if_neg (by simp [ct])]
    refine fE (j:=2) (l:=dI xs x) (m:=(dI xs x).length) pQ hM (o:=(ff [0,1,2,3,4,5,6,7,8,9,10,11,12,13,14,15,16,17,18,19,20,21,22,23,24,25,26,27,28] false++[(1000,.b true)])) (n:=300) ⟨?_⟩ fun w' y hB hy=>⟨hB,.inr (.inr ⟨rfl,gU _ _,y,rfl,hy⟩)⟩
    rw [HP]
    simp only [ak,aN,cR,az,hx,g',d1,d2,d0,hpe,dt,Bool.not_true,and_self,and_true,true_and]
    repeat' apply And.intro
    all_goals first | exact hp | exact hh | exact hne | exact hs | exact k0 | skip
  ·rw [u] at hr0 hpe
   by_cases cd:(aj (aq x.p) xs).k=2
   case neg=>
    have dd:(!(aj (aq x.p) xs).2==(2:Int))=true:=by simpa using cd
    rw [hr0,if_pos ⟨rfl,cd⟩]
    refine iA pQ hM (o:=(ff [13,14,15,17,18,19,20] true++ff [0,1,2,3,4,5,6,7,8,9,10,11,12,16,21,22] false++[(1000,.b true)])) (n:=300) ⟨?_⟩ fun w' hB=>⟨hB,.inl ⟨by show (22:Int)≠0;decide,rfl⟩⟩
    rw [Ni (m:=[]) (k:=0)]
    simp only [ak,aN,g',d1,d2,d0,hpe,dd,Bool.not_true,and_self,and_true,true_and]
    repeat' apply And.intro
    all_goals first | exact hp | exact hh | exact hne | skip
   have dd:(!(aj (aq x.p) xs).2==(2:Int))=false:=by simpa using cd
   rw [if_neg (by simp [cd])] at hr0
   by_cases ct:(aj x.p xs).k=0
   ·have dt:((aj x.p xs).2==(0:Int))=true:=beq_iff_eq.2 ct
    by_cases cf:128≤xs.length
    ·have df:decide ((xs.length:Int)≥(128:Int))=true:=decide_eq_true (by omega)
     rw [hr0,if_pos ⟨ct,cf⟩]
     refine iA pQ hM (o:=(ff [13,14,15,17,18,19,22,23,24,25,26] true++ff [0,1,2,3,4,5,6,7,8,9,10,11,12,16,20,21,27,28] false++[(1000,.b true)])) (n:=300) ⟨?_⟩ fun w' hB=>⟨hB,.inl ⟨by show (24:Int)≠0;decide,rfl⟩⟩
     rw [Ka (m:=[]) (k:=0)]
     simp only [ak,aN,g',d1,d2,d0,hpe,dd,dt,df,Bool.not_true,and_self,and_true,true_and]
     repeat' apply And.intro
     all_goals first | exact hp | exact hh | exact hne | skip
    ·have df:decide ((xs.length:Int)≥(128:Int))=false:=decide_eq_false (by omega)
     rw [hr0,if_neg (by omega)]
     refine fE (j:=2) (l:=dI xs x) (m:=(dI xs x).length) pQ hM (o:=(ff [13,14,15,17,18,19,22,23,24,25] true++ff [0,1,2,3,4,5,6,7,8,9,10,11,12,16,20,21,26,27,28,29] false++[(1000,.b true)])) (n:=300) ⟨?_⟩ fun w' y hB hy=>⟨hB,.inr (.inr ⟨rfl,gU _ _,y,rfl,hy⟩)⟩
     rw [Hr]
     simp only [ak,aN,cR,az,hx,g',d1,d2,d0,hpe,dd,dt,df,Bool.not_true,and_self,and_true,true_and]
     repeat' apply And.intro
     all_goals first | exact hp | exact hh | exact hne | exact hs | exact k0 | skip
   ·have dt:((aj x.p xs).2==(0:Int))=false:=beq_eq_false_iff_ne.2 ct
    rw [hr0,if_neg (by simp [ct])]
    refine fE (j:=2) (l:=dI xs x) (m:=(dI xs x).length) pQ hM (o:=(ff [13,14,15,17,18,19] true++ff [0,1,2,3,4,5,6,7,8,9,10,11,12,16,20,21,22,23,24,25,26,27,28,29] false++[(1000,.b true)])) (n:=300) ⟨?_⟩ fun w' y hB hy=>⟨hB,.inr (.inr ⟨rfl,gU _ _,y,rfl,hy⟩)⟩
    rw [I0]
    simp only [ak,aN,cR,az,hx,g',d1,d2,d0,hpe,dd,dt,Bool.not_true,and_self,and_true,true_and]
    repeat' apply And.intro
    all_goals first | exact hp | exact hh | exact hne | exact hs | exact k0 | skip
 ·have d2:(!x.2==(2:Int))=true:=by simpa using c2
  by_cases cb:bP x.p xs=[]
  case neg=>
   have hr:aP xs x=(xs,22):=by unfold aP;rw [if_neg (by simp [g]),if_neg (by simp [c1]),if_pos ⟨c2,cb⟩]
   have db:decide (((bP x.1 xs).length:Int)>(0:Int))=true:=decide_eq_true (by have:=List.length_pos_iff.2 cb;omega)
   have cb':bP x.1 xs≠[]:=cb
   rw [hr]
   refine iA pQ hM (o:=(ff [4,5,6,7,8,9,10,11] true++ff [0,1,2,3,12,13] false++[(1000,.b true)])) (n:=300) ⟨?_⟩ fun w' hB=>⟨hB,.inl ⟨by show (22:Int)≠0;decide,rfl⟩⟩
   rw [st2 (m:=[]) (k:=0)]
   simp only [ak,aN,g',d1,d2,db,Bool.not_true,and_self,and_true,true_and]
   repeat' apply And.intro
   all_goals first | exact hp | exact hh | exact hne | exact hs | exact cb' | skip
  have cb':bP x.1 xs=[]:=cb
  by_cases c0:x.k=0
  ·have d0:(x.2==(0:Int))=true:=beq_iff_eq.2 c0
   have hr:aP xs x=(bW x.p xs,0):=by unfold aP;rw [if_neg (by simp [g]),if_neg (by simp [c1]),if_neg (by simp [cb]),if_pos c0]
   rw [hr]
   by_cases cw:bW x.p xs=[]
   ·rw [cw]
    have cw':bW x.1 xs=[]:=cw
    refine j3 pQ hM (rn:=[(0,0)]) (v:=.tuple #[.slice none 0 0,.int .i64 0]) (o:=(ff [4,5,6,8,9,10,12] true++ff [0,1,2,3,7,11,13,14] false++[(1000,.b true)])) (n:=300) ⟨?_⟩ fun w' hB=>⟨hB,.inr (.inl ⟨rfl,rfl,rfl⟩)⟩
    rw [Rm (m:=[]) (k:=0)]
    simp only [ak,aN,g',d1,d2,d0,Bool.not_true,and_self,and_true,true_and]
    repeat' apply And.intro
    all_goals first | exact hp | exact hh | exact hne | exact hs | exact cb' | exact cw' | skip
   ·have cw':bW x.1 xs≠[]:=cw
    refine fE (j:=2) (l:=bW x.p xs) (m:=(bW x.p xs).length) pQ hM (o:=(ff [4,5,6,8,9,10,12,13] true++ff [0,1,2,3,7,11,14,15] false++[(1000,.b true)])) (n:=300) ⟨?_⟩ fun w' y hB hy=>⟨hB,.inr (.inr ⟨rfl,cw,y,rfl,hy⟩)⟩
    rw [QP]
    simp only [ak,aN,cR,az,g',d1,d2,d0,Bool.not_true,and_self,and_true,true_and]
    repeat' apply And.intro
    all_goals first | exact hp | exact hh | exact hne | exact hs | exact cb' | exact cw' | skip
  have d0:(x.2==(0:Int))=false:=beq_eq_false_iff_ne.2 c0
  have k0:x.2≠0:=c0
  have hr0:aP xs x=if A3 x=true∧(aj (aq x.p) xs).k≠2 then (xs,22) else if (aj x.p xs).k=0∧128≤xs.length then (xs,24) else (dI xs x,0):=by
   unfold aP
   rw [if_neg (by simp [g]),if_neg (by simp [c1]),if_neg (by simp [cb]),if_neg c0]
  cases u:A3 x
  ·rw [u] at hr0 hpe
   rw [if_neg (by simp)] at hr0
   by_cases ct:(aj x.p xs).k=0
   ·have dt:((aj x.p xs).2==(0:Int))=true:=beq_iff_eq.2 ct
    by_cases cf:128≤xs.length
    ·have df:decide ((xs.length:Int)≥(128:Int))=true:=decide_eq_true (by omega)
     rw [hr0,if_pos ⟨ct,cf⟩]
     refine iA pQ hM (o:=(ff [4,5,6,8,9,10,22,23,24,25,26] true++ff [0,1,2,3,7,11,12,13,14,15,16,17,18,19,20,21,27,28] false++[(1000,.b true)])) (n:=300) ⟨?_⟩ fun w' hB=>⟨hB,.inl ⟨by show (24:Int)≠0;decide,rfl⟩⟩
     rw [Ll (m:=[]) (k:=0)]
     simp only [ak,aN,g',d1,d2,d0,hpe,dt,df,Bool.not_true,and_self,and_true,true_and]
     repeat' apply And.intro
     all_goals first | exact hp | exact hh | exact hne | exact hs | exact cb' | skip
    ·have df:decide ((xs.length:Int)≥(128:Int))=false:=decide_eq_false (by omega)
     rw [hr0,if_neg (by omega)]
     refine fE (j:=2) (l:=dI xs x) (m:=(dI xs x).length) pQ hM (o:=(ff [4,5,6,8,9,10,22,23,24,25] true++ff [0,1,2,3,7,11,12,13,14,15,16,17,18,19,20,21,26,27,28,29] false++[(1000,.b true)])) (n:=300) ⟨?_⟩ fun w' y hB hy=>⟨hB,.inr (.inr ⟨rfl,gU _ _,y,rfl,hy⟩)⟩
     rw [IY]
     simp only [ak,aN,cR,az,hx,g',d1,d2,d0,hpe,dt,df,Bool.not_true,and_self,and_true,true_and]
     repeat' apply And.intro
     all_goals first | exact hp | exact hh | exact hne | exact hs | exact k0 | exact cb' | skip
   ·have dt:((aj x.p xs).2==(0:Int))=false:=beq_eq_false_iff_ne.2 ct
    rw [hr0,if_neg (by simp [ct])]
    refine fE (j:=2) (l:=dI xs x) (m:=(dI xs x).length) pQ hM (o:=(ff [4,5,6,8,9,10] true++ff [0,1,2,3,7,11,12,13,14,15,16,17,18,19,20,21,22,23,24,25,26,27,28,29] false++[(1000,.b true)])) (n:=300) ⟨?_⟩ fun w' y hB hy=>⟨hB,.inr (.inr ⟨rfl,gU _ _,y,rfl,hy⟩)⟩
    rw [I6]
    simp only [ak,aN,cR,az,hx,g',d1,d2,d0,hpe,dt,Bool.not_true,and_self,and_true,true_and]
    repeat' apply And.intro
    all_goals first | exact hp | exact hh | exact hne | exact hs | exact k0 | exact cb' | skip
  ·rw [u] at hr0 hpe
   by_cases cd:(aj (aq x.p) xs).k=2
   case neg=>
    have dd:(!(aj (aq x.p) xs).2==(2:Int))=true:=by simpa using cd
    rw [hr0,if_pos ⟨rfl,cd⟩]
    refine iA pQ hM (o:=(ff [4,5,6,8,9,10,14,15,16,18,19,20,21] true++ff [0,1,2,3,7,11,12,13,17,22,23] false++[(1000,.b true)])) (n:=300) ⟨?_⟩ fun w' hB=>⟨hB,.inl ⟨by show (22:Int)≠0;decide,rfl⟩⟩
    rw [Nz (m:=[]) (k:=0)]
    simp only [ak,aN,g',d1,d2,d0,hpe,dd,Bool.not_true,and_self,and_true,true_and]
    repeat' apply And.intro
    all_goals first | exact hp | exact hh | exact hne | exact hs | exact cb' | skip
   have dd:(!(aj (aq x.p) xs).2==(2:Int))=false:=by simpa using cd
   rw [if_neg (by simp [cd])] at hr0
   by_cases ct:(aj x.p xs).k=0
   ·have dt:((aj x.p xs).2==(0:Int))=true:=beq_iff_eq.2 ct
    by_cases cf:128≤xs.length
    ·have df:decide ((xs.length:Int)≥(128:Int))=true:=decide_eq_true (by omega)
     rw [hr0,if_pos ⟨ct,cf⟩]
     refine iA pQ hM (o:=(ff [4,5,6,8,9,10,14,15,16,18,19,20,23,24,25,26,27] true++ff [0,1,2,3,7,11,12,13,17,21,22,28,29] false++[(1000,.b true)])) (n:=300) ⟨?_⟩ fun w' hB=>⟨hB,.inl ⟨by show (24:Int)≠0;decide,rfl⟩⟩
     rw [LR (m:=[]) (k:=0)]
     simp only [ak,aN,g',d1,d2,d0,hpe,dd,dt,df,Bool.not_true,and_self,and_true,true_and]
     repeat' apply And.intro
     all_goals first | exact hp | exact hh | exact hne | exact hs | exact cb' | skip
    ·have df:decide ((xs.length:Int)≥(128:Int))=false:=decide_eq_false (by omega)
     rw [hr0,if_neg (by omega)]
     refine fE (j:=2) (l:=dI xs x) (m:=(dI xs x).length) pQ hM (o:=(ff [4,5,6,8,9,10,14,15,16,18,19,20,23,24,25,26] true++ff [0,1,2,3,7,11,12,13,17,21,22,27,28,29,30] false++[(1000,.b true)])) (n:=300) ⟨?_⟩ fun w' y hB hy=>⟨hB,.inr (.inr ⟨rfl,gU _ _,y,rfl,hy⟩)⟩
     rw [IT]
     simp only [ak,aN,cR,az,hx,g',d1,d2,d0,hpe,dd,dt,df,Bool.not_true,and_self,and_true,true_and]
     repeat' apply And.intro
     all_goals first | exact hp | exact hh | exact hne | exact hs | exact k0 | exact cb' | skip
   ·have dt:((aj x.p xs).2==(0:Int))=false:=beq_eq_false_iff_ne.2 ct
    rw [hr0,if_neg (by simp [ct])]
    refine fE (j:=2) (l:=dI xs x) (m:=(dI xs x).length) pQ hM (o:=(ff [4,5,6,8,9,10,14,15,16,18,19,20] true++ff [0,1,2,3,7,11,12,13,17,21,22,23,24,25,26,27,28,29,30] false++[(1000,.b true)])) (n:=300) ⟨?_⟩ fun w' y hB hy=>⟨hB,.inr (.inr ⟨rfl,gU _ _,y,rfl,hy⟩)⟩
    rw [Ip]
    simp only [ak,aN,cR,az,hx,g',d1,d2,d0,hpe,dd,dt,Bool.not_true,and_self,and_true,true_and]
    repeat' apply And.intro
    all_goals first | exact hp | exact hh | exact hne | exact hs | exact k0 | exact cb' | skip
theorem Ck (hp:x.p.size≤1000000000):af mc (aT [] []) w0 cs0 15 (ML w0 (.slice none 0 0) (aP [] x)) (aE []) (ki x):=by
 have hx:(⟨x.1,x.2,x.3,x.4,x.5⟩:aA)=x:=rfl
 have hpe:(!(aq x.1).toList==(⟨⟨[]⟩⟩:ByteArray).toList)=A3 x:=rfl
 have hs:∀ e:aA,e∈([]:List aA)→e.p.size≤1000000000:=fun e h=>(nomatch h)
 have hb:bP x.1 []=[]:=rfl
 have hf:∀ q,(aj q []).2=0:=fun q=>rfl
 have ht:((aj x.p []).2==(0:Int))=true:=rfl
 have hd:(!(aj (aq x.p) []).2==(2:Int))=true:=rfl
 cases g:a7 x.p
 ·have hr:aP [] x=([],23):=by unfold aP;rw [if_pos g]
  rw [hr]
  refine j3 pQ bo (rn:=[]) (v:=.tuple #[.slice none 0 0,.int .i64 23]) (o:=(ff [1] true++ff [0,2] false++[(1000,.b true)])) (n:=300) ⟨?_⟩ fun w' hB=>⟨hB,.inl ⟨by show (23:Int)≠0;decide,rfl⟩⟩
  rw [P8 (m:=[]) (k:=0)]
  simp only [ak,g,Bool.not_false,and_self,and_true,true_and]
  exact hp
 have g':a7 x.1=true:=g
 by_cases c1:aZ x.k x.l=0
 case neg=>
  have d1:(!aZ x.2 x.4==(0:Int))=true:=by simpa using c1
  have hr:aP [] x=([],aZ x.k x.l):=by unfold aP;rw [if_neg (by simp [g]),if_pos c1]
  rw [hr]
  refine j3 pQ bo (rn:=[]) (v:=.tuple #[.slice none 0 0,.int .i64 (aZ x.k x.l)]) (o:=(ff [3] true++ff [0,1,2,4] false++[(1000,.b true)])) (n:=300) ⟨?_⟩ fun w' hB=>⟨hB,.inl ⟨c1,rfl⟩⟩
  rw [Rf (m:=[]) (k:=0)]
  simp only [ak,g',d1,Bool.not_true,and_self,and_true,true_and]
  exact hp
 have d1:(!aZ x.2 x.4==(0:Int))=false:=by simpa using c1
 have hr0:x.k≠0→aP [] x=if A3 x=true then ([],22) else (dI [] x,0):=fun c0=>by
  unfold aP
  rw [if_neg (by simp [g]),if_neg (by simp [c1]),if_neg (by simp [bP]),if_neg c0]
  cases u:A3 x
  ·rw [if_neg (by simp),if_neg (by simp),if_neg (by simp)]
  ·rw [if_pos ⟨rfl,by show (0:Int)≠2;decide⟩,if_pos rfl]
 by_cases c0:x.k=0
 ·have d0:(x.2==(0:Int))=true:=beq_iff_eq.2 c0
  have d2:(!x.2==(2:Int))=true:=by rw [show x.2=0 from c0];rfl
  have hr:aP [] x=([],0):=by unfold aP;rw [if_neg (by simp [g]),if_neg (by simp [c1]),if_neg (by simp [bP]),if_pos c0];rfl
  rw [hr]
  refine j3 pQ bo (rn:=[]) (v:=.tuple #[.slice none 0 0,.int .i64 0]) (o:=(ff [4,5,6,8,9,10,12] true++ff [0,1,2,3,7,11,13,14] false++[(1000,.b true)])) (n:=300) ⟨?_⟩ fun w' hB=>⟨hB,.inr (.inl ⟨rfl,rfl,rfl⟩)⟩
  rw [Q1 (m:=[]) (k:=0)]
  simp only [ak,g',d1,d2,d0,hb,Bool.not_true,and_self,and_true,true_and]
  repeat' apply And.intro
  all_goals first | exact hp | exact hs | skip
 have d0:(x.2==(0:Int))=false:=beq_eq_false_iff_ne.2 c0
 have k0:x.2≠0:=c0
 have hr0:=hr0 c0
 by_cases c2:x.k=2
 ·have d2:(!x.2==(2:Int))=false:=by simpa using c2
  cases u:A3 x
  ·rw [u] at hr0 hpe
   rw [hr0,if_neg (by decide)]
   refine fE (j:=1) (l:=dI [] x) (m:=(dI [] x).length) pQ bo (o:=(ff [21,22,23,24] true++ff [0,1,2,3,4,5,6,7,8,9,10,11,12,13,14,15,16,17,18,19,20,25,26,27] false++[(1000,.b true)])) (n:=300) ⟨?_⟩ fun w' y hB hy=>⟨hB,.inr (.inr ⟨rfl,gU _ _,y,rfl,hy⟩)⟩
   rw [Mx]
   simp only [ak,cR,az,hx,g',d1,d2,d0,hpe,ht,Bool.not_true,and_self,and_true,true_and]
   repeat' apply And.intro
   all_goals first | exact hp | exact hs | exact k0 | skip
  ·rw [u] at hr0 hpe
   rw [hr0,if_pos rfl]
   refine j3 pQ bo (rn:=[]) (v:=.tuple #[.slice none 0 0,.int .i64 22]) (o:=(ff [13,14,15,17,18,19,20] true++ff [0,1,2,3,4,5,6,7,8,9,10,11,12,16,21] false++[(1000,.b true)])) (n:=300) ⟨?_⟩ fun w' hB=>⟨hB,.inl ⟨by show (22:Int)≠0;decide,rfl⟩⟩
   rw [Mi (m:=[]) (k:=0)]
   simp only [ak,g',d1,d2,d0,hpe,hd,Bool.not_true,and_self,and_true,true_and]
   repeat' apply And.intro
   all_goals first | exact hp | exact hs | skip
 ·have d2:(!x.2==(2:Int))=true:=by simpa using c2
  cases u:A3 x
  ·rw [u] at hr0 hpe
   rw [hr0,if_neg (by decide)]
   refine fE (j:=1) (l:=dI [] x) (m:=(dI [] x).length) pQ bo (o:=(ff [4,5,6,8,9,10,22,23,24,25] true++ff [0,1,2,3,7,11,12,13,14,15,16,17,18,19,20,21,26,27,28] false++[(1000,.b true)])) (n:=300) ⟨?_⟩ fun w' y hB hy=>⟨hB,.inr (.inr ⟨rfl,gU _ _,y,rfl,hy⟩)⟩
   rw [Nj]
   simp only [ak,cR,az,hx,g',d1,d2,d0,hpe,ht,hb,Bool.not_true,and_self,and_true,true_and]
   repeat' apply And.intro
   all_goals first | exact hp | exact hs | exact k0 | skip
  ·rw [u] at hr0 hpe
   rw [hr0,if_pos rfl]
   refine j3 pQ bo (rn:=[]) (v:=.tuple #[.slice none 0 0,.int .i64 22]) (o:=(ff [4,5,6,8,9,10,14,15,16,18,19,20,21] true++ff [0,1,2,3,7,11,12,13,17,22] false++[(1000,.b true)])) (n:=300) ⟨?_⟩ fun w' hB=>⟨hB,.inl ⟨by show (22:Int)≠0;decide,rfl⟩⟩
   rw [Mh (m:=[]) (k:=0)]
   simp only [ak,g',d1,d2,d0,hpe,hd,hb,Bool.not_true,and_self,and_true,true_and]
   repeat' apply And.intro
   all_goals first | exact hp | exact hs | skip
end
abbrev cg:=aA × Nat
def mI (e:cg):SV × SV × Nat:=(.v (.string e.1.p),.agg [.v (.int .i64 e.1.k),.v (.slice e.1.a e.1.l e.1.c)],e.2)
def cU (e:cg):SV:=.agg [.v (.int .i64 e.1.k),.v (.slice e.1.a e.1.l e.1.c)]
structure dG (E:List cg) (cl:Nat):Prop where
 names:(E.map fun e=>e.1.p).Nodup
 borns:(E.map fun e=>e.2).Nodup
 born:∀ e∈E,e.2<cl
 full:∀ e∈E,e.1.p≠⟨#[]⟩
 size:∀ e∈E,e.1.p.size≤1000000000
theorem II {x y:cg} (h:mI x=mI y):x=y:=by
 obtain ⟨⟨p,k,a,l,c⟩,n⟩:=x
 obtain ⟨⟨p',k',a',l',c'⟩,n'⟩:=y
 simp only [mI,Prod.mk.injEq,SV.v.injEq,Value.string.injEq,SV.agg.injEq,List.cons.injEq,Value.int.injEq,Value.slice.injEq,true_and,and_true] at h
 obtain ⟨h1,⟨h3,h4,h5,h6⟩,h7⟩:=h
 subst h1 h3 h4 h5 h6 h7
 rfl
theorem jT {E:List cg} (hb:(E.map fun e=>e.2).Nodup) {x:cg} (hx:x∈E):(E.map mI).find? (fun e=>Nat.beq e.2.2 x.2)=some (mI x):=by
 induction E with
 | nil=>cases hx
 | cons y E ih=>
  rw [List.map_cons,List.find?_cons]
  rw [List.map_cons,List.nodup_cons] at hb
  by_cases h:y.2=x.2
  ·have hq:Nat.beq (mI y).2.2 x.2=true:=by show Nat.beq y.2 x.2=true;rw [h];simp
   rw [hq]
   rcases List.mem_cons.1 hx with rfl | hx
   ·rfl
   ·exact absurd (List.mem_map.2 ⟨x,hx,h.symm⟩) hb.1
  ·have hq:Nat.beq (mI y).2.2 x.2=false:=by
    show Nat.beq y.2 x.2=false
    rw [Bool.eq_false_iff];intro e;exact h (Nat.eq_of_beq_eq_true e)
   rw [hq]
   rcases List.mem_cons.1 hx with rfl | hx
   ·exact absurd rfl h
   ·exact ih hb.2 hx
theorem E8 {E:List cg} (hn:(E.map fun e=>e.1.p).Nodup) {f:cg} (hf:f∈E):∃ j,FX (E.map mI) f.1.p j (cU f) f.2:=by
 obtain ⟨j,hj⟩:=List.getElem?_of_mem hf
 refine ⟨j,fun e he=>?_,by rw [List.getElem?_map,hj];rfl⟩
 rw [← List.map_take] at he
 obtain ⟨y,hy,rfl⟩:=List.mem_map.1 he
 refine ⟨y.1.p,rfl,?_⟩
 rw [Bool.eq_false_iff];intro h
 obtain ⟨i,hi⟩:=List.getElem?_of_mem hy
 have hlt:i<j:=by
  have:=(List.getElem?_eq_some_iff.1 hi).1
  rw [List.length_take] at this;omega
 rw [List.getElem?_take,if_pos hlt] at hi
 have hpe:f.1.p=y.1.p:=by
  have:(f.1.p.data==y.1.p.data)=true:=h
  have:=eq_of_beq this
  cases hfp:f.1.p;cases hyp:y.1.p;rw [hfp,hyp] at this;cases this;rfl
 have:=lS hn hi hj hpe.symm
 omega
theorem cH (E:List cg):((E.map mI).all fun e=>a8 e.1&&a8 e.2.1)=true:=by
 rw [List.all_eq_true];intro x hx
 obtain ⟨y,_,rfl⟩:=List.mem_map.1 hx
 rfl
theorem lY {E:List cg} {seen:List Nat} {e:cg} {n:Nat} (he:e∈E) (hs:seen.contains e.2=false) (h:(E.filter fun x=>!seen.contains x.2).length≤n+1):(E.filter fun x=>!(seen++[e.2]).contains x.2).length≤n:=by
 have hlt:(E.filter fun x=>!(seen++[e.2]).contains x.2).length<(E.filter fun x=>!seen.contains x.2).length:=by
  have h1:(E.filter fun x=>!(seen++[e.2]).contains x.2)=(E.filter fun x=>!seen.contains x.2).filter fun x=>!(x.2==e.2):=by
   rw [List.filter_filter]
   congr 1;funext x
   cases h1:(x.2==e.2) <;> cases h2:seen.contains x.2 <;> simp_all
  rw [h1]
  refine List.length_filter_lt_length_iff_exists.2 ⟨e,List.mem_filter.2 ⟨he,by show (!seen.contains e.2)=true;rw [hs];rfl⟩,by simp⟩
 omega
theorem fw {p:ByteArray} {e:aA}:oR p e=true↔e.p=p:=by
 unfold oR
 rw [beq_iff_eq]
 constructor
 ·intro h;cases h1:e.p;cases p;rw [h1] at h;congr 1;exact Array.toList_inj.1 h
 ·intro h;rw [h]
abbrev EH:=ByteArray × Int × List Int
def nq (c:aA→List Int) (e:aA):EH:=(e.p,e.k,c e)
def kJ (c:aA→List Int) (e:cg):EH:=nq c e.1
def rB (p:ByteArray) (K:List EH):List EH:=K.filter fun k=>!(k.1.data.toList==p.data.toList)
def fu (xs:List aA):Prop:=xs.Pairwise fun a b=>ey a.p b.p<0
theorem ue {ys:aA→List Int} (p:ByteArray) (xs:List aA):(bW p xs).map (nq ys)=rB p (xs.map (nq ys)):=by
 unfold bW rB;rw [List.filter_map];rfl
theorem jQ {p:ByteArray} {e:aA}:oR p e=false↔e.p≠p:=by
 rw [← Bool.not_eq_true,fw]
theorem fu.names {xs:List aA} (h:fu xs):(xs.map fun e=>e.p).Nodup:=by
 unfold fu at h
 rw [List.nodup_iff_pairwise_ne,List.pairwise_map]
 exact h.imp fun {a b} hab e=>by rw [e,pE] at hab;exact absurd hab (by decide)
structure dQ (cm ys:aA→List Int) (E:List cg) (cl:Nat) (xs:List aA):Prop where
 ok:dG E cl
 twin:(E.map (kJ cm)).Perm (xs.map (nq ys))
 sorted:fu xs
 few:xs.length≤128
 kind:∀ e∈xs,e.k≠0
section
variable {E:List cg} {cl:Nat} {xs:List aA} {x:aA} {cm ys:aA→List Int}
theorem dQ.len (h:dQ cm ys E cl xs):E.length=xs.length:=by simpa using h.twin.length_eq
theorem dQ.to (h:dQ cm ys E cl xs) {e:aA} (he:e∈xs):∃ f∈E,kJ cm f=nq ys e:=by
 have:=h.twin.mem_iff.2 (List.mem_map.2 ⟨e,he,rfl⟩)
 exact List.mem_map.1 this
theorem dQ.of (h:dQ cm ys E cl xs) {f:cg} (hf:f∈E):∃ e∈xs,nq ys e=kJ cm f:=by
 have:=h.twin.mem_iff.1 (List.mem_map.2 ⟨f,hf,rfl⟩)
 exact List.mem_map.1 this
theorem lp {f:cg} {e:aA} (h:kJ cm f=nq ys e):f.1.p=e.p∧f.1.k=e.k:=by
 simp only [kJ,nq,Prod.mk.injEq] at h;exact ⟨h.1,h.2.1⟩
theorem CM {f:cg} {e:aA} (h:kJ cm f=nq ys e):cm f.1=ys e:=by
 simp only [kJ,nq,Prod.mk.injEq] at h;exact h.2.2
theorem dQ.size (h:dQ cm ys E cl xs):∀ e∈xs,e.p.size≤1000000000:=fun e he=>by
 obtain ⟨f,hf,hk⟩:=h.to he
 rw [← (lp hk).1];exact h.ok.size f hf
theorem zg (hB:dG E cl) {f g:cg} (hf:f∈E) (hg:g∈E) (h:f.1.p=g.1.p):f=g:=by
 obtain ⟨i,hi⟩:=List.getElem?_of_mem hf
 obtain ⟨j,hj⟩:=List.getElem?_of_mem hg
 have:=lS hB.names hi hj h
 subst this
 rw [hi] at hj;exact Option.some.inj hj
theorem dQ.dy (h:dQ cm ys E cl xs) (hm:∀ f∈E,f.1.p≠x.p):∀ e∈xs,e.p≠x.p:=fun e he=>by
 obtain ⟨f,hf,hk⟩:=h.to he
 rw [← (lp hk).1];exact hm f hf
theorem mE {p:ByteArray} (hm:∀ e∈xs,e.p≠p):aj p xs=⟨p,0,none,0,0⟩∧bW p xs=xs:=by
 constructor
 ·unfold aj
  rw [List.find?_eq_none.2 fun e he=>by rw [jQ.2 (hm e he)];simp];rfl
 ·exact List.filter_eq_self.2 fun e he=>by rw [jQ.2 (hm e he)];rfl
theorem iH (x:aA):∀ l:List aA,(fT x l).Perm (x::l)
 | []=>List.Perm.refl _
 | e::l=>by
  unfold fT
  split
  ·exact List.Perm.refl _
  ·exact ((iH x l).cons e).trans (List.Perm.swap x e l)
theorem pV:∀ {l:List aA},fu l→(∀ e∈l,e.p≠x.p)→fu (fT x l)
 | [],_,_=>by simp [fT,fu]
 | e::l,h,hx=>by
  unfold fu at h
  rw [List.pairwise_cons] at h
  unfold fT
  split
  ·rename_i hc
   have h0:ey x.p e.p<0:=by rw [fC];omega
   unfold fu
   rw [List.pairwise_cons,List.pairwise_cons]
   refine ⟨fun b hb=>?_,h⟩
   rcases List.mem_cons.1 hb with rfl | hb
   ·exact h0
   ·exact gj h0 (h.1 b hb)
  ·rename_i hc
   have h1:ey e.p x.p≠0:=fun h0=>hx e List.mem_cons_self (iD h0)
   unfold fu
   rw [List.pairwise_cons]
   refine ⟨fun b hb=>?_,pV h.2 fun z hz=>hx z (List.mem_cons_of_mem _ hz)⟩
   rcases List.mem_cons.1 ((iH x l).mem_iff.1 hb) with rfl | hb
   ·omega
   ·exact h.1 b hb
theorem fu.drop (h:fu xs) (p:ByteArray):fu (bW p xs):=List.Pairwise.sublist List.filter_sublist h
theorem Ev {p:ByteArray}:∀ e∈bW p xs,e.p≠p:=fun e he=>by
 have:=(List.mem_filter.1 he).2
 exact jQ.1 (by simpa using this)
theorem lj:∀ {E:List cg} {j:Nat} {f:cg},(E.map fun e=>e.1.p).Nodup→E[j]?=some f→(E.eraseIdx j).map (kJ cm)=rB f.1.p (E.map (kJ cm))
 | [],j,f,_,h=>by simp at h
 | a::l,0,f,hn,h=>by
  simp at h;subst h
  rw [List.map_cons,List.nodup_cons] at hn
  unfold rB
  rw [List.eraseIdx_cons_zero,List.map_cons,List.filter_cons_of_neg (by simp [kJ,nq])]
  refine (List.filter_eq_self.2 fun k hk=>?_).symm
  obtain ⟨g,hg,rfl⟩:=List.mem_map.1 hk
  have:g.1.p≠a.1.p:=fun e=>hn.1 (List.mem_map.2 ⟨g,hg,e⟩)
  have:=jQ.2 this
  unfold oR at this
  show (!(g.1.p.data.toList==a.1.p.data.toList))=true
  rw [this];rfl
 | a::l,j+1,f,hn,h=>by
  rw [List.map_cons,List.nodup_cons] at hn
  have hf:l[j]?=some f:=by simpa using h
  have ih:=lj hn.2 hf
  have hmem:=List.mem_of_getElem? hf
  have:a.1.p≠f.1.p:=fun e=>hn.1 (List.mem_map.2 ⟨f,hmem,e.symm⟩)
  have:=jQ.2 this
  unfold oR at this
  unfold rB at ih ⊢
  rw [List.eraseIdx_cons_succ,List.map_cons,List.map_cons,ih,List.filter_cons_of_pos (by show (!(a.1.p.data.toList==f.1.p.data.toList))=true;rw [this];rfl)]
theorem dG.sub {E':List cg} (h:dG E cl) (hs:E'.Sublist E):dG E' cl:=
 ⟨h.names.sublist (hs.map _),h.borns.sublist (hs.map _),fun e he=>h.born e (hs.mem he),fun e he=>h.full e (hs.mem he),fun e he=>h.size e (hs.mem he)⟩
theorem dG.snoc (h:dG E cl) {y:aA} (hm:∀ e∈E,e.1.p≠y.p) (hf:y.p≠⟨#[]⟩) (hz:y.p.size≤1000000000):dG (E++[(y,cl)]) (cl+1):=by
 refine ⟨?_,?_,fun e he=>?_,fun e he=>?_,fun e he=>?_⟩
 ·rw [List.map_append,List.nodup_append]
  refine ⟨h.names,by simp,fun a ha b hb=>?_⟩
  obtain ⟨e,he,rfl⟩:=List.mem_map.1 ha
  have:b=y.p:=by simpa using hb
  rw [this];exact hm e he
 ·rw [List.map_append,List.nodup_append]
  refine ⟨h.borns,by simp,fun a ha b hb=>?_⟩
  obtain ⟨e,he,rfl⟩:=List.mem_map.1 ha
  have:b=cl:=by simpa using hb
  have:=h.born e he
  omega
 ·rcases List.mem_append.1 he with he | he
  ·have:=h.born e he;omega
  ·have:e=(y,cl):=by simpa using he
   subst this;show cl<cl+1;omega
 ·rcases List.mem_append.1 he with he | he
  ·exact h.full e he
  ·have:e=(y,cl):=by simpa using he
   subst this;exact hf
 ·rcases List.mem_append.1 he with he | he
  ·exact h.size e he
  ·have:e=(y,cl):=by simpa using he
   subst this;exact hz
theorem dG.mod (h:dG E cl) {j:Nat} {f:cg} {y:aA} (hf:E[j]?=some f) (hp:y.p=f.1.p):dG (E.modify j fun e=>(y,e.2)) cl:=by
 have hmem:=List.mem_of_getElem? hf
 refine ⟨?_,?_,fun e he=>?_,fun e he=>?_,fun e he=>?_⟩
 ·rw [na hf (by exact hp)];exact h.names
 ·rw [na hf (by rfl)];exact h.borns
 ·rcases iK hf he with rfl | he
  ·exact h.born f hmem
  ·exact h.born e he
 ·rcases iK hf he with rfl | he
  ·show y.p≠_;rw [hp];exact h.full f hmem
  ·exact h.full e he
 ·rcases iK hf he with rfl | he
  ·show y.p.size≤_;rw [hp];exact h.size f hmem
  ·exact h.size e he
theorem dQ.cont {cm':aA→List Int} (h:dQ cm ys E cl xs) (hc:∀ e∈E,cm e.1=cm' e.1):dQ cm' ys E cl xs:=
 ⟨h.ok,by
  have:E.map (kJ cm')=E.map (kJ cm):=List.map_congr_left fun e he=>by unfold kJ nq;rw [hc e he]
  rw [this];exact h.twin,h.sorted,h.few,h.kind⟩
theorem dQ.xE (h:dQ cm ys E cl xs) {f:cg} (hf:f∈E):(aj f.1.p xs).k=f.1.k∧(bW f.1.p xs).length<xs.length∧∃ e∈xs,aj f.1.p xs=e∧nq ys e=kJ cm f:=by
 obtain ⟨e,he,hk⟩:=h.of hf
 have he2:oR f.1.p e=true:=fw.2 (lp hk.symm).1.symm
 have hfe:xs.find? (oR f.1.p)=some e:=by
  cases hq:xs.find? (oR f.1.p) with
  | none=>rw [List.find?_eq_none] at hq;exact absurd he2 (hq e he)
  | some e'=>
   have h1:=List.mem_of_find?_eq_some hq
   have h2:=fw.1 (List.find?_some hq)
   have hn:=h.sorted.names
   have h3:=fw.1 he2
   obtain ⟨i,hi⟩:=List.getElem?_of_mem h1
   obtain ⟨j,hj⟩:=List.getElem?_of_mem he
   have:=lS hn hi hj (by rw [h2,h3])
   subst this
   rw [hi] at hj;exact hj
 have hfi:aj f.1.p xs=e:=by unfold aj;rw [hfe];rfl
 refine ⟨by rw [hfi];exact (lp hk.symm).2.symm,List.length_filter_lt_length_iff_exists.2 ⟨e,he,by rw [he2];simp⟩,e,he,hfi,hk⟩
theorem dQ.sa (h:dQ cm ys E cl xs):(E.map fun e=>e.1.p).Perm (xs.map fun e=>e.p):=by
 have:=h.twin.map (fun k:EH=>k.1)
 rw [List.map_map,List.map_map] at this
 exact this
theorem dQ.new {E':List cg} {cl':Nat} {L:List aA} (hB:dG E' cl') (ht:(E'.map (kJ cm)).Perm (nq ys x::L.map (nq ys))) (hs:fu L) (hx:∀ e∈L,e.p≠x.p) (hl:L.length<128) (hk:∀ e∈L,e.k≠0) (hxk:x.k≠0):dQ cm ys E' cl' (fT x L):=
 ⟨hB,ht.trans (((iH x L).map (nq ys)).symm),pV hs hx,by rw [n9];omega,fun e he=>by
  rcases List.mem_cons.1 ((iH x L).mem_iff.1 he) with rfl | h
  ·exact hxk
  ·exact hk e h⟩
end
theorem mD (o:Nat) (b:Nat × Nat):∀ E:List cg,gf o b (E.map mI)=E.map mI
 | []=>rfl
 | e::E=>by
  show _::gf o b (E.map mI)=_
  rw [mD o b E];rfl
theorem ba {o:Nat} {b:Nat × Nat} {E:List cg} {y:aA} {k v:SV} {n:Nat} (h:(k,rC o b v,n)=mI (y,n)):gf o b (E.map mI++[(k,v,n)])=(E++[(y,n)]).map mI:=by
 unfold gf
 rw [List.map_append,List.map_append]
 have:=mD o b E
 unfold gf at this
 rw [this,List.map_cons,List.map_cons,h];rfl
theorem dO {g:SV × SV × Nat→SV × SV × Nat} {g':cg→cg} (h:∀ e,g (mI e)=mI (g' e)):∀ (E:List cg) (j:Nat),(E.map mI).modify j g=(E.modify j g').map mI
 | [],j=>by simp
 | e::E,0=>by simp [h]
 | e::E,j+1=>by simp [dO h E j]
theorem cK {o:Nat} {b:Nat × Nat} {g:SV × SV × Nat→SV × SV × Nat} {g':cg→cg} (h:∀ e,((g (mI e)).1,rC o b (g (mI e)).2.1,(g (mI e)).2.2)=mI (g' e)):∀ (E:List cg) (j:Nat),gf o b ((E.map mI).modify j g)=(E.modify j g').map mI
 | [],j=>by simp [gf]
 | e::E,0=>by
  simp only [List.map_cons,List.modify_zero_cons]
  show _::gf o b (E.map mI)=_
  rw [mD]
  exact congrArg (·::E.map mI) (h e)
 | e::E,j+1=>by
  simp only [List.map_cons,List.modify_succ_cons]
  show _::gf o b ((E.map mI).modify j g)=_
  rw [cK h E j];rfl
theorem ny {E:List cg} (hn:(E.map fun e=>e.1.p).Nodup) {f:cg} (hf:f∈E):∃ j,FX (E.map mI) f.1.p j (cU f) f.2∧E[j]?=some f:=by
 obtain ⟨j,hj⟩:=E8 hn hf
 refine ⟨j,hj,?_⟩
 have h2:=hj.2
 rw [List.getElem?_map] at h2
 obtain ⟨g,hg,h3⟩:=Option.map_eq_some_iff.1 h2
 rw [hg,II (h3:mI g=mI f)]
theorem jO {E:List cg} {p:ByteArray} (hm:∀ e∈E,e.1.p≠p):∀ e∈E.map mI,cn p e.1:=fun e he=>by
 obtain ⟨y,hy,rfl⟩:=List.mem_map.1 he
 refine ⟨y.1.p,rfl,?_⟩
 rw [Bool.eq_false_iff];intro h
 refine hm y hy ?_
 have:(p.data==y.1.p.data)=true:=h
 have:=eq_of_beq this
 cases hfp:p;cases hyp:y.1.p;rw [hfp,hyp] at this;cases this;rfl
theorem di (x:aA) (l:List aA):fT x l≠[]:=fun h=>by
 have:=n9 x l
 rw [h] at this;simp at this
theorem yC {cm:aA→List Int} {E:List cg} {y:aA} {n:Nat}:((E++[(y,n)]).map (kJ cm)).Perm (nq cm y::E.map (kJ cm)):=by
 rw [List.map_append];exact List.perm_append_comm
def dw (H:Hp) (e:aA) (zs:List Int):Prop:=(e.a=none∧e.l=0∧zs=[])∨∃ b rest,e.a=some ⟨b,0,none⟩∧H b=some (.cells ((zs.map (Value.int .u8))++rest).toArray 5 (0,0))∧zs.length=e.l
def kC (H:Hp) (e:aA):List Int:=match e.a with
 | none=>[]
 | some a=>match H a.1 with
  | some (.cells c _ _)=>(c.toList.take e.l).map Nv
  | _=>[]
theorem dw.cont {H:Hp} {e:aA} {zs:List Int} (h:dw H e zs):kC H e=zs:=by
 unfold kC
 rcases h with ⟨h1,_,rfl⟩ | ⟨b,rest,h1,h2,h3⟩
 ·rw [h1]
 ·rw [h1]
  dsimp only
  rw [h2]
  dsimp only
  rw [List.take_append_of_le_length (by simp [h3]),List.take_of_length_le (by simp [h3]),List.map_map]
  exact List.map_id' zs
theorem dw.mono {H H':Hp} {e:aA} {zs:List Int} (h:dw H e zs) (hs:H.Sub H'):dw H' e zs:=by
 rcases h with h | ⟨b,rest,h1,h2,h3⟩
 ·exact .inl h
 ·exact .inr ⟨b,rest,h1,hs _ _ h2,h3⟩
def uq (w0:World) (e:aA):Prop:=∀ a,e.a=some a→w0.heap.size≤a.block
theorem wX {x e:aA} {p:ByteArray} {xs:List aA} (h:e∈fT x (bW p xs)):e=x∨e∈xs:=by
 rcases List.mem_cons.1 ((iH x _).mem_iff.1 h) with h | h
 ·exact .inl h
 ·exact .inr (List.mem_filter.1 h).1
theorem iF {x e:aA} {xs:List aA} (h:e∈fT x xs):e=x∨e∈xs:=List.mem_cons.1 ((iH x _).mem_iff.1 h)
def MO:List (FuncId × Sum):=[(39,qI)]
noncomputable def dV:Env:={ EP [] [] with sums:=fun f=>MO.lookup f }
def sI:Option (SO × Bool):=some (.row [.map 1] 63 (0,0) none,false)
theorem qk {M0 M:Own} {w00 w0:World} (hM:∀ z,¬ M0 z) (hB:dz M0 w00 M w0) (hX:MX w00):aW dV M w0:=
 aW.Bg (Checked.mixed Try.checked) (by kernel_rfl) (gu.of ke rfl eY) (ep.DX (X:=MX) (l:=MO) rfl (fun r h=>by
  simp only [MO,List.mem_cons,List.not_mem_nil,or_false] at h
  rcases h with rfl
  exact wU) fun ν s w hr _=>hX.keep fun k hk=>(hr.frame k (Nat.lt_of_lt_of_le hk hB.size) (hB.frame k hk (hM k)).2).trans (hB.frame k hk (hM k)).1) (fun f g h=>by cases h)
def Ix:SV:=.func (.func 63) [] [.ptr 2 0]
noncomputable def zX (es:List (SV × SV × Nat)) (cl:Nat):SM:=(bC dV 38 [.ptr 0 0,Ix] (bO 6 3 0 [sI,zf es cl,cD []])).getD dC
noncomputable def Gj:List SI:=dn dV 2 60 (zX [] 0) [(1000,.b true)]
noncomputable def pL (x:SV):SF:={ fn:=38,tm:=eO 27 5 ([.ptr 0 0,Ix,.aJ,.aJ,x,.aJ,.aJ,.aJ,.aJ,.aJ,.aJ,.aJ,.ptr 3 0]++List.replicate 14 .aJ),todo:=Gj,defers:=[],ret:=false,kind:=.normal,ro:=none }
def qE (es:List (SV × SV × Nat)) (cl:Nat) (seen:List Nat):List (Option (SO × Bool)):=[sI,zf es cl,cD [],some (.miter (some 1) cl seen cl,true)]
def qG (es:List (SV × SV × Nat)) (cl:Nat) (seen:List Nat) (m:List SV):List (Option (SO × Bool)):=[sI,zf es cl,cD [],some (.miter (some 1) cl seen cl,true),oa m]
noncomputable def Fv (es:List (SV × SV × Nat)) (cl:Nat) (seen:List Nat):SM:=SM.at (pL aK) 6 (qE es cl seen)
noncomputable def Gu (es:List (SV × SV × Nat)) (cl:Nat) (seen:List Nat) (m:List SV) (k:Nat):SM:=SM.at (pL (.sl 4 0 k none)) 6 (qG es cl seen m)
noncomputable def ry (es:List (SV × SV × Nat)) (cl:Nat) (seen:List Nat):SM:=(po dV (kM dV) 30 ((Fv es cl seen).with [(1000,.b true)])).getD dC
noncomputable def Bx (es:List (SV × SV × Nat)) (cl:Nat) (seen:List Nat) (e:SV × SV × Nat):SM:=(mj dV (ry es cl seen) e).getD dC
noncomputable def Gi (es:List (SV × SV × Nat)) (cl:Nat) (seen:List Nat):SM:=(my dV (ry es cl seen)).getD dC
theorem Da (es:List (SV × SV × Nat)) (cl:Nat) (seen:List Nat):po dV (kM dV) 30 ((Fv es cl seen).with [(1000,.b true)])=some (ry es cl seen):=by kernel_rfl
theorem Fh (es:List (SV × SV × Nat)) (cl:Nat) (seen:List Nat):p9 dV (ry es cl seen)=some (3,1,cl,seen,cl,es,cl):=by kernel_rfl
theorem EJ (es:List (SV × SV × Nat)) (cl:Nat) (seen:List Nat):(ry es cl seen).mem.obl=[]:=by kernel_rfl
theorem E7 (es:List (SV × SV × Nat)) (cl:Nat) (seen:List Nat) (e:SV × SV × Nat):mj dV (ry es cl seen) e=some (Bx es cl seen e):=by kernel_rfl
theorem FR (es:List (SV × SV × Nat)) (cl:Nat) (seen:List Nat) (e:SV × SV × Nat):(Bx es cl seen e).mem.obl=[]:=by kernel_rfl
theorem GI (es:List (SV × SV × Nat)) (cl:Nat) (seen:List Nat):my dV (ry es cl seen)=some (Gi es cl seen):=by kernel_rfl
theorem Fo (es:List (SV × SV × Nat)) (cl:Nat) (seen:List Nat):(Gi es cl seen).mem.obl=[]:=by kernel_rfl
def GF (e:cg):List (Nat × gX):=[(0,.b true),(1,.ent (.v (.string e.1.p)) (cU e))]
noncomputable def F8 (es:List (SV × SV × Nat)) (cl:Nat) (seen:List Nat) (e:cg) (d:Bool):SM:=bq dV 63 60 (Bx es cl seen (mI e)) (GF e) (.v (.bool d))
noncomputable def rM (es:List (SV × SV × Nat)) (cl:Nat) (seen:List Nat) (m:List SV) (k:Nat):SM:=(po dV (kM dV) 30 ((Gu es cl seen m k).with [(1000,.b true)])).getD dC
noncomputable def BR (es:List (SV × SV × Nat)) (cl:Nat) (seen:List Nat) (m:List SV) (k:Nat) (e:SV × SV × Nat):SM:=(mj dV (rM es cl seen m k) e).getD dC
noncomputable def Gn (es:List (SV × SV × Nat)) (cl:Nat) (seen:List Nat) (m:List SV) (k:Nat):SM:=(my dV (rM es cl seen m k)).getD dC
theorem CN (es:List (SV × SV × Nat)) (cl:Nat) (seen:List Nat) (m:List SV) (k:Nat):po dV (kM dV) 30 ((Gu es cl seen m k).with [(1000,.b true)])=some (rM es cl seen m k):=by kernel_rfl
theorem F9 (es:List (SV × SV × Nat)) (cl:Nat) (seen:List Nat) (m:List SV) (k:Nat):p9 dV (rM es cl seen m k)=some (3,1,cl,seen,cl,es,cl):=by kernel_rfl
theorem Ei (es:List (SV × SV × Nat)) (cl:Nat) (seen:List Nat) (m:List SV) (k:Nat):(rM es cl seen m k).mem.obl=[]:=by kernel_rfl
theorem Fg (es:List (SV × SV × Nat)) (cl:Nat) (seen:List Nat) (m:List SV) (k:Nat) (e:SV × SV × Nat):mj dV (rM es cl seen m k) e=some (BR es cl seen m k e):=by kernel_rfl
theorem FA (es:List (SV × SV × Nat)) (cl:Nat) (seen:List Nat) (m:List SV) (k:Nat) (e:SV × SV × Nat):(BR es cl seen m k e).mem.obl=[]:=by kernel_rfl
theorem Fk (es:List (SV × SV × Nat)) (cl:Nat) (seen:List Nat) (m:List SV) (k:Nat):my dV (rM es cl seen m k)=some (Gn es cl seen m k):=by kernel_rfl
theorem GH (es:List (SV × SV × Nat)) (cl:Nat) (seen:List Nat) (m:List SV) (k:Nat):(Gn es cl seen m k).mem.obl=[]:=by kernel_rfl
def F0 (e:cg):List (Nat × gX):=[(0,.b true),(1,.ent (.v (.string e.1.p)) (cU e))]
noncomputable def Gr (es:List (SV × SV × Nat)) (cl:Nat) (seen:List Nat) (m:List SV) (k:Nat) (e:cg) (d:Bool):SM:=bq dV 63 60 (BR es cl seen m k (mI e)) (F0 e) (.v (.bool d))
theorem MC (es:List (SV × SV × Nat)) (cl:Nat):reach dV 2 60 (zX es cl) [(1000,.b true)] [(0,0),(1,1),(2,2),(3,3)] [1] (pL aK) 6 (qE es cl [])=[0=0,Fn.func 63=Fn.func 63,0=0,Value.slice none 0 0=Value.slice none 0 0,0=0,cl=cl,es=es,(es.all fun e=>a8 e.fst&&a8 e.snd.fst)=true,(match false with | true=>some 0 | false=>List.lookup 1 [(1,1),(2,2),(3,3)])=some 1,cl=cl,([]:List Nat)=[],cl=cl]:=by kernel_rfl
theorem K4 (es:List (SV × SV × Nat)) (cl:Nat) (seen:List Nat) (e:cg):bI dV 63 60 (Bx es cl seen (mI e)) (GF e)=[∃ stamp b,(seen++[(mI e).snd.snd]).getLast?=some stamp∧cl=cl∧List.find? (fun e=>e.snd.snd.beq stamp) es=some (SV.v (Value.string e.fst.p),cU e,b),true=true]:=by kernel_rfl
theorem Ky (es:List (SV × SV × Nat)) (cl:Nat) (seen:List Nat) (e:cg) (d:Bool):bE dV 63 60 (Bx es cl seen (mI e)) (GF e) (.v (.bool d))=[∃ stamp b,(seen++[(mI e).snd.snd]).getLast?=some stamp∧cl=cl∧List.find? (fun e=>e.snd.snd.beq stamp) es=some (SV.v (Value.string e.fst.p),cU e,b),true=true]:=by kernel_rfl
theorem KN (es:List (SV × SV × Nat)) (cl:Nat) (seen:List Nat) (e:cg):reach dV 2 60 (F8 es cl seen e false) (ff [0] false) [(0,0),(1,1),(2,2),(3,3)] [1] (pL aK) 6 (qE es cl (seen++[e.2]))=[0=0,Fn.func 63=Fn.func 63,0=0,Value.slice none 0 0=Value.slice none 0 0,0=0,cl=cl,es=es,(es.all fun e=>a8 e.fst&&a8 e.snd.fst)=true,(match false with | true=>some 0 | false=>List.lookup 1 [(1,1),(2,2),(3,3)])=some 1,cl=cl,seen++[(mI e).snd.2]=seen++[e.2],cl=cl,false=false]:=by kernel_rfl
theorem J5 (es:List (SV × SV × Nat)) (cl:Nat) (seen:List Nat) (e:cg) (m':List SV):reach dV 2 60 (F8 es cl seen e true) (ff [0] true++ff [1] false) [(0,0),(1,1),(2,2),(3,3),(4,5)] [1,4] (pL (.sl 4 0 1 none)) 6 (qG es cl (seen++[e.2]) m')=[0=0,Fn.func 63=Fn.func 63,0=0,0=0∧1=1∧nZ=none,0=0,cl=cl,es=es,(es.all fun e=>a8 e.fst&&a8 e.snd.fst)=true,(match false with | true=>some 0 | false=>List.lookup 1 [(1,1),(2,2),(3,3),(4,5)])=some 1,cl=cl,seen++[(mI e).snd.2]=seen++[e.2],cl=cl,[]++List.take 1 (List.drop 0 (aX (List.replicate 1 (List.map SV.v [Value.string ⟨⟨[]⟩⟩])).flatten 0 [SV.v (Value.string e.fst.1)]))=m',m'.all ab=true,false=false,true=true]:=by kernel_rfl
theorem Lq (es:List (SV × SV × Nat)) (cl:Nat) (seen:List Nat) (m:List SV) (k:Nat) (e:cg):bI dV 63 60 (BR es cl seen m k (mI e)) (F0 e)=[∃ stamp b,(seen++[(mI e).snd.snd]).getLast?=some stamp∧cl=cl∧List.find? (fun e=>e.snd.snd.beq stamp) es=some (SV.v (Value.string e.fst.p),cU e,b),true=true]:=by kernel_rfl
theorem JG (es:List (SV × SV × Nat)) (cl:Nat) (seen:List Nat) (m:List SV) (k:Nat) (e:cg) (d:Bool):bE dV 63 60 (BR es cl seen m k (mI e)) (F0 e) (.v (.bool d))=[∃ stamp b,(seen++[(mI e).snd.snd]).getLast?=some stamp∧cl=cl∧List.find? (fun e=>e.snd.snd.beq stamp) es=some (SV.v (Value.string e.fst.p),cU e,b),true=true]:=by kernel_rfl
theorem J3 (es:List (SV × SV × Nat)) (cl:Nat) (seen:List Nat) (m:List SV) (k:Nat) (e:cg):reach dV 2 60 (Gr es cl seen m k e false) (ff [0] false) [(0,0),(1,1),(2,2),(3,3),(4,4)] [1,4] (pL (.sl 4 0 k none)) 6 (qG es cl (seen++[e.2]) m)=[0=0,Fn.func 63=Fn.func 63,0=0,0=0∧k=k∧nZ=none,0=0,cl=cl,es=es,(es.all fun e=>a8 e.fst&&a8 e.snd.fst)=true,(match false with | true=>some 0 | false=>List.lookup 1 [(1,1),(2,2),(3,3),(4,4)])=some 1,cl=cl,seen++[(mI e).snd.2]=seen++[e.2],cl=cl,m=m,m.all ab=true,false=false]:=by kernel_rfl
theorem Jn (es:List (SV × SV × Nat)) (cl:Nat) (seen:List Nat) (m w m':List SV) (k:Nat) (e:cg):reach dV 2 60 (Gr es cl seen m k e true) [(0,.b true),(1,.app m w)] [(0,0),(1,1),(2,2),(3,3),(4,6)] [1,4] (pL (.sl 4 0 (k+1) none)) 6 (qG es cl (seen++[e.2]) m')=[0=0,Fn.func 63=Fn.func 63,0=0,0=0∧k+1=k+1∧nZ=none,0=0,cl=cl,es=es,(es.all fun e=>a8 e.fst&&a8 e.snd.fst)=true,(match false with | true=>some 0 | false=>List.lookup 1 [(1,1),(2,2),(3,3),(4,6)])=some 1,cl=cl,seen++[(mI e).snd.2]=seen++[e.2],cl=cl,m++w=m',m'.all ab=true,((List.take 1 (List.drop 0 (aX (List.replicate 1 (List.map SV.v [Value.string ⟨⟨[]⟩⟩])).flatten 0 [SV.v (Value.string e.fst.1)]))=w∧w.length=1*1)∧1≠0∧(2*(k+1)+1024)*16≤140737488355328)∧List.take (k*1) m=m∧m.length=k*1∧w.all SV.flat=true,true=true]:=by kernel_rfl
theorem G1 (es:List (SV × SV × Nat)) (cl:Nat) (seen:List Nat):ax dV 38 60 (Gi es cl seen) [(1000,.b true)] (.slice none 0 0)=[Value.slice none 0 0=Value.slice none 0 0,Value.slice none 0 0=Value.slice none 0 0∧Value.func (Fn.func 40) { toList:=[]:Array Value } { toList:=[]:Array Value }=Value.func (Fn.func 40) { toList:=[]:Array Value } { toList:=[]:Array Value }]:=by kernel_rfl
theorem Ha (es:List (SV × SV × Nat)) (cl:Nat) (seen:List Nat) (m m':List SV) (k:Nat):bR dV 38 60 (Gn es cl seen m k) [(1000,.b true)] (.sl 4 0 k none) 4 (.row m' 9 (0,0) (some 1))=[0=0∧k=k∧nZ=none,strs (bu (bh m))=m',m'.all ab=true,m=strs (bh m)∧k=(bh m).length∧gi (bh m)∧9=9∧(0,0)=(0,0)∧1=1∧Value.func (Fn.func 40) { toList:=[]:Array Value } { toList:=[]:Array Value }=Value.func (Fn.func 40) { toList:=[]:Array Value } { toList:=[]:Array Value }]:=by kernel_rfl
def HY:SV:=.func (.func 36) [] [.ptr 2 0,.ptr 3 0]
noncomputable def y8 (es:List (SV × SV × Nat)) (cl:Nat):SM:=(bC dV 38 [.ptr 0 0,HY] (bO 6 4 0 [sI,zf es cl,cD [],cD []])).getD dC
noncomputable def F5:List SI:=dn dV 2 60 (y8 [] 0) [(1000,.b true)]
noncomputable def pI (x:SV):SF:={ fn:=38,tm:=eO 27 5 ([.ptr 0 0,HY,.aJ,.aJ,x,.aJ,.aJ,.aJ,.aJ,.aJ,.aJ,.aJ,.ptr 4 0]++List.replicate 14 .aJ),todo:=F5,defers:=[],ret:=false,kind:=.normal,ro:=none }
def qB (es:List (SV × SV × Nat)) (cl:Nat) (seen:List Nat):List (Option (SO × Bool)):=[sI,zf es cl,cD [],cD [],some (.miter (some 1) cl seen cl,true)]
def qy (es:List (SV × SV × Nat)) (cl:Nat) (seen:List Nat) (m:List SV):List (Option (SO × Bool)):=[sI,zf es cl,cD [],cD [],some (.miter (some 1) cl seen cl,true),oa m]
noncomputable def Gt (es:List (SV × SV × Nat)) (cl:Nat) (seen:List Nat):SM:=SM.at (pI aK) 6 (qB es cl seen)
noncomputable def Ft (es:List (SV × SV × Nat)) (cl:Nat) (seen:List Nat) (m:List SV) (k:Nat):SM:=SM.at (pI (.sl 5 0 k none)) 6 (qy es cl seen m)
noncomputable def rO (es:List (SV × SV × Nat)) (cl:Nat) (seen:List Nat):SM:=(po dV (kM dV) 30 ((Gt es cl seen).with [(1000,.b true)])).getD dC
noncomputable def B6 (es:List (SV × SV × Nat)) (cl:Nat) (seen:List Nat) (e:SV × SV × Nat):SM:=(mj dV (rO es cl seen) e).getD dC
noncomputable def E5 (es:List (SV × SV × Nat)) (cl:Nat) (seen:List Nat):SM:=(my dV (rO es cl seen)).getD dC
theorem CO (es:List (SV × SV × Nat)) (cl:Nat) (seen:List Nat):po dV (kM dV) 30 ((Gt es cl seen).with [(1000,.b true)])=some (rO es cl seen):=by kernel_rfl
theorem Gh (es:List (SV × SV × Nat)) (cl:Nat) (seen:List Nat):p9 dV (rO es cl seen)=some (4,1,cl,seen,cl,es,cl):=by kernel_rfl
theorem Dx (es:List (SV × SV × Nat)) (cl:Nat) (seen:List Nat):(rO es cl seen).mem.obl=[]:=by kernel_rfl
theorem FE (es:List (SV × SV × Nat)) (cl:Nat) (seen:List Nat) (e:SV × SV × Nat):mj dV (rO es cl seen) e=some (B6 es cl seen e):=by kernel_rfl
theorem Fm (es:List (SV × SV × Nat)) (cl:Nat) (seen:List Nat) (e:SV × SV × Nat):(B6 es cl seen e).mem.obl=[]:=by kernel_rfl
theorem FO (es:List (SV × SV × Nat)) (cl:Nat) (seen:List Nat):my dV (rO es cl seen)=some (E5 es cl seen):=by kernel_rfl
theorem FK (es:List (SV × SV × Nat)) (cl:Nat) (seen:List Nat):(E5 es cl seen).mem.obl=[]:=by kernel_rfl
def FI (e:cg):List (Nat × gX):=[(0,.b true),(1,.ent (.v (.string e.1.p)) (cU e))]
noncomputable def FU (es:List (SV × SV × Nat)) (cl:Nat) (seen:List Nat) (e:cg) (d:Bool):SM:=bq dV 36 60 (B6 es cl seen (mI e)) (FI e) (.v (.bool d))
noncomputable def sN (es:List (SV × SV × Nat)) (cl:Nat) (seen:List Nat) (m:List SV) (k:Nat):SM:=(po dV (kM dV) 30 ((Ft es cl seen m k).with [(1000,.b true)])).getD dC
noncomputable def BK (es:List (SV × SV × Nat)) (cl:Nat) (seen:List Nat) (m:List SV) (k:Nat) (e:SV × SV × Nat):SM:=(mj dV (sN es cl seen m k) e).getD dC
noncomputable def Fp (es:List (SV × SV × Nat)) (cl:Nat) (seen:List Nat) (m:List SV) (k:Nat):SM:=(my dV (sN es cl seen m k)).getD dC
theorem Ex (es:List (SV × SV × Nat)) (cl:Nat) (seen:List Nat) (m:List SV) (k:Nat):po dV (kM dV) 30 ((Ft es cl seen m k).with [(1000,.b true)])=some (sN es cl seen m k):=by kernel_rfl
theorem Fz (es:List (SV × SV × Nat)) (cl:Nat) (seen:List Nat) (m:List SV) (k:Nat):p9 dV (sN es cl seen m k)=some (4,1,cl,seen,cl,es,cl):=by kernel_rfl
theorem Cr (es:List (SV × SV × Nat)) (cl:Nat) (seen:List Nat) (m:List SV) (k:Nat):(sN es cl seen m k).mem.obl=[]:=by kernel_rfl
theorem E3 (es:List (SV × SV × Nat)) (cl:Nat) (seen:List Nat) (m:List SV) (k:Nat) (e:SV × SV × Nat):mj dV (sN es cl seen m k) e=some (BK es cl seen m k e):=by kernel_rfl
theorem Gv (es:List (SV × SV × Nat)) (cl:Nat) (seen:List Nat) (m:List SV) (k:Nat) (e:SV × SV × Nat):(BK es cl seen m k e).mem.obl=[]:=by kernel_rfl
theorem Gm (es:List (SV × SV × Nat)) (cl:Nat) (seen:List Nat) (m:List SV) (k:Nat):my dV (sN es cl seen m k)=some (Fp es cl seen m k):=by kernel_rfl
theorem Ga (es:List (SV × SV × Nat)) (cl:Nat) (seen:List Nat) (m:List SV) (k:Nat):(Fp es cl seen m k).mem.obl=[]:=by kernel_rfl
def Fj (e:cg):List (Nat × gX):=[(0,.b true),(1,.ent (.v (.string e.1.p)) (cU e))]
noncomputable def FJ (es:List (SV × SV × Nat)) (cl:Nat) (seen:List Nat) (m:List SV) (k:Nat) (e:cg) (d:Bool):SM:=bq dV 36 60 (BK es cl seen m k (mI e)) (Fj e) (.v (.bool d))
theorem Mw (es:List (SV × SV × Nat)) (cl:Nat):reach dV 2 60 (y8 es cl) [(1000,.b true)] [(0,0),(1,1),(2,2),(3,3),(4,4)] [1] (pI aK) 6 (qB es cl [])=[0=0,Fn.func 36=Fn.func 36,0=0,0=0,Value.slice none 0 0=Value.slice none 0 0,0=0,cl=cl,es=es,(es.all fun e=>a8 e.fst&&a8 e.snd.fst)=true,(match false with | true=>some 0 | false=>List.lookup 1 [(1,1),(2,2),(3,3),(4,4)])=some 1,cl=cl,([]:List Nat)=[],cl=cl]:=by kernel_rfl
theorem LW (es:List (SV × SV × Nat)) (cl:Nat) (seen:List Nat) (e:cg):bI dV 36 60 (B6 es cl seen (mI e)) (FI e)=[∃ stamp b,(seen++[(mI e).snd.snd]).getLast?=some stamp∧cl=cl∧List.find? (fun e=>e.snd.snd.beq stamp) es=some (SV.v (Value.string e.fst.p),cU e,b),true=true]:=by kernel_rfl
theorem Lw (es:List (SV × SV × Nat)) (cl:Nat) (seen:List Nat) (e:cg) (d:Bool):bE dV 36 60 (B6 es cl seen (mI e)) (FI e) (.v (.bool d))=[∃ stamp b,(seen++[(mI e).snd.snd]).getLast?=some stamp∧cl=cl∧List.find? (fun e=>e.snd.snd.beq stamp) es=some (SV.v (Value.string e.fst.p),cU e,b),true=true]:=by kernel_rfl
theorem LI (es:List (SV × SV × Nat)) (cl:Nat) (seen:List Nat) (e:cg):reach dV 2 60 (FU es cl seen e false) (ff [0] false) [(0,0),(1,1),(2,2),(3,3),(4,4)] [1] (pI aK) 6 (qB es cl (seen++[e.2]))=[0=0,Fn.func 36=Fn.func 36,0=0,0=0,Value.slice none 0 0=Value.slice none 0 0,0=0,cl=cl,es=es,(es.all fun e=>a8 e.fst&&a8 e.snd.fst)=true,(match false with | true=>some 0 | false=>List.lookup 1 [(1,1),(2,2),(3,3),(4,4)])=some 1,cl=cl,seen++[(mI e).snd.2]=seen++[e.2],cl=cl,false=false]:=by kernel_rfl
theorem Lo (es:List (SV × SV × Nat)) (cl:Nat) (seen:List Nat) (e:cg) (m':List SV):reach dV 2 60 (FU es cl seen e true) (ff [0] true++ff [1] false) [(0,0),(1,1),(2,2),(3,3),(4,4),(5,6)] [1,5] (pI (.sl 5 0 1 none)) 6 (qy es cl (seen++[e.2]) m')=[0=0,Fn.func 36=Fn.func 36,0=0,0=0,0=0∧1=1∧nZ=none,0=0,cl=cl,es=es,(es.all fun e=>a8 e.fst&&a8 e.snd.fst)=true,(match false with | true=>some 0 | false=>List.lookup 1 [(1,1),(2,2),(3,3),(4,4),(5,6)])=some 1,cl=cl,seen++[(mI e).snd.2]=seen++[e.2],cl=cl,[]++List.take 1 (List.drop 0 (aX (List.replicate 1 (List.map SV.v [Value.string ⟨⟨[]⟩⟩])).flatten 0 [SV.v (Value.string e.fst.1)]))=m',m'.all ab=true,false=false,true=true]:=by kernel_rfl
theorem Lx (es:List (SV × SV × Nat)) (cl:Nat) (seen:List Nat) (m:List SV) (k:Nat) (e:cg):bI dV 36 60 (BK es cl seen m k (mI e)) (Fj e)=[∃ stamp b,(seen++[(mI e).snd.snd]).getLast?=some stamp∧cl=cl∧List.find? (fun e=>e.snd.snd.beq stamp) es=some (SV.v (Value.string e.fst.p),cU e,b),true=true]:=by kernel_rfl
theorem Jp (es:List (SV × SV × Nat)) (cl:Nat) (seen:List Nat) (m:List SV) (k:Nat) (e:cg) (d:Bool):bE dV 36 60 (BK es cl seen m k (mI e)) (Fj e) (.v (.bool d))=[∃ stamp b,(seen++[(mI e).snd.snd]).getLast?=some stamp∧cl=cl∧List.find? (fun e=>e.snd.snd.beq stamp) es=some (SV.v (Value.string e.fst.p),cU e,b),true=true]:=by kernel_rfl
theorem JZ (es:List (SV × SV × Nat)) (cl:Nat) (seen:List Nat) (m:List SV) (k:Nat) (e:cg):reach dV 2 60 (FJ es cl seen m k e false) (ff [0] false) [(0,0),(1,1),(2,2),(3,3),(4,4),(5,5)] [1,5] (pI (.sl 5 0 k none)) 6 (qy es cl (seen++[e.2]) m)=[0=0,Fn.func 36=Fn.func 36,0=0,0=0,0=0∧k=k∧nZ=none,0=0,cl=cl,es=es,(es.all fun e=>a8 e.fst&&a8 e.snd.fst)=true,(match false with | true=>some 0 | false=>List.lookup 1 [(1,1),(2,2),(3,3),(4,4),(5,5)])=some 1,cl=cl,seen++[(mI e).snd.2]=seen++[e.2],cl=cl,m=m,m.all ab=true,false=false]:=by kernel_rfl
theorem LO (es:List (SV × SV × Nat)) (cl:Nat) (seen:List Nat) (m w m':List SV) (k:Nat) (e:cg):reach dV 2 60 (FJ es cl seen m k e true) [(0,.b true),(1,.app m w)] [(0,0),(1,1),(2,2),(3,3),(4,4),(5,7)] [1,5] (pI (.sl 5 0 (k+1) none)) 6 (qy es cl (seen++[e.2]) m')=[0=0,Fn.func 36=Fn.func 36,0=0,0=0,0=0∧k+1=k+1∧nZ=none,0=0,cl=cl,es=es,(es.all fun e=>a8 e.fst&&a8 e.snd.fst)=true,(match false with | true=>some 0 | false=>List.lookup 1 [(1,1),(2,2),(3,3),(4,4),(5,7)])=some 1,cl=cl,seen++[(mI e).snd.2]=seen++[e.2],cl=cl,m++w=m',m'.all ab=true,((List.take 1 (List.drop 0 (aX (List.replicate 1 (List.map SV.v [Value.string ⟨⟨[]⟩⟩])).flatten 0 [SV.v (Value.string e.fst.1)]))=w∧w.length=1*1)∧1≠0∧(2*(k+1)+1024)*16≤140737488355328)∧List.take (k*1) m=m∧m.length=k*1∧w.all SV.flat=true,true=true]:=by kernel_rfl
theorem GU (es:List (SV × SV × Nat)) (cl:Nat) (seen:List Nat):ax dV 38 60 (E5 es cl seen) [(1000,.b true)] (.slice none 0 0)=[Value.slice none 0 0=Value.slice none 0 0,Value.slice none 0 0=Value.slice none 0 0∧Value.func (Fn.func 40) { toList:=[]:Array Value } { toList:=[]:Array Value }=Value.func (Fn.func 40) { toList:=[]:Array Value } { toList:=[]:Array Value }]:=by kernel_rfl
theorem Hn (es:List (SV × SV × Nat)) (cl:Nat) (seen:List Nat) (m m':List SV) (k:Nat):bR dV 38 60 (Fp es cl seen m k) [(1000,.b true)] (.sl 5 0 k none) 5 (.row m' 9 (0,0) (some 1))=[0=0∧k=k∧nZ=none,strs (bu (bh m))=m',m'.all ab=true,m=strs (bh m)∧k=(bh m).length∧gi (bh m)∧9=9∧(0,0)=(0,0)∧1=1∧Value.func (Fn.func 40) { toList:=[]:Array Value } { toList:=[]:Array Value }=Value.func (Fn.func 40) { toList:=[]:Array Value } { toList:=[]:Array Value }]:=by kernel_rfl
def bX (b:Nat):Value:=.pointer (some ⟨b,0,none⟩)
def xx (e:cg):MapEntry:={ key:=.string e.1.p,val:=.agg #[.int .i64 e.1.k,.slice e.1.a e.1.l e.1.c],born:=e.2 }
theorem nr {ν:aU}:∀ E:List cg,dY ν (E.map mI) (E.map xx)
 | []=>rfl
 | e::E=>⟨xx e,E.map xx,rfl,VR.ah.2 rfl,VR.cW.2 ⟨_,rfl,ay.lits ν [.int .i64 e.1.k,.slice e.1.a e.1.l e.1.c]⟩,rfl,nr E⟩
theorem qM {ν:aU}:∀ {E:List cg} {l:List MapEntry},dY ν (E.map mI) l→l=E.map xx
 | [],_,h=>h
 | e::E,_,h=>by
  obtain ⟨z,zs,rfl,h1,h2,h3,h4⟩:=h
  have e1:z.key=.string e.1.p:=VR.ah.1 h1
  obtain ⟨a,hq,ha⟩:=VR.cW.1 h2
  have e2:a=[.int .i64 e.1.k,.slice e.1.a e.1.l e.1.c]:=eF ha (ay.lits ν [.int .i64 e.1.k,.slice e.1.a e.1.l e.1.c])
  subst e2
  rw [qM h4,List.map_cons]
  congr 1
  cases z;simp only at e1 hq h3;subst e1 hq;rw [← h3];rfl
structure ky (w:World) (b m:Nat) (E:List cg) (cl:Nat):Prop where
 row:w.heap[b]?=some (.cells #[.map (some m)] 63 (0,0))
 map:w.heap[m]?=some (.map (E.map xx).toArray cl)
theorem yd {E:List cg} (hb:(E.map fun e=>e.2).Nodup) {x:cg} (hx:x∈E) {seen:List Nat} (hs:seen.contains x.2=false):(E.filter fun y=>(seen++[x.2]).contains y.2).Perm ((E.filter fun y=>seen.contains y.2)++[x]):=by
 induction E with
 | nil=>cases hx
 | cons y E ih=>
  rw [List.map_cons,List.nodup_cons] at hb
  have hc:∀ z:cg,(seen++[x.2]).contains z.2=(seen.contains z.2||(z.2==x.2)):=fun z=>by
   rw [Bool.eq_iff_iff]
   simp [List.contains_iff_mem,Bool.or_eq_true]
  by_cases hyx:y.2=x.2
  ·have hyE:∀ z∈E,(z.2==x.2)=false:=fun z hz=>by
    rw [beq_eq_false_iff_ne];intro h
    exact hb.1 (List.mem_map.2 ⟨z,hz,by rw [h,hyx]⟩)
   have hye:y=x:=by
    rcases List.mem_cons.1 hx with h | h
    ·exact h.symm
    ·exact absurd (List.mem_map.2 ⟨x,h,hyx.symm⟩) hb.1
   subst hye
   have h1:(E.filter fun z=>(seen++[y.2]).contains z.2)=E.filter fun z=>seen.contains z.2:=List.filter_congr fun z hz=>by rw [hc z,hyE z hz,Bool.or_false]
   rw [List.filter_cons_of_pos (by rw [hc y];simp),List.filter_cons_of_neg (by simp only [hs];decide),h1]
   exact List.perm_append_comm (l₁:=[y])
  ·have hxE:x∈E:=by
    rcases List.mem_cons.1 hx with h | h
    ·exact absurd (by rw [h]) hyx
    ·exact h
   have ih:=ih hb.2 hxE
   have hcy:(seen++[x.2]).contains y.2=seen.contains y.2:=by rw [hc y,beq_eq_false_iff_ne.2 hyx,Bool.or_false]
   cases hq:seen.contains y.2
   ·rw [List.filter_cons_of_neg (by rw [hcy,hq];decide),List.filter_cons_of_neg (by rw [hq];decide)];exact ih
   ·rw [List.filter_cons_of_pos (by rw [hcy,hq]),List.filter_cons_of_pos (by rw [hq])]
    exact ih.cons y
def j4 (E:List cg) (D:ByteArray→Bool) (seen:List Nat) (got:List ByteArray):Prop:=got.Perm (((E.filter fun y=>seen.contains y.2).map fun e=>e.1.p).filter D)
theorem j4.start {E:List cg} {D:ByteArray→Bool}:j4 E D [] []:=by
 have:(E.filter fun y=>([]:List Nat).contains y.2)=[]:=List.filter_eq_nil_iff.2 fun y _=>by simp
 unfold j4
 rw [this];exact List.Perm.refl _
theorem j4.next {E:List cg} {D:ByteArray→Bool} {seen:List Nat} {got:List ByteArray} (h:j4 E D seen got) (hb:(E.map fun e=>e.2).Nodup) {x:cg} (hx:x∈E) (hs:seen.contains x.2=false):j4 E D (seen++[x.2]) (got++if D x.1.p=true then [x.1.p] else []):=by
 have h1:=((yd hb hx hs).map fun e=>e.1.p).filter D
 rw [List.map_append,List.filter_append] at h1
 refine List.Perm.trans ?_ h1.symm
 refine List.Perm.append h ?_
 cases hd:D x.1.p <;> simp [hd]
theorem j4.all {E:List cg} {D:ByteArray→Bool} {seen:List Nat} {got:List ByteArray} (h:j4 E D seen got) (ha:∀ e∈E,seen.contains e.2=true):got.Perm ((E.map fun e=>e.1.p).filter D):=by
 have:(E.filter fun y=>seen.contains y.2)=E:=List.filter_eq_self.2 ha
 unfold j4 at h
 rw [this] at h;exact h
theorem j4.len {E:List cg} {D:ByteArray→Bool} {seen:List Nat} {got:List ByteArray} (h:j4 E D seen got):got.length≤E.length:=by
 rw [h.length_eq]
 refine Nat.le_trans (List.length_filter_le _ _) ?_
 rw [List.length_map];exact List.length_filter_le _ _
theorem j4.size {E:List cg} {cl:Nat} {D:ByteArray→Bool} {seen:List Nat} {got:List ByteArray} (h:j4 E D seen got) (hB:dG E cl):∀ s∈got,s.size≤1000000000:=fun s hs=>by
 obtain ⟨e,he,rfl⟩:=List.mem_map.1 (List.mem_filter.1 (h.mem_iff.1 hs)).1
 exact hB.size e (List.mem_filter.1 he).1
theorem gx {l m:List ByteArray} (h:l.Perm m):bu l=bu m:=xn (ks m) ((bB m).trans h.symm)
def zk (w0:World) (l:List ByteArray) (e:Ending) (w':World):Prop:=Below w0.heap.size w0 w'∧∃ v,e=.returned v∧((l=[]∧v=.slice none 0 0)∨(l≠[]∧cy w0 w' v (l.map Value.string) l.length 1 9))
def A9 (W:World) (x1:Nat) (D:ByteArray→Bool):Prop:=∀ w,W.hp.Sub w.hp→∀ q:ByteArray,q.size≤1000000000→Calls Try.prog 63 #[.string q,bX x1] w fun e w'=>Below w.heap.size w w'∧e=.returned (.bool (D q))
section
variable {W:World} {cs0:List Frame} {M:Own} {ν:aU} {x1:Nat} {D:ByteArray→Bool} {E:List cg} {cl:Nat}
theorem Ao (hm:MX W) (hM:∀ z,¬ M z) (hp:A9 W x1 D) (hν2:ν 2=some (x1,0)) {S:SM} {q:ByteArray} (hq:q.size≤1000000000) {o:List (Nat × gX)} {H:Hp} {M1:Own} {w1:World} (hk:Kept W.hp M W H M1 w1) {R:Ending→World→Prop}
  (h1:ak (bI dV 63 60 S o)) (h2:er dV 63 60 S o=dm dV 63 [.v (.string q),.ptr 2 0] .normal) (h3:ak (bE dV 63 60 S o (.v (.bool (D q)))))
  (nx:∀ H' M2 w2,Kept W.hp M W H' M2 w2→af dV M2 w2 cs0 38 R ν (bq dV 63 60 S o (.v (.bool (D q))))):
  af dV M1 w1 cs0 38 R ν S:=by
 refine af.eH (qk hM hk.base hm) hk (n:=60) (g:=63) (o:=o) (args:=[.v (.string q),.ptr 2 0]) h1 h2 fun ν' w a hle hsub hgr ha=>?_
 obtain ⟨y0,as0,rfl,q0,ha⟩:=ha.cons_inv
 obtain ⟨y1,as1,rfl,q1,ha⟩:=ha.cons_inv
 obtain rfl:=ha.aB
 obtain rfl:=VR.ah.1 q0
 obtain ⟨bb,hbb,rfl⟩:=VR.aC.1 q1
 have hbb:=hbb.symm.trans (hle 2 (x1,0) hν2)
 cases hbb
 exact (hp w (hk.sub0.trans hsub) q hq).mono fun e w' ⟨hB,he⟩=>⟨hB,_,he,fun M2 hK2=>⟨h3,nx _ M2 w' hK2⟩⟩
theorem wS (hm:MX W) (hM:∀ z,¬ M z) (hB:dG E cl) {seen:List Nat} {H:Hp} {M1:Own} {w1:World} (hk:Kept W.hp M W H M1 w1) {R:Ending→World→Prop}
  (hend:(∀ e∈E,seen.contains e.2=true)→af dV M1 w1 cs0 38 R ν (Gi (E.map mI) cl seen)) (hone:∀ x∈E,seen.contains x.2=false→af dV M1 w1 cs0 38 R ν (Bx (E.map mI) cl seen (mI x))):
  af dV M1 w1 cs0 38 R ν (Fv (E.map mI) cl seen):=by
 have K:=qk hM hk.base hm
 refine af.go K (Da (E.map mI) cl seen) (by unfold SH.ob;rw [EJ];trivial) ?_
 refine af.next K (Fh (E.map mI) cl seen) ?_ (fun e he hs=>?_) fun hall=>?_
 ·cases he:(!seen.isEmpty&&!(E.map mI).isEmpty&&(E.map mI).all fun e=>Nat.ble cl e.2.2)
  ·rfl
  ·rw [Bool.and_eq_true,Bool.and_eq_true,List.all_eq_true] at he
   obtain ⟨⟨_,h2⟩,h3⟩:=he
   cases hE:E with
   | nil=>rw [hE] at h2;cases h2
   | cons x E'=>
    have hx:x∈E:=by rw [hE];exact List.mem_cons_self
    have h4:=Nat.le_of_ble_eq_true (h3 (mI x) (List.mem_map.2 ⟨x,hx,rfl⟩))
    have h5:=hB.born x hx
    have h4':cl≤x.2:=h4
    omega
 ·obtain ⟨x,hx,rfl⟩:=List.mem_map.1 he
  exact ⟨_,E7 (E.map mI) cl seen (mI x),by unfold SH.ob;rw [FR];trivial,hone x hx hs⟩
 ·refine ⟨_,GI (E.map mI) cl seen,by unfold SH.ob;rw [Fo];trivial,hend fun x hx=>?_⟩
  cases hc:seen.contains x.2
  ·have h1:=hall (mI x) (List.mem_map.2 ⟨x,hx,rfl⟩) hc
   have h2:Nat.blt x.2 cl=false:=h1
   have h3:=hB.born x hx
   have h4:Nat.blt x.2 cl=true:=by simp [Nat.blt_eq];omega
   rw [h4] at h2;cases h2
  ·rfl
theorem xS (hm:MX W) (hM:∀ z,¬ M z) (hB:dG E cl) {seen:List Nat} {got:List ByteArray} {H:Hp} {M1:Own} {w1:World} (hk:Kept W.hp M W H M1 w1) {R:Ending→World→Prop}
  (hend:(∀ e∈E,seen.contains e.2=true)→af dV M1 w1 cs0 38 R ν (Gn (E.map mI) cl seen (strs got) got.length)) (hone:∀ x∈E,seen.contains x.2=false→af dV M1 w1 cs0 38 R ν (BR (E.map mI) cl seen (strs got) got.length (mI x))):
  af dV M1 w1 cs0 38 R ν (Gu (E.map mI) cl seen (strs got) got.length):=by
 have K:=qk hM hk.base hm
 refine af.go K (CN (E.map mI) cl seen (strs got) got.length) (by unfold SH.ob;rw [Ei];trivial) ?_
 refine af.next K (F9 (E.map mI) cl seen (strs got) got.length) ?_ (fun e he hs=>?_) fun hall=>?_
 ·cases he:(!seen.isEmpty&&!(E.map mI).isEmpty&&(E.map mI).all fun e=>Nat.ble cl e.2.2)
  ·rfl
  ·rw [Bool.and_eq_true,Bool.and_eq_true,List.all_eq_true] at he
   obtain ⟨⟨_,h2⟩,h3⟩:=he
   cases hE:E with
   | nil=>rw [hE] at h2;cases h2
   | cons x E'=>
    have hx:x∈E:=by rw [hE];exact List.mem_cons_self
    have h4:=Nat.le_of_ble_eq_true (h3 (mI x) (List.mem_map.2 ⟨x,hx,rfl⟩))
    have h5:=hB.born x hx
    have h4':cl≤x.2:=h4
    omega
 ·obtain ⟨x,hx,rfl⟩:=List.mem_map.1 he
  exact ⟨_,Fg (E.map mI) cl seen (strs got) got.length (mI x),by unfold SH.ob;rw [FA];trivial,hone x hx hs⟩
 ·refine ⟨_,Fk (E.map mI) cl seen (strs got) got.length,by unfold SH.ob;rw [GH];trivial,hend fun x hx=>?_⟩
  cases hc:seen.contains x.2
  ·have h1:=hall (mI x) (List.mem_map.2 ⟨x,hx,rfl⟩) hc
   have h2:Nat.blt x.2 cl=false:=h1
   have h3:=hB.born x hx
   have h4:Nat.blt x.2 cl=true:=by simp [Nat.blt_eq];omega
   rw [h4] at h2;cases h2
  ·rfl
theorem CJ (hm:MX W) (hM:∀ z,¬ M z) (hB:dG E cl) (few:E.length≤1000) (hp:A9 W x1 D) (hν2:ν 2=some (x1,0)) (hν:∀ i b,ν i=some b→i=0∨i=1∨i=2):∀ (n:Nat) (seen:List Nat) (got:List ByteArray),(E.filter fun x=>!seen.contains x.2).length≤n→j4 E D seen got→got≠[]→∀ H M1 w1,Kept W.hp M W H M1 w1→
  af dV M1 w1 cs0 38 (zk W (bu ((E.map fun e=>e.1.p).filter D))) ν (Gu (E.map mI) cl seen (strs got) got.length):=by
 intro n
 induction n with
 | zero=>
  intro seen got hn hg hne H M1 w1 hk
  refine xS hm hM hB hk (fun hall=>?_) fun x hx hs=>?_
  rotate_left
  ·have:x∈E.filter fun x=>!seen.contains x.2:=List.mem_filter.2 ⟨hx,by show (!seen.contains x.2)=true;rw [hs];rfl⟩
   rw [List.length_eq_zero_iff.1 (Nat.le_zero.1 hn)] at this
   cases this
  ·have hpm:=hg.all hall
   have hso:=gx hpm
   have hln:(bu got).length=got.length:=(bB got).length_eq
   have hgl:=hg.len
   have hsne:bu got≠[]:=fun h=>hne (List.length_eq_zero_iff.1 (by rw [← hln,h];rfl))
   refine af.bR (qk hM hk.base hm) (n:=60) (o:=[(1000,.b true)]) (x:=.sl 4 0 got.length none) (i:=4) (so:=.row (strs (bu got)) 9 (0,0) (some 1)) (by
    rw [Ha]
    simp only [ak,bS,au,and_self,and_true,true_and]
    exact ⟨hne,by omega,hg.size hB⟩) fun ν' w' y b1 ob hv hb ho hor hw hB'=>?_
   obtain ⟨M3,w3,M4,s',hBb,hr⟩:=hB'
   have hn:W.heap.size≤b1.1:=by
    rcases hk.base.own _ hw with h | h
    ·exact h
    ·exact absurd h (hM _)
   rw [← hso]
   exact ⟨aI hM (hk.base.trans hBb) hr,y,rfl,.inr ⟨hsne,by rw [hln];exact cy.e8 hv hb ho hor hn fun zs hz=>fD hz⟩⟩
 | succ n ih=>
  intro seen got hn hg hne H M1 w1 hk
  refine xS hm hM hB hk (fun hall=>?_) fun x hx hs=>?_
  ·have hpm:=hg.all hall
   have hso:=gx hpm
   have hln:(bu got).length=got.length:=(bB got).length_eq
   have hgl:=hg.len
   have hsne:bu got≠[]:=fun h=>hne (List.length_eq_zero_iff.1 (by rw [← hln,h];rfl))
   refine af.bR (qk hM hk.base hm) (n:=60) (o:=[(1000,.b true)]) (x:=.sl 4 0 got.length none) (i:=4) (so:=.row (strs (bu got)) 9 (0,0) (some 1)) (by
    rw [Ha]
    simp only [ak,bS,au,and_self,and_true,true_and]
    exact ⟨hne,by omega,hg.size hB⟩) fun ν' w' y b1 ob hv hb ho hor hw hB'=>?_
   obtain ⟨M3,w3,M4,s',hBb,hr⟩:=hB'
   have hn:W.heap.size≤b1.1:=by
    rcases hk.base.own _ hw with h | h
    ·exact h
    ·exact absurd h (hM _)
   rw [← hso]
   exact ⟨aI hM (hk.base.trans hBb) hr,y,rfl,.inr ⟨hsne,by rw [hln];exact cy.e8 hv hb ho hor hn fun zs hz=>fD hz⟩⟩
  ·have hn2:=lY hx hs hn
   have hfb:=jT hB.borns hx
   have hfx:∃ (stamp:Nat) (b:Nat),(seen++[(mI x).snd.snd]).getLast?=some stamp∧List.find? (fun e=>e.snd.snd.beq stamp) (E.map mI)=some (SV.v (Value.string x.fst.p),cU x,b):=⟨x.2,x.2,iw,hfb⟩
   have hcl:=cH E
   have hgn:=hg.next hB.borns hx hs
   have hsz:=hB.size x hx
   have hgl:=hg.len
   refine Ao hm hM hp hν2 hsz hk (o:=F0 x) ?_ (by kernel_rfl) ?_ fun H' M2 w2 hk2=>?_
   ·rw [Lq];simp only [ak,and_self,and_true,true_and];exact hfx
   ·rw [JG];simp only [ak,and_self,and_true,true_and];exact hfx
   ·cases hd:D x.1.p
    ·rw [hd,if_neg (by decide),List.append_nil] at hgn
     refine af.reach (qk hM hk2.base hm) (k:=2) (n:=60) (o:=ff [0] false) (ren:=[(0,0),(1,1),(2,2),(3,3),(4,4)]) (eqs:=[1,4]) (S:=Gr (E.map mI) cl seen (strs got) got.length x false) ?_ (by kernel_rfl) (fun i b h=>by rcases hν i b h with h | h | h <;> rw [h] <;> rfl) (ih (seen++[x.2]) got hn2 hgn hne H' M2 w2 hk2)
     rw [J3]
     simp only [ak,hcl,au,and_self,and_true,true_and]
     repeat' apply And.intro
     all_goals first | rfl | skip
    ·rw [hd,if_pos rfl] at hgn
     have nx:=ih (seen++[x.2]) (got++[x.1.p]) hn2 hgn (by simp) H' M2 w2 hk2
     rw [List.length_append,show ([x.1.p]:List ByteArray).length=1 from rfl] at nx
     refine af.reach (qk hM hk2.base hm) (k:=2) (n:=60) (o:=[(0,.b true),(1,.app (strs got) [.v (.string x.1.p)])]) (ren:=[(0,0),(1,1),(2,2),(3,3),(4,6)]) (eqs:=[1,4]) (S:=Gr (E.map mI) cl seen (strs got) got.length x true) ?_ (by kernel_rfl) (fun i b h=>by rcases hν i b h with h | h | h <;> rw [h] <;> rfl) nx
     rw [Jn]
     simp only [ak,hcl,au,bg,aD,gB,dW,List.all_append,and_self,and_true,true_and]
     repeat' apply And.intro
     all_goals first | rfl | omega | exact List.take_of_length_le (by rw [aD];omega) | skip
theorem DB (hm:MX W) (hM:∀ z,¬ M z) (hB:dG E cl) (few:E.length≤1000) (hp:A9 W x1 D) (hν2:ν 2=some (x1,0)) (hν:∀ i b,ν i=some b→i=0∨i=1∨i=2):∀ (n:Nat) (seen:List Nat),(E.filter fun x=>!seen.contains x.2).length≤n→j4 E D seen []→∀ H M1 w1,Kept W.hp M W H M1 w1→
  af dV M1 w1 cs0 38 (zk W (bu ((E.map fun e=>e.1.p).filter D))) ν (Fv (E.map mI) cl seen):=by
 intro n
 induction n with
 | zero=>
  intro seen hn hg H M1 w1 hk
  refine wS hm hM hB hk (fun hall=>?_) fun x hx hs=>?_
  rotate_left
  ·have:x∈E.filter fun x=>!seen.contains x.2:=List.mem_filter.2 ⟨hx,by show (!seen.contains x.2)=true;rw [hs];rfl⟩
   rw [List.length_eq_zero_iff.1 (Nat.le_zero.1 hn)] at this
   cases this
  ·have hpm:=hg.all hall
   have hso:=gx hpm
   have h0:bu ([]:List ByteArray)=[]:=List.length_eq_zero_iff.1 (bB []).length_eq
   refine af.ax (qk hM hk.base hm) (n:=60) (o:=[(1000,.b true)]) (v:=.slice none 0 0) ?_ fun ν' M3 w3 s' w' _ hB' hr=>⟨aI hM (hk.base.trans hB') hr,_,rfl,.inl ⟨by rw [← hso,h0],rfl⟩⟩
   rw [G1]
   simp only [ak,and_self,and_true,true_and]
 | succ n ih=>
  intro seen hn hg H M1 w1 hk
  refine wS hm hM hB hk (fun hall=>?_) fun x hx hs=>?_
  ·have hpm:=hg.all hall
   have hso:=gx hpm
   have h0:bu ([]:List ByteArray)=[]:=List.length_eq_zero_iff.1 (bB []).length_eq
   refine af.ax (qk hM hk.base hm) (n:=60) (o:=[(1000,.b true)]) (v:=.slice none 0 0) ?_ fun ν' M3 w3 s' w' _ hB' hr=>⟨aI hM (hk.base.trans hB') hr,_,rfl,.inl ⟨by rw [← hso,h0],rfl⟩⟩
   rw [G1]
   simp only [ak,and_self,and_true,true_and]
  ·have hn2:=lY hx hs hn
   have hfb:=jT hB.borns hx
   have hfx:∃ (stamp:Nat) (b:Nat),(seen++[(mI x).snd.snd]).getLast?=some stamp∧List.find? (fun e=>e.snd.snd.beq stamp) (E.map mI)=some (SV.v (Value.string x.fst.p),cU x,b):=⟨x.2,x.2,iw,hfb⟩
   have hcl:=cH E
   have hgn:=hg.next hB.borns hx hs
   have hsz:=hB.size x hx
   refine Ao hm hM hp hν2 hsz hk (o:=GF x) ?_ (by kernel_rfl) ?_ fun H' M2 w2 hk2=>?_
   ·rw [K4];simp only [ak,and_self,and_true,true_and];exact hfx
   ·rw [Ky];simp only [ak,and_self,and_true,true_and];exact hfx
   ·cases hd:D x.1.p
    ·rw [hd,if_neg (by decide)] at hgn
     refine af.reach (qk hM hk2.base hm) (k:=2) (n:=60) (o:=ff [0] false) (ren:=[(0,0),(1,1),(2,2),(3,3)]) (eqs:=[1]) (S:=F8 (E.map mI) cl seen x false) ?_ (by kernel_rfl) (fun i b h=>by rcases hν i b h with h | h | h <;> rw [h] <;> rfl) (ih (seen++[x.2]) hn2 hgn H' M2 w2 hk2)
     rw [KN]
     simp only [ak,hcl,and_self,and_true,true_and]
     repeat' apply And.intro
     all_goals first | rfl | skip
    ·rw [hd,if_pos rfl] at hgn
     have nx:=CJ (cs0:=cs0) hm hM hB few hp hν2 hν n (seen++[x.2]) [x.1.p] hn2 hgn (by simp) H' M2 w2 hk2
     rw [show ([x.1.p]:List ByteArray).length=1 from rfl] at nx
     refine af.reach (qk hM hk2.base hm) (k:=2) (n:=60) (o:=ff [0] true++ff [1] false) (ren:=[(0,0),(1,1),(2,2),(3,3),(4,5)]) (eqs:=[1,4]) (S:=F8 (E.map mI) cl seen x true) ?_ (by kernel_rfl) (fun i b h=>by rcases hν i b h with h | h | h <;> rw [h] <;> rfl) nx
     rw [J5]
     simp only [ak,hcl,and_self,and_true,true_and]
     repeat' apply And.intro
     all_goals first | rfl | skip
end
theorem uU {W:World} {b m x1:Nat} {E:List cg} {cl:Nat} {D:ByteArray→Bool} {cs1:Array Value} {e1:TypeId} {f1:Nat × Nat} (hm:MX W) (hA:ky W b m E cl) (hB:dG E cl) (few:E.length≤1000) (hn:[b,m,x1].Nodup) (hx1:W.heap[x1]?=some (.cells cs1 e1 f1)) (hp:A9 W x1 D):
  Calls Try.prog 38 #[bX b,.func (.func 63) #[] #[bX x1]] W (zk W (bu ((E.map fun e=>e.1.p).filter D))):=by
 have ho:∀ (j:Nat) (o':SO) (b' c':Nat),[SO.row [.map 1] 63 (0,0) none,SO.map (E.map mI) cl,SO.look []][j]?=some o'→[(b,0),(m,0),(x1,0)][j]?=some (b',c')→∃ r,W.heap[b']?=some r∧OR (aE [(b,0),(m,0),(x1,0)]) j o' r:=by
  intro j o' b' c' q1 q2
  match j with
  | 0=>
   simp only [List.getElem?_cons_zero,Option.some.injEq] at q1 q2
   subst q1
   cases q2
   exact ⟨_,hA.row,[.map (some m)],[],rfl,ay.cons (VR.dj.2 ⟨(m,0),rfl,rfl⟩) ay.nil,rfl⟩
  | 1=>
   simp only [List.getElem?_cons_succ,List.getElem?_cons_zero,Option.some.injEq] at q1 q2
   subst q1
   cases q2
   exact ⟨_,hA.map,_,rfl,nr E⟩
  | 2=>
   simp only [List.getElem?_cons_succ,List.getElem?_cons_zero,Option.some.injEq] at q1 q2
   subst q1
   cases q2
   exact ⟨_,hx1,[],_,_,_,rfl,ay.nil,fun k y h=>by simp at h⟩
  | j+3=>simp at q1
 refine aY (E:=dV) rfl (d:=6) (l:=[(b,0),(m,0),(x1,0)]) (os:=[.row [.map 1] 63 (0,0) none,.map (E.map mI) cl,.look []]) rfl (by simp) (by simpa using hn) ho rfl (args:=[.ptr 0 0,Ix]) (a:=[bX b,.func (.func 63) #[] #[bX x1]]) (S0:=zX (E.map mI) cl) (by kernel_rfl) (ay.cons (VR.aC.2 ⟨(b,0),rfl,rfl⟩) (ay.cons ?_ ay.nil)) fun cs0=>?_
 ·exact VR.cX.2 ⟨[],[bX x1],rfl,ay.nil,ay.cons (VR.aC.2 ⟨(x1,0),rfl,rfl⟩) ay.nil⟩
 have hM:∀ z,¬ (aT [(b,0),(m,0),(x1,0)] ([SO.row [.map 1] 63 (0,0) none,SO.map (E.map mI) cl,SO.look []].map fun o=>(o,false))) z:=fun z=>a6 (os:=[SO.row [.map 1] 63 (0,0) none,SO.map (E.map mI) cl,SO.look []])
 have hK0:=Kept.start (H0:=W.hp) (M:=aT [(b,0),(m,0),(x1,0)] ([SO.row [.map 1] 63 (0,0) none,SO.map (E.map mI) cl,SO.look []].map fun o=>(o,false))) (w:=W) (Hp.Sub.refl _) (fun z o _=>hM z) (dh (by
  intro j o' m' b' c' q1 q2
  rw [List.getElem?_map] at q1
  obtain ⟨o2,q3,q4⟩:=Option.map_eq_some_iff.1 q1
  cases q4
  exact ho j o' b' c' q3 q2)) (fun _ h=>h)
 have hν:∀ i b',aE [(b,0),(m,0),(x1,0)] i=some b'→i=0∨i=1∨i=2:=fun i b' h=>by
  match i with
  | 0=>exact .inl rfl
  | 1=>exact .inr (.inl rfl)
  | 2=>exact .inr (.inr (rfl))
  | i+3=>simp [aE] at h
 have nx:=DB (cs0:=cs0) (ν:=aE [(b,0),(m,0),(x1,0)]) hm hM hB few hp rfl hν (E.filter fun x=>!([]:List Nat).contains x.2).length [] (Nat.le_refl _) j4.start W.hp _ W hK0
 refine af.reach (qk hM hK0.base hm) (k:=2) (n:=60) (o:=[(1000,.b true)]) (ren:=[(0,0),(1,1),(2,2),(3,3)]) (eqs:=[1]) (F:=pL aK) (d:=6) (l:=qE (E.map mI) cl []) ?_ (by kernel_rfl) (fun i b h=>by rcases hν i b h with h | h | h <;> rw [h] <;> rfl) nx
 rw [MC]
 simp only [ak,cH,aK,and_self,and_true,true_and]
 repeat' apply And.intro
 all_goals first | rfl | skip
def uh (W:World) (x1 x2:Nat) (D:ByteArray→Bool):Prop:=∀ w,W.hp.Sub w.hp→∀ q:ByteArray,q.size≤1000000000→Calls Try.prog 36 #[.string q,bX x1,bX x2] w fun e w'=>Below w.heap.size w w'∧e=.returned (.bool (D q))
section
variable {W:World} {cs0:List Frame} {M:Own} {ν:aU} {x1 x2:Nat} {D:ByteArray→Bool} {E:List cg} {cl:Nat}
theorem A2 (hm:MX W) (hM:∀ z,¬ M z) (hp:uh W x1 x2 D) (hν2:ν 2=some (x1,0)) (hν3:ν 3=some (x2,0)) {S:SM} {q:ByteArray} (hq:q.size≤1000000000) {o:List (Nat × gX)} {H:Hp} {M1:Own} {w1:World} (hk:Kept W.hp M W H M1 w1) {R:Ending→World→Prop}
  (h1:ak (bI dV 36 60 S o)) (h2:er dV 36 60 S o=dm dV 36 [.v (.string q),.ptr 2 0,.ptr 3 0] .normal) (h3:ak (bE dV 36 60 S o (.v (.bool (D q)))))
  (nx:∀ H' M2 w2,Kept W.hp M W H' M2 w2→af dV M2 w2 cs0 38 R ν (bq dV 36 60 S o (.v (.bool (D q))))):
  af dV M1 w1 cs0 38 R ν S:=by
 refine af.eH (qk hM hk.base hm) hk (n:=60) (g:=36) (o:=o) (args:=[.v (.string q),.ptr 2 0,.ptr 3 0]) h1 h2 fun ν' w a hle hsub hgr ha=>?_
 obtain ⟨y0,as0,rfl,q0,ha⟩:=ha.cons_inv
 obtain ⟨y1,as1,rfl,q1,ha⟩:=ha.cons_inv
 obtain ⟨y2,as2,rfl,q2,ha⟩:=ha.cons_inv
 obtain rfl:=ha.aB
 obtain rfl:=VR.ah.1 q0
 obtain ⟨bb,hbb,rfl⟩:=VR.aC.1 q1
 have hbb:=hbb.symm.trans (hle 2 (x1,0) hν2)
 cases hbb
 obtain ⟨bb,hbb,rfl⟩:=VR.aC.1 q2
 have hbb:=hbb.symm.trans (hle 3 (x2,0) hν3)
 cases hbb
 exact (hp w (hk.sub0.trans hsub) q hq).mono fun e w' ⟨hB,he⟩=>⟨hB,_,he,fun M2 hK2=>⟨h3,nx _ M2 w' hK2⟩⟩
theorem yg (hm:MX W) (hM:∀ z,¬ M z) (hB:dG E cl) {seen:List Nat} {H:Hp} {M1:Own} {w1:World} (hk:Kept W.hp M W H M1 w1) {R:Ending→World→Prop}
  (hend:(∀ e∈E,seen.contains e.2=true)→af dV M1 w1 cs0 38 R ν (E5 (E.map mI) cl seen)) (hone:∀ x∈E,seen.contains x.2=false→af dV M1 w1 cs0 38 R ν (B6 (E.map mI) cl seen (mI x))):
  af dV M1 w1 cs0 38 R ν (Gt (E.map mI) cl seen):=by
 have K:=qk hM hk.base hm
 refine af.go K (CO (E.map mI) cl seen) (by unfold SH.ob;rw [Dx];trivial) ?_
 refine af.next K (Gh (E.map mI) cl seen) ?_ (fun e he hs=>?_) fun hall=>?_
 ·cases he:(!seen.isEmpty&&!(E.map mI).isEmpty&&(E.map mI).all fun e=>Nat.ble cl e.2.2)
  ·rfl
  ·rw [Bool.and_eq_true,Bool.and_eq_true,List.all_eq_true] at he
   obtain ⟨⟨_,h2⟩,h3⟩:=he
   cases hE:E with
   | nil=>rw [hE] at h2;cases h2
   | cons x E'=>
    have hx:x∈E:=by rw [hE];exact List.mem_cons_self
    have h4:=Nat.le_of_ble_eq_true (h3 (mI x) (List.mem_map.2 ⟨x,hx,rfl⟩))
    have h5:=hB.born x hx
    have h4':cl≤x.2:=h4
    omega
 ·obtain ⟨x,hx,rfl⟩:=List.mem_map.1 he
  exact ⟨_,FE (E.map mI) cl seen (mI x),by unfold SH.ob;rw [Fm];trivial,hone x hx hs⟩
 ·refine ⟨_,FO (E.map mI) cl seen,by unfold SH.ob;rw [FK];trivial,hend fun x hx=>?_⟩
  cases hc:seen.contains x.2
  ·have h1:=hall (mI x) (List.mem_map.2 ⟨x,hx,rfl⟩) hc
   have h2:Nat.blt x.2 cl=false:=h1
   have h3:=hB.born x hx
   have h4:Nat.blt x.2 cl=true:=by simp [Nat.blt_eq];omega
   rw [h4] at h2;cases h2
  ·rfl
theorem x9 (hm:MX W) (hM:∀ z,¬ M z) (hB:dG E cl) {seen:List Nat} {got:List ByteArray} {H:Hp} {M1:Own} {w1:World} (hk:Kept W.hp M W H M1 w1) {R:Ending→World→Prop}
  (hend:(∀ e∈E,seen.contains e.2=true)→af dV M1 w1 cs0 38 R ν (Fp (E.map mI) cl seen (strs got) got.length)) (hone:∀ x∈E,seen.contains x.2=false→af dV M1 w1 cs0 38 R ν (BK (E.map mI) cl seen (strs got) got.length (mI x))):
  af dV M1 w1 cs0 38 R ν (Ft (E.map mI) cl seen (strs got) got.length):=by
 have K:=qk hM hk.base hm
 refine af.go K (Ex (E.map mI) cl seen (strs got) got.length) (by unfold SH.ob;rw [Cr];trivial) ?_
 refine af.next K (Fz (E.map mI) cl seen (strs got) got.length) ?_ (fun e he hs=>?_) fun hall=>?_
 ·cases he:(!seen.isEmpty&&!(E.map mI).isEmpty&&(E.map mI).all fun e=>Nat.ble cl e.2.2)
  ·rfl
  ·rw [Bool.and_eq_true,Bool.and_eq_true,List.all_eq_true] at he
   obtain ⟨⟨_,h2⟩,h3⟩:=he
   cases hE:E with
   | nil=>rw [hE] at h2;cases h2
   | cons x E'=>
    have hx:x∈E:=by rw [hE];exact List.mem_cons_self
    have h4:=Nat.le_of_ble_eq_true (h3 (mI x) (List.mem_map.2 ⟨x,hx,rfl⟩))
    have h5:=hB.born x hx
    have h4':cl≤x.2:=h4
    omega
 ·obtain ⟨x,hx,rfl⟩:=List.mem_map.1 he
  exact ⟨_,E3 (E.map mI) cl seen (strs got) got.length (mI x),by unfold SH.ob;rw [Gv];trivial,hone x hx hs⟩
 ·refine ⟨_,Gm (E.map mI) cl seen (strs got) got.length,by unfold SH.ob;rw [Ga];trivial,hend fun x hx=>?_⟩
  cases hc:seen.contains x.2
  ·have h1:=hall (mI x) (List.mem_map.2 ⟨x,hx,rfl⟩) hc
   have h2:Nat.blt x.2 cl=false:=h1
   have h3:=hB.born x hx
   have h4:Nat.blt x.2 cl=true:=by simp [Nat.blt_eq];omega
   rw [h4] at h2;cases h2
  ·rfl
theorem CV (hm:MX W) (hM:∀ z,¬ M z) (hB:dG E cl) (few:E.length≤1000) (hp:uh W x1 x2 D) (hν2:ν 2=some (x1,0)) (hν3:ν 3=some (x2,0)) (hν:∀ i b,ν i=some b→i=0∨i=1∨i=2∨i=3):∀ (n:Nat) (seen:List Nat) (got:List ByteArray),(E.filter fun x=>!seen.contains x.2).length≤n→j4 E D seen got→got≠[]→∀ H M1 w1,Kept W.hp M W H M1 w1→
  af dV M1 w1 cs0 38 (zk W (bu ((E.map fun e=>e.1.p).filter D))) ν (Ft (E.map mI) cl seen (strs got) got.length):=by
 intro n
 induction n with
 | zero=>
  intro seen got hn hg hne H M1 w1 hk
  refine x9 hm hM hB hk (fun hall=>?_) fun x hx hs=>?_
  rotate_left
  ·have:x∈E.filter fun x=>!seen.contains x.2:=List.mem_filter.2 ⟨hx,by show (!seen.contains x.2)=true;rw [hs];rfl⟩
   rw [List.length_eq_zero_iff.1 (Nat.le_zero.1 hn)] at this
   cases this
  ·have hpm:=hg.all hall
   have hso:=gx hpm
   have hln:(bu got).length=got.length:=(bB got).length_eq
   have hgl:=hg.len
   have hsne:bu got≠[]:=fun h=>hne (List.length_eq_zero_iff.1 (by rw [← hln,h];rfl))
   refine af.bR (qk hM hk.base hm) (n:=60) (o:=[(1000,.b true)]) (x:=.sl 5 0 got.length none) (i:=5) (so:=.row (strs (bu got)) 9 (0,0) (some 1)) (by
    rw [Hn]
    simp only [ak,bS,au,and_self,and_true,true_and]
    exact ⟨hne,by omega,hg.size hB⟩) fun ν' w' y b1 ob hv hb ho hor hw hB'=>?_
   obtain ⟨M3,w3,M4,s',hBb,hr⟩:=hB'
   have hn:W.heap.size≤b1.1:=by
    rcases hk.base.own _ hw with h | h
    ·exact h
    ·exact absurd h (hM _)
   rw [← hso]
   exact ⟨aI hM (hk.base.trans hBb) hr,y,rfl,.inr ⟨hsne,by rw [hln];exact cy.e8 hv hb ho hor hn fun zs hz=>fD hz⟩⟩
 | succ n ih=>
  intro seen got hn hg hne H M1 w1 hk
  refine x9 hm hM hB hk (fun hall=>?_) fun x hx hs=>?_
  ·have hpm:=hg.all hall
   have hso:=gx hpm
   have hln:(bu got).length=got.length:=(bB got).length_eq
   have hgl:=hg.len
   have hsne:bu got≠[]:=fun h=>hne (List.length_eq_zero_iff.1 (by rw [← hln,h];rfl))
   refine af.bR (qk hM hk.base hm) (n:=60) (o:=[(1000,.b true)]) (x:=.sl 5 0 got.length none) (i:=5) (so:=.row (strs (bu got)) 9 (0,0) (some 1)) (by
    rw [Hn]
    simp only [ak,bS,au,and_self,and_true,true_and]
    exact ⟨hne,by omega,hg.size hB⟩) fun ν' w' y b1 ob hv hb ho hor hw hB'=>?_
   obtain ⟨M3,w3,M4,s',hBb,hr⟩:=hB'
   have hn:W.heap.size≤b1.1:=by
    rcases hk.base.own _ hw with h | h
    ·exact h
    ·exact absurd h (hM _)
   rw [← hso]
   exact ⟨aI hM (hk.base.trans hBb) hr,y,rfl,.inr ⟨hsne,by rw [hln];exact cy.e8 hv hb ho hor hn fun zs hz=>fD hz⟩⟩
  ·have hn2:=lY hx hs hn
   have hfb:=jT hB.borns hx
   have hfx:∃ (stamp:Nat) (b:Nat),(seen++[(mI x).snd.snd]).getLast?=some stamp∧List.find? (fun e=>e.snd.snd.beq stamp) (E.map mI)=some (SV.v (Value.string x.fst.p),cU x,b):=⟨x.2,x.2,iw,hfb⟩
   have hcl:=cH E
   have hgn:=hg.next hB.borns hx hs
   have hsz:=hB.size x hx
   have hgl:=hg.len
   refine A2 hm hM hp hν2 hν3 hsz hk (o:=Fj x) ?_ (by kernel_rfl) ?_ fun H' M2 w2 hk2=>?_
   ·rw [Lx];simp only [ak,and_self,and_true,true_and];exact hfx
   ·rw [Jp];simp only [ak,and_self,and_true,true_and];exact hfx
   ·cases hd:D x.1.p
    ·rw [hd,if_neg (by decide),List.append_nil] at hgn
     refine af.reach (qk hM hk2.base hm) (k:=2) (n:=60) (o:=ff [0] false) (ren:=[(0,0),(1,1),(2,2),(3,3),(4,4),(5,5)]) (eqs:=[1,5]) (S:=FJ (E.map mI) cl seen (strs got) got.length x false) ?_ (by kernel_rfl) (fun i b h=>by rcases hν i b h with h | h | h | h <;> rw [h] <;> rfl) (ih (seen++[x.2]) got hn2 hgn hne H' M2 w2 hk2)
     rw [JZ]
     simp only [ak,hcl,au,and_self,and_true,true_and]
     repeat' apply And.intro
     all_goals first | rfl | skip
    ·rw [hd,if_pos rfl] at hgn
     have nx:=ih (seen++[x.2]) (got++[x.1.p]) hn2 hgn (by simp) H' M2 w2 hk2
     rw [List.length_append,show ([x.1.p]:List ByteArray).length=1 from rfl] at nx
     refine af.reach (qk hM hk2.base hm) (k:=2) (n:=60) (o:=[(0,.b true),(1,.app (strs got) [.v (.string x.1.p)])]) (ren:=[(0,0),(1,1),(2,2),(3,3),(4,4),(5,7)]) (eqs:=[1,5]) (S:=FJ (E.map mI) cl seen (strs got) got.length x true) ?_ (by kernel_rfl) (fun i b h=>by rcases hν i b h with h | h | h | h <;> rw [h] <;> rfl) nx
     rw [LO]
     simp only [ak,hcl,au,bg,aD,gB,dW,List.all_append,and_self,and_true,true_and]
     repeat' apply And.intro
     all_goals first | rfl | omega | exact List.take_of_length_le (by rw [aD];omega) | skip
theorem Db (hm:MX W) (hM:∀ z,¬ M z) (hB:dG E cl) (few:E.length≤1000) (hp:uh W x1 x2 D) (hν2:ν 2=some (x1,0)) (hν3:ν 3=some (x2,0)) (hν:∀ i b,ν i=some b→i=0∨i=1∨i=2∨i=3):∀ (n:Nat) (seen:List Nat),(E.filter fun x=>!seen.contains x.2).length≤n→j4 E D seen []→∀ H M1 w1,Kept W.hp M W H M1 w1→
  af dV M1 w1 cs0 38 (zk W (bu ((E.map fun e=>e.1.p).filter D))) ν (Gt (E.map mI) cl seen):=by
 intro n
 induction n with
 | zero=>
  intro seen hn hg H M1 w1 hk
  refine yg hm hM hB hk (fun hall=>?_) fun x hx hs=>?_
  rotate_left
  ·have:x∈E.filter fun x=>!seen.contains x.2:=List.mem_filter.2 ⟨hx,by show (!seen.contains x.2)=true;rw [hs];rfl⟩
   rw [List.length_eq_zero_iff.1 (Nat.le_zero.1 hn)] at this
   cases this
  ·have hpm:=hg.all hall
   have hso:=gx hpm
   have h0:bu ([]:List ByteArray)=[]:=List.length_eq_zero_iff.1 (bB []).length_eq
   refine af.ax (qk hM hk.base hm) (n:=60) (o:=[(1000,.b true)]) (v:=.slice none 0 0) ?_ fun ν' M3 w3 s' w' _ hB' hr=>⟨aI hM (hk.base.trans hB') hr,_,rfl,.inl ⟨by rw [← hso,h0],rfl⟩⟩
   rw [GU]
   simp only [ak,and_self,and_true,true_and]
 | succ n ih=>
  intro seen hn hg H M1 w1 hk
  refine yg hm hM hB hk (fun hall=>?_) fun x hx hs=>?_
  ·have hpm:=hg.all hall
   have hso:=gx hpm
   have h0:bu ([]:List ByteArray)=[]:=List.length_eq_zero_iff.1 (bB []).length_eq
   refine af.ax (qk hM hk.base hm) (n:=60) (o:=[(1000,.b true)]) (v:=.slice none 0 0) ?_ fun ν' M3 w3 s' w' _ hB' hr=>⟨aI hM (hk.base.trans hB') hr,_,rfl,.inl ⟨by rw [← hso,h0],rfl⟩⟩
   rw [GU]
   simp only [ak,and_self,and_true,true_and]
  ·have hn2:=lY hx hs hn
   have hfb:=jT hB.borns hx
   have hfx:∃ (stamp:Nat) (b:Nat),(seen++[(mI x).snd.snd]).getLast?=some stamp∧List.find? (fun e=>e.snd.snd.beq stamp) (E.map mI)=some (SV.v (Value.string x.fst.p),cU x,b):=⟨x.2,x.2,iw,hfb⟩
   have hcl:=cH E
   have hgn:=hg.next hB.borns hx hs
   have hsz:=hB.size x hx
   refine A2 hm hM hp hν2 hν3 hsz hk (o:=FI x) ?_ (by kernel_rfl) ?_ fun H' M2 w2 hk2=>?_
   ·rw [LW];simp only [ak,and_self,and_true,true_and];exact hfx
   ·rw [Lw];simp only [ak,and_self,and_true,true_and];exact hfx
   ·cases hd:D x.1.p
    ·rw [hd,if_neg (by decide)] at hgn
     refine af.reach (qk hM hk2.base hm) (k:=2) (n:=60) (o:=ff [0] false) (ren:=[(0,0),(1,1),(2,2),(3,3),(4,4)]) (eqs:=[1]) (S:=FU (E.map mI) cl seen x false) ?_ (by kernel_rfl) (fun i b h=>by rcases hν i b h with h | h | h | h <;> rw [h] <;> rfl) (ih (seen++[x.2]) hn2 hgn H' M2 w2 hk2)
     rw [LI]
     simp only [ak,hcl,and_self,and_true,true_and]
     repeat' apply And.intro
     all_goals first | rfl | skip
    ·rw [hd,if_pos rfl] at hgn
     have nx:=CV (cs0:=cs0) hm hM hB few hp hν2 hν3 hν n (seen++[x.2]) [x.1.p] hn2 hgn (by simp) H' M2 w2 hk2
     rw [show ([x.1.p]:List ByteArray).length=1 from rfl] at nx
     refine af.reach (qk hM hk2.base hm) (k:=2) (n:=60) (o:=ff [0] true++ff [1] false) (ren:=[(0,0),(1,1),(2,2),(3,3),(4,4),(5,6)]) (eqs:=[1,5]) (S:=FU (E.map mI) cl seen x true) ?_ (by kernel_rfl) (fun i b h=>by rcases hν i b h with h | h | h | h <;> rw [h] <;> rfl) nx
     rw [Lo]
     simp only [ak,hcl,and_self,and_true,true_and]
     repeat' apply And.intro
     all_goals first | rfl | skip
end
theorem uI {W:World} {b m x1 x2:Nat} {E:List cg} {cl:Nat} {D:ByteArray→Bool} {cs1:Array Value} {e1:TypeId} {f1:Nat × Nat} {cs2:Array Value} {e2:TypeId} {f2:Nat × Nat} (hm:MX W) (hA:ky W b m E cl) (hB:dG E cl) (few:E.length≤1000) (hn:[b,m,x1,x2].Nodup) (hx1:W.heap[x1]?=some (.cells cs1 e1 f1)) (hx2:W.heap[x2]?=some (.cells cs2 e2 f2)) (hp:uh W x1 x2 D):
  Calls Try.prog 38 #[bX b,.func (.func 36) #[] #[bX x1,bX x2]] W (zk W (bu ((E.map fun e=>e.1.p).filter D))):=by
 have ho:∀ (j:Nat) (o':SO) (b' c':Nat),[SO.row [.map 1] 63 (0,0) none,SO.map (E.map mI) cl,SO.look [],SO.look []][j]?=some o'→[(b,0),(m,0),(x1,0),(x2,0)][j]?=some (b',c')→∃ r,W.heap[b']?=some r∧OR (aE [(b,0),(m,0),(x1,0),(x2,0)]) j o' r:=by
  intro j o' b' c' q1 q2
  match j with
  | 0=>
   simp only [List.getElem?_cons_zero,Option.some.injEq] at q1 q2
   subst q1
   cases q2
   exact ⟨_,hA.row,[.map (some m)],[],rfl,ay.cons (VR.dj.2 ⟨(m,0),rfl,rfl⟩) ay.nil,rfl⟩
  | 1=>
   simp only [List.getElem?_cons_succ,List.getElem?_cons_zero,Option.some.injEq] at q1 q2
   subst q1
   cases q2
   exact ⟨_,hA.map,_,rfl,nr E⟩
  | 2=>
   simp only [List.getElem?_cons_succ,List.getElem?_cons_zero,Option.some.injEq] at q1 q2
   subst q1
   cases q2
   exact ⟨_,hx1,[],_,_,_,rfl,ay.nil,fun k y h=>by simp at h⟩
  | 3=>
   simp only [List.getElem?_cons_succ,List.getElem?_cons_zero,Option.some.injEq] at q1 q2
   subst q1
   cases q2
   exact ⟨_,hx2,[],_,_,_,rfl,ay.nil,fun k y h=>by simp at h⟩
  | j+4=>simp at q1
 refine aY (E:=dV) rfl (d:=6) (l:=[(b,0),(m,0),(x1,0),(x2,0)]) (os:=[.row [.map 1] 63 (0,0) none,.map (E.map mI) cl,.look [],.look []]) rfl (by simp) (by simpa using hn) ho rfl (args:=[.ptr 0 0,HY]) (a:=[bX b,.func (.func 36) #[] #[bX x1,bX x2]]) (S0:=y8 (E.map mI) cl) (by kernel_rfl) (ay.cons (VR.aC.2 ⟨(b,0),rfl,rfl⟩) (ay.cons ?_ ay.nil)) fun cs0=>?_
 ·exact VR.cX.2 ⟨[],[bX x1,bX x2],rfl,ay.nil,ay.cons (VR.aC.2 ⟨(x1,0),rfl,rfl⟩) (ay.cons (VR.aC.2 ⟨(x2,0),rfl,rfl⟩) ay.nil)⟩
 have hM:∀ z,¬ (aT [(b,0),(m,0),(x1,0),(x2,0)] ([SO.row [.map 1] 63 (0,0) none,SO.map (E.map mI) cl,SO.look [],SO.look []].map fun o=>(o,false))) z:=fun z=>a6 (os:=[SO.row [.map 1] 63 (0,0) none,SO.map (E.map mI) cl,SO.look [],SO.look []])
 have hK0:=Kept.start (H0:=W.hp) (M:=aT [(b,0),(m,0),(x1,0),(x2,0)] ([SO.row [.map 1] 63 (0,0) none,SO.map (E.map mI) cl,SO.look [],SO.look []].map fun o=>(o,false))) (w:=W) (Hp.Sub.refl _) (fun z o _=>hM z) (dh (by
  intro j o' m' b' c' q1 q2
  rw [List.getElem?_map] at q1
  obtain ⟨o2,q3,q4⟩:=Option.map_eq_some_iff.1 q1
  cases q4
  exact ho j o' b' c' q3 q2)) (fun _ h=>h)
 have hν:∀ i b',aE [(b,0),(m,0),(x1,0),(x2,0)] i=some b'→i=0∨i=1∨i=2∨i=3:=fun i b' h=>by
  match i with
  | 0=>exact .inl rfl
  | 1=>exact .inr (.inl rfl)
  | 2=>exact .inr (.inr (.inl rfl))
  | 3=>exact .inr (.inr (.inr (rfl)))
  | i+4=>simp [aE] at h
 have nx:=Db (cs0:=cs0) (ν:=aE [(b,0),(m,0),(x1,0),(x2,0)]) hm hM hB few hp rfl rfl hν (E.filter fun x=>!([]:List Nat).contains x.2).length [] (Nat.le_refl _) j4.start W.hp _ W hK0
 refine af.reach (qk hM hK0.base hm) (k:=2) (n:=60) (o:=[(1000,.b true)]) (ren:=[(0,0),(1,1),(2,2),(3,3),(4,4)]) (eqs:=[1]) (F:=pI aK) (d:=6) (l:=qB (E.map mI) cl []) ?_ (by kernel_rfl) (fun i b h=>by rcases hν i b h with h | h | h | h <;> rw [h] <;> rfl) nx
 rw [Mw]
 simp only [ak,cH,aK,and_self,and_true,true_and]
 repeat' apply And.intro
 all_goals first | rfl | skip
noncomputable def Ma:Env:=EP [(64,lX)] []
def Ib (p:ByteArray):Option (SO × Bool):=some (.row [.v (.string p)] 9 (0,0) none,false)
noncomputable def Hm (q p:ByteArray):SM:=(bC Ma 63 [.v (.string q),.ptr 0 0] (bO 6 1 0 [Ib p])).getD dC
theorem PQ (q p:ByteArray) (v:Value):ax Ma 63 60 (Hm q p) [(1000,.b true)] v=[Value.bool (dF q p)=v,q.size≤1000000000∧p.size≤1000000000]:=by kernel_rfl
theorem Rv {M:Own} {w0:World} (hM:∀ z,¬ M z) (h:MX w0):aW Ma M w0:=Mg hM h fun r hr=>by rw [List.mem_singleton.1 hr];exact Eh
theorem Dc {w:World} {x:Nat} {q p:ByteArray} (hm:MX w) (hx:w.heap[x]?=some (.cells #[.string p] 9 (0,0))) (hq:q.size≤1000000000) (hp:p.size≤1000000000):
  Calls Try.prog 63 #[.string q,bX x] w fun e w'=>Below w.heap.size w w'∧e=.returned (.bool (dF q p)):=by
 refine aY (E:=Ma) rfl (d:=6) (l:=[(x,0)]) (os:=[.row [.v (.string p)] 9 (0,0) none]) rfl (by simp) (by simp) ?_ rfl (args:=[.v (.string q),.ptr 0 0]) (a:=[.string q,bX x]) (S0:=Hm q p) (by kernel_rfl) (ay.cons (VR.ah.2 rfl) (ay.cons (VR.aC.2 ⟨(x,0),rfl,rfl⟩) ay.nil)) fun cs0=>?_
 ·intro j o' b' c' h1 h2
  match j with
  | 0=>
   simp only [List.getElem?_cons_zero,Option.some.injEq] at h1 h2
   subst h1
   cases h2
   exact ⟨_,hx,[.string p],[],rfl,ay.cons (VR.ah.2 rfl) ay.nil,rfl⟩
  | j+1=>simp at h1
 ·refine cz (Rv (fun z=>a6 (os:=[_])) hm) (fun z=>a6 (os:=[_])) (n:=60) (o:=[(1000,.b true)]) (v:=.bool (dF q p)) ⟨?_⟩ fun w' hw=>⟨hw,rfl⟩
  rw [PQ]
  simp only [ak,true_and,and_true]
  exact ⟨hq,hp⟩
def cx (p:ByteArray) (E:List cg):List ByteArray:=bu ((E.map fun e=>e.1.p).filter fun q=>dF q p)
theorem vK {w:World} {b m cl:Nat} {E:List cg} {p:ByteArray} (hm:MX w) (hA:ky w b m E cl) (hne:b≠m) (hB:dG E cl) (few:E.length≤1000) (hp:p.size≤1000000000):
  Calls Try.prog 50 #[bX b,.string p] w (zk w (cx p E)):=by
 have hbl:b<w.heap.size:=(Array.getElem?_eq_some_iff.1 hA.row).1
 have hml:m<w.heap.size:=(Array.getElem?_eq_some_iff.1 hA.map).1
 have hb:Below w.heap.size w (w.alloc (.cells #[.string p] 9)):=(Below.refl _ _).alloc (Nat.le_refl _) _
 have hm':MX (w.alloc (.cells #[.string p] 9)):=hm.keep fun k hk=>hb.block k hk
 have hx:(w.alloc (.cells #[.string p] 9)).heap[w.heap.size]?=some (.cells #[.string p] 9 (0,0)):=by
  show (w.heap.push _)[w.heap.size]?=some _
  rw [Array.getElem?_push_size]
 have hA':ky (w.alloc (.cells #[.string p] 9)) b m E cl:=⟨(hb.block b hbl).trans hA.row,(hb.block m hml).trans hA.map⟩
 have cs:=uU (x1:=w.heap.size) (D:=fun q=>dF q p) hm' hA' hB few (by simp;omega) hx (fun w2 hs q hq=>Dc (hm'.keep fun k hk=>by
  have h1:=hs k (w.alloc (.cells #[.string p] 9)).heap[k] (Array.getElem?_eq_getElem hk)
  rw [Array.getElem?_eq_getElem hk];exact h1) (hs _ _ hx) hq hp)
 clear hA hA' hx
 have HE:=Lib.hid (show cx p E=bu ((E.map fun e=>e.1.p).filter fun q=>dF q p) from rfl)
 go_enter Try.func50,Try.ntmps50
 go_wp2_with (go_at_call 38;refine cs.mono ?_;rintro e w' ⟨hb2,v,rfl,hv⟩)
 go_ret
 have h3:w.heap.size≤(w.alloc (.cells #[.string p] 9)).heap.size:=hb.size
 refine ⟨hb.trans (hb2.mono h3),_,rfl,?_⟩
 rw [HE.out]
 rcases hv with hv | ⟨hne,g,c,rest,h4,h5,h6⟩
 ·exact .inl hv
 ·exact .inr ⟨hne,g,c,rest,h4,Nat.le_trans h3 h5,h6⟩
def J0 (e:SV × SV × Nat):cg:=match e with
 | (.v (.string p),.agg [.v (.int _ k),.v (.slice a l c)],n)=>(⟨p,k,a,l,c⟩,n)
 | (_,_,n)=>(⟨⟨#[]⟩,0,none,0,0⟩,n)
theorem Fq (e:cg):J0 (mI e)=e:=rfl
def mapOf (es:List (SV × SV × Nat)):List cg:=es.map J0
theorem bp (E:List cg):mapOf (E.map mI)=E:=by
 unfold mapOf
 rw [List.map_map]
 exact (List.map_congr_left fun e _=>Fq e).trans (List.map_id E)
def dM (es:List (SV × SV × Nat)) (cl:Nat):Prop:=es=(mapOf es).map mI∧dG (mapOf es) cl∧(mapOf es).length≤1000
def ph (a:SV) (sh:SH):Option (List (SV × SV × Nat) × Nat × Prop):=match a with
 | .ptr i 0=>match sh.look i with
  | some (.row [.map m] t (0,0) none,_)=>match sh.look m with
   | some (.map es cl,_)=>some (es,cl,t=63∧dM es cl)
   | _=>none
  | some (.row [.v (.map none)] t (0,0) none,_)=>some ([],0,t=63)
  | _=>none
 | _=>none
def Nw:GX:=fun args sh=>match args with
 | [A,.v (.string p)]=>match ph A sh with
  | some (es,cl,q)=>some ((cx p (mapOf es)).map Value.string,(cx p (mapOf es)).length,1,9,none,q∧cx p (mapOf es)≠[]∧p.size≤1000000000)
  | none=>none
 | _=>none
def MI:Co:=fun args sh=>match args with
 | [A,.v (.string p)]=>match ph A sh with
  | some (es,cl,q)=>some (.slice none 0 0,q∧cx p (mapOf es)=[]∧p.size≤1000000000)
  | none=>none
 | _=>none
def Mm:List (FuncId × Sum):=[(48,eP lQ),(49,eP kO),(50,jM (gh Nw) (eE MI)),(51,eP AB)]
noncomputable def kB:Env:={ EP [] [] with sums:=fun f=>Mm.lookup f }
noncomputable def fy (es:List (SV × SV × Nat)) (cl:Nat) (x:aA):SM:=(bC kB 32 [.ptr 0 0,.v (.string x.p),jg x] (bO 6 2 0 [sI,zf es cl])).getD dC
theorem RI (es:List (SV × SV × Nat)) (cl:Nat) (x:aA) (f g:cg) (i j:Nat):ax kB 32 400 (fy es cl x) (ff [1] true++ff [0,2] false++[(1000,.b true)]) (.int .i64 (aS x.p))=[vZ (aS x.1)=vZ (aS x.1),(!aS x.1==0)=true,x.1.size.le 1000000000]:=by kernel_rfl
theorem Pc (es:List (SV × SV × Nat)) (cl:Nat) (x:aA) (f g:cg) (i j:Nat):ax kB 32 400 (fy es cl x) (ff [3] true++ff [0,1,2,4] false++[(1000,.b true)]) (.int .i64 (aZ x.k x.l))=[vZ (aZ x.2 x.4)=vZ (aZ x.2 x.4),(!aZ x.2 x.4==0)=true,True,(!aS x.1==0)=false,x.1.size.le 1000000000]:=by kernel_rfl
theorem Ob (es:List (SV × SV × Nat)) (cl:Nat) (x:aA) (f g:cg) (i j:Nat):ax kB 32 400 (fy es cl x) (ff [4,5,6,7,8,9,10,11] true++ff [0,1,2,3,12] false++[(1000,.b true)]) (.int .i64 22)=[vZ 22=vZ 22,decide ((↑(cx x.1 (mapOf es)).length:Int)>0)=true,(!x.2==2)=true,(!x.2==2)=true,(!x.2==2)=true,(63=63∧dM es cl)∧cx x.1 (mapOf es)≠[]∧x.1.size≤1000000000,(!x.2==2)=true,(!x.2==2)=true,(!x.2==2)=true,(!aZ x.2 x.4==0)=false,True,(!aS x.1==0)=false,x.1.size.le 1000000000]:=by kernel_rfl
theorem Oh (es:List (SV × SV × Nat)) (cl:Nat) (x:aA) (f g:cg) (i j:Nat):ax kB 32 400 (fy es cl x) (ff [4,5,6,8,9,10,12] true++ff [0,1,2,3,7,11,13] false++[(1000,.b true)]) (.int .i64 0)=[vZ 0=vZ 0,(x.2==0)=true,false=false,(!x.2==2)=true,(!x.2==2)=true,(!x.2==2)=true,(63=63∧dM es cl)∧cx x.1 (mapOf es)=[]∧x.1.size≤1000000000,(!x.2==2)=true,(!x.2==2)=true,(!x.2==2)=true,(!aZ x.2 x.4==0)=false,True,(!aS x.1==0)=false,x.1.size.le 1000000000]:=by kernel_rfl
theorem Lg (es:List (SV × SV × Nat)) (cl:Nat) (x:aA) (f g:cg) (i j:Nat):ax kB 32 400 (fy es cl x) ([(18,.hit j (cU f) f.2)]++ff [4,5,6,8,9,10,14,15,16,19,20,21,22] true++ff [0,1,2,3,7,11,12,13,17,23] false++[(1000,.b true)]) (.int .i64 22)=[vZ 22=vZ 22,(!f.fst.2==2)=true,aH x.1=true,aH x.1=true,aH x.1=true,(∀ (e:SV × SV × Nat),e∈List.take j es→cn (aq x.p) e.fst)∧es[j]?=some (SV.v (Value.string (aq x.1)),cU f,f.2),false=false,aH x.1=true,aH x.1=true,aH x.1=true,x.1.size.le 1000000000,(x.2==0)=false,false=false,(!x.2==2)=true,(!x.2==2)=true,(!x.2==2)=true,(63=63∧dM es cl)∧cx x.1 (mapOf es)=[]∧x.1.size≤1000000000,(!x.2==2)=true,(!x.2==2)=true,(!x.2==2)=true,(!aZ x.2 x.4==0)=false,True,(!aS x.1==0)=false,x.1.size.le 1000000000]:=by kernel_rfl
theorem LU (es:List (SV × SV × Nat)) (cl:Nat) (x:aA) (f g:cg) (i j:Nat):ax kB 32 400 (fy es cl x) ([(18,.dy),(23,.dy)]++ff [4,5,6,8,9,10,14,15,16,19,20,21] true++ff [0,1,2,3,7,11,12,13,17] false++[(1000,.b true)]) (.int .i64 22)=[vZ 22=vZ 22,aH x.1=true,aH x.1=true,aH x.1=true,∀ (e:SV × SV × Nat),e∈es→cn (aq x.p) e.fst,false=false,aH x.1=true,aH x.1=true,aH x.1=true,x.1.size.le 1000000000,(x.2==0)=false,false=false,(!x.2==2)=true,(!x.2==2)=true,(!x.2==2)=true,(63=63∧dM es cl)∧cx x.1 (mapOf es)=[]∧x.1.size≤1000000000,(!x.2==2)=true,(!x.2==2)=true,(!x.2==2)=true,(!aZ x.2 x.4==0)=false,True,(!aS x.1==0)=false,x.1.size.le 1000000000]:=by kernel_rfl
theorem JJ (es:List (SV × SV × Nat)) (cl:Nat) (x:aA) (f g:cg) (i j:Nat):ax kB 32 400 (fy es cl x) ([(21,.hit i (cU g) g.2)]++ff [4,5,6,8,9,10] true++ff [0,1,2,3,7,11,12,13,14,15,16,17,18,19,20,22,23,24,25,26,27,28,29,30] false++[(1000,.b true)]) (.int .i64 0)=[vZ 0=vZ 0,false=false,false=false,false=false,false=false,false=false,false=false,false=false,false=false,(∀ (e:SV × SV × Nat),e∈List.take i es→cn x.p e.fst)∧es[i]?=some (SV.v (Value.string x.1),cU g,g.2),false=false,aH x.1=false,aH x.1=false,aH x.1=false,aH x.1=false,aH x.1=false,aH x.1=false,x.1.size.le 1000000000,(x.2==0)=false,false=false,(!x.2==2)=true,(!x.2==2)=true,(!x.2==2)=true,(63=63∧dM es cl)∧cx x.1 (mapOf es)=[]∧x.1.size≤1000000000,(!x.2==2)=true,(!x.2==2)=true,(!x.2==2)=true,(!aZ x.2 x.4==0)=false,True,(!aS x.1==0)=false,x.1.size.le 1000000000]:=by kernel_rfl
theorem K9 (es:List (SV × SV × Nat)) (cl:Nat) (x:aA) (f g:cg) (i j:Nat):ax kB 32 400 (fy es cl x) ([(21,.dy)]++ff [4,5,6,8,9,10,22,23,24,25,26,27,28,29] true++ff [0,1,2,3,7,11,12,13,14,15,16,17,18,19,20,30] false++[(1000,.b true)]) (.int .i64 24)=[vZ 24=vZ 24,decide ((↑es.length:Int)≥128)=true,true=true,true=true,true=true,true=true,true=true,true=true,true=true,∀ (e:SV × SV × Nat),e∈es→cn x.p e.fst,false=false,aH x.1=false,aH x.1=false,aH x.1=false,aH x.1=false,aH x.1=false,aH x.1=false,x.1.size.le 1000000000,(x.2==0)=false,false=false,(!x.2==2)=true,(!x.2==2)=true,(!x.2==2)=true,(63=63∧dM es cl)∧cx x.1 (mapOf es)=[]∧x.1.size≤1000000000,(!x.2==2)=true,(!x.2==2)=true,(!x.2==2)=true,(!aZ x.2 x.4==0)=false,True,(!aS x.1==0)=false,x.1.size.le 1000000000]:=by kernel_rfl
theorem LJ (es:List (SV × SV × Nat)) (cl:Nat) (x:aA) (f g:cg) (i j:Nat):ax kB 32 400 (fy es cl x) ([(21,.dy)]++ff [4,5,6,8,9,10,22,23,24,25,26,27] true++ff [0,1,2,3,7,11,12,13,14,15,16,17,18,19,20,29] false++[(1000,.b true)]) (.int .i64 0)=[vZ 0=vZ 0,decide ((↑es.length:Int)≥128)=false,true=true,true=true,true=true,true=true,true=true,true=true,∀ (e:SV × SV × Nat),e∈es→cn x.p e.fst,false=false,aH x.1=false,aH x.1=false,aH x.1=false,aH x.1=false,aH x.1=false,aH x.1=false,x.1.size.le 1000000000,(x.2==0)=false,false=false,(!x.2==2)=true,(!x.2==2)=true,(!x.2==2)=true,(63=63∧dM es cl)∧cx x.1 (mapOf es)=[]∧x.1.size≤1000000000,(!x.2==2)=true,(!x.2==2)=true,(!x.2==2)=true,(!aZ x.2 x.4==0)=false,True,(!aS x.1==0)=false,x.1.size.le 1000000000]:=by kernel_rfl
theorem Lu (es:List (SV × SV × Nat)) (cl:Nat) (x:aA) (f g:cg) (i j:Nat):ax kB 32 400 (fy es cl x) ([(18,.hit j (cU f) f.2),(23,.hit i (cU g) g.2)]++ff [4,5,6,8,9,10,14,15,16,19,20,21] true++ff [0,1,2,3,7,11,12,13,17,22,24,25,26,27,28,29,30,31,32] false++[(1000,.b true)]) (.int .i64 0)=[vZ 0=vZ 0,false=false,false=false,false=false,false=false,false=false,false=false,false=false,false=false,(∀ (e:SV × SV × Nat),e∈List.take i es→cn x.p e.fst)∧es[i]?=some (SV.v (Value.string x.1),cU g,g.2),(!f.fst.2==2)=false,aH x.1=true,aH x.1=true,aH x.1=true,(∀ (e:SV × SV × Nat),e∈List.take j es→cn (aq x.p) e.fst)∧es[j]?=some (SV.v (Value.string (aq x.1)),cU f,f.2),false=false,aH x.1=true,aH x.1=true,aH x.1=true,x.1.size.le 1000000000,(x.2==0)=false,false=false,(!x.2==2)=true,(!x.2==2)=true,(!x.2==2)=true,(63=63∧dM es cl)∧cx x.1 (mapOf es)=[]∧x.1.size≤1000000000,(!x.2==2)=true,(!x.2==2)=true,(!x.2==2)=true,(!aZ x.2 x.4==0)=false,True,(!aS x.1==0)=false,x.1.size.le 1000000000]:=by kernel_rfl
theorem Lt (es:List (SV × SV × Nat)) (cl:Nat) (x:aA) (f g:cg) (i j:Nat):ax kB 32 400 (fy es cl x) ([(18,.hit j (cU f) f.2),(23,.dy)]++ff [4,5,6,8,9,10,14,15,16,19,20,21,24,25,26,27,28,29,30,31] true++ff [0,1,2,3,7,11,12,13,17,22,32] false++[(1000,.b true)]) (.int .i64 24)=[vZ 24=vZ 24,decide ((↑es.length:Int)≥128)=true,true=true,true=true,true=true,true=true,true=true,true=true,true=true,∀ (e:SV × SV × Nat),e∈es→cn x.p e.fst,(!f.fst.2==2)=false,aH x.1=true,aH x.1=true,aH x.1=true,(∀ (e:SV × SV × Nat),e∈List.take j es→cn (aq x.p) e.fst)∧es[j]?=some (SV.v (Value.string (aq x.1)),cU f,f.2),false=false,aH x.1=true,aH x.1=true,aH x.1=true,x.1.size.le 1000000000,(x.2==0)=false,false=false,(!x.2==2)=true,(!x.2==2)=true,(!x.2==2)=true,(63=63∧dM es cl)∧cx x.1 (mapOf es)=[]∧x.1.size≤1000000000,(!x.2==2)=true,(!x.2==2)=true,(!x.2==2)=true,(!aZ x.2 x.4==0)=false,True,(!aS x.1==0)=false,x.1.size.le 1000000000]:=by kernel_rfl
theorem JE (es:List (SV × SV × Nat)) (cl:Nat) (x:aA) (f g:cg) (i j:Nat):ax kB 32 400 (fy es cl x) ([(18,.hit j (cU f) f.2),(23,.dy)]++ff [4,5,6,8,9,10,14,15,16,19,20,21,24,25,26,27,28,29] true++ff [0,1,2,3,7,11,12,13,17,22,31] false++[(1000,.b true)]) (.int .i64 0)=[vZ 0=vZ 0,decide ((↑es.length:Int)≥128)=false,true=true,true=true,true=true,true=true,true=true,true=true,∀ (e:SV × SV × Nat),e∈es→cn x.p e.fst,(!f.fst.2==2)=false,aH x.1=true,aH x.1=true,aH x.1=true,(∀ (e:SV × SV × Nat),e∈List.take j es→cn (aq x.p) e.fst)∧es[j]?=some (SV.v (Value.string (aq x.1)),cU f,f.2),false=false,aH x.1=true,aH x.1=true,aH x.1=true,x.1.size.le 1000000000,(x.2==0)=false,false=false,(!x.2==2)=true,(!x.2==2)=true,(!x.2==2)=true,(63=63∧dM es cl)∧cx x.1 (mapOf es)=[]∧x.1.size≤1000000000,(!x.2==2)=true,(!x.2==2)=true,(!x.2==2)=true,(!aZ x.2 x.4==0)=false,True,(!aS x.1==0)=false,x.1.size.le 1000000000]:=by kernel_rfl
theorem La (es:List (SV × SV × Nat)) (cl:Nat) (x:aA) (f g:cg) (i j:Nat):ax kB 32 400 (fy es cl x) ([(17,.hit j (cU f) f.2)]++ff [13,14,15,18,19,20,21] true++ff [0,1,2,3,4,5,6,7,8,9,10,11,12,16,22] false++[(1000,.b true)]) (.int .i64 22)=[vZ 22=vZ 22,(!f.fst.2==2)=true,aH x.1=true,aH x.1=true,aH x.1=true,(∀ (e:SV × SV × Nat),e∈List.take j es→cn (aq x.p) e.fst)∧es[j]?=some (SV.v (Value.string (aq x.1)),cU f,f.2),false=false,aH x.1=true,aH x.1=true,aH x.1=true,x.1.size.le 1000000000,(x.2==0)=false,false=false,(!x.2==2)=false,(!x.2==2)=false,(!x.2==2)=false,(!x.2==2)=false,(!x.2==2)=false,(!x.2==2)=false,(!aZ x.2 x.4==0)=false,True,(!aS x.1==0)=false,x.1.size.le 1000000000]:=by kernel_rfl
theorem LG (es:List (SV × SV × Nat)) (cl:Nat) (x:aA) (f g:cg) (i j:Nat):ax kB 32 400 (fy es cl x) ([(17,.dy),(22,.dy)]++ff [13,14,15,18,19,20] true++ff [0,1,2,3,4,5,6,7,8,9,10,11,12,16] false++[(1000,.b true)]) (.int .i64 22)=[vZ 22=vZ 22,aH x.1=true,aH x.1=true,aH x.1=true,∀ (e:SV × SV × Nat),e∈es→cn (aq x.p) e.fst,false=false,aH x.1=true,aH x.1=true,aH x.1=true,x.1.size.le 1000000000,(x.2==0)=false,false=false,(!x.2==2)=false,(!x.2==2)=false,(!x.2==2)=false,(!x.2==2)=false,(!x.2==2)=false,(!x.2==2)=false,(!aZ x.2 x.4==0)=false,True,(!aS x.1==0)=false,x.1.size.le 1000000000]:=by kernel_rfl
theorem LF (es:List (SV × SV × Nat)) (cl:Nat) (x:aA) (f g:cg) (i j:Nat):ax kB 32 400 (fy es cl x) ([(20,.hit i (cU g) g.2)]++ff [0,1,2,3,4,5,6,7,8,9,10,11,12,13,14,15,16,17,18,19,21,22,23,24,25,26,27,28,29] false++[(1000,.b true)]) (.int .i64 0)=[vZ 0=vZ 0,false=false,false=false,false=false,false=false,false=false,false=false,false=false,false=false,(∀ (e:SV × SV × Nat),e∈List.take i es→cn x.p e.fst)∧es[i]?=some (SV.v (Value.string x.1),cU g,g.2),false=false,aH x.1=false,aH x.1=false,aH x.1=false,aH x.1=false,aH x.1=false,aH x.1=false,x.1.size.le 1000000000,(x.2==0)=false,false=false,(!x.2==2)=false,(!x.2==2)=false,(!x.2==2)=false,(!x.2==2)=false,(!x.2==2)=false,(!x.2==2)=false,(!aZ x.2 x.4==0)=false,True,(!aS x.1==0)=false,x.1.size.le 1000000000]:=by kernel_rfl
theorem Kj (es:List (SV × SV × Nat)) (cl:Nat) (x:aA) (f g:cg) (i j:Nat):ax kB 32 400 (fy es cl x) ([(20,.dy)]++ff [21,22,23,24,25,26,27,28] true++ff [0,1,2,3,4,5,6,7,8,9,10,11,12,13,14,15,16,17,18,19,29] false++[(1000,.b true)]) (.int .i64 24)=[vZ 24=vZ 24,decide ((↑es.length:Int)≥128)=true,true=true,true=true,true=true,true=true,true=true,true=true,true=true,∀ (e:SV × SV × Nat),e∈es→cn x.p e.fst,false=false,aH x.1=false,aH x.1=false,aH x.1=false,aH x.1=false,aH x.1=false,aH x.1=false,x.1.size.le 1000000000,(x.2==0)=false,false=false,(!x.2==2)=false,(!x.2==2)=false,(!x.2==2)=false,(!x.2==2)=false,(!x.2==2)=false,(!x.2==2)=false,(!aZ x.2 x.4==0)=false,True,(!aS x.1==0)=false,x.1.size.le 1000000000]:=by kernel_rfl
theorem KD (es:List (SV × SV × Nat)) (cl:Nat) (x:aA) (f g:cg) (i j:Nat):ax kB 32 400 (fy es cl x) ([(20,.dy)]++ff [21,22,23,24,25,26] true++ff [0,1,2,3,4,5,6,7,8,9,10,11,12,13,14,15,16,17,18,19,28] false++[(1000,.b true)]) (.int .i64 0)=[vZ 0=vZ 0,decide ((↑es.length:Int)≥128)=false,true=true,true=true,true=true,true=true,true=true,true=true,∀ (e:SV × SV × Nat),e∈es→cn x.p e.fst,false=false,aH x.1=false,aH x.1=false,aH x.1=false,aH x.1=false,aH x.1=false,aH x.1=false,x.1.size.le 1000000000,(x.2==0)=false,false=false,(!x.2==2)=false,(!x.2==2)=false,(!x.2==2)=false,(!x.2==2)=false,(!x.2==2)=false,(!x.2==2)=false,(!aZ x.2 x.4==0)=false,True,(!aS x.1==0)=false,x.1.size.le 1000000000]:=by kernel_rfl
theorem Kb (es:List (SV × SV × Nat)) (cl:Nat) (x:aA) (f g:cg) (i j:Nat):ax kB 32 400 (fy es cl x) ([(17,.hit j (cU f) f.2),(22,.hit i (cU g) g.2)]++ff [13,14,15,18,19,20] true++ff [0,1,2,3,4,5,6,7,8,9,10,11,12,16,21,23,24,25,26,27,28,29,30,31] false++[(1000,.b true)]) (.int .i64 0)=[vZ 0=vZ 0,false=false,false=false,false=false,false=false,false=false,false=false,false=false,false=false,(∀ (e:SV × SV × Nat),e∈List.take i es→cn x.p e.fst)∧es[i]?=some (SV.v (Value.string x.1),cU g,g.2),(!f.fst.2==2)=false,aH x.1=true,aH x.1=true,aH x.1=true,(∀ (e:SV × SV × Nat),e∈List.take j es→cn (aq x.p) e.fst)∧es[j]?=some (SV.v (Value.string (aq x.1)),cU f,f.2),false=false,aH x.1=true,aH x.1=true,aH x.1=true,x.1.size.le 1000000000,(x.2==0)=false,false=false,(!x.2==2)=false,(!x.2==2)=false,(!x.2==2)=false,(!x.2==2)=false,(!x.2==2)=false,(!x.2==2)=false,(!aZ x.2 x.4==0)=false,True,(!aS x.1==0)=false,x.1.size.le 1000000000]:=by kernel_rfl
theorem KA (es:List (SV × SV × Nat)) (cl:Nat) (x:aA) (f g:cg) (i j:Nat):ax kB 32 400 (fy es cl x) ([(17,.hit j (cU f) f.2),(22,.dy)]++ff [13,14,15,18,19,20,23,24,25,26,27,28,29,30] true++ff [0,1,2,3,4,5,6,7,8,9,10,11,12,16,21,31] false++[(1000,.b true)]) (.int .i64 24)=[vZ 24=vZ 24,decide ((↑es.length:Int)≥128)=true,true=true,true=true,true=true,true=true,true=true,true=true,true=true,∀ (e:SV × SV × Nat),e∈es→cn x.p e.fst,(!f.fst.2==2)=false,aH x.1=true,aH x.1=true,aH x.1=true,(∀ (e:SV × SV × Nat),e∈List.take j es→cn (aq x.p) e.fst)∧es[j]?=some (SV.v (Value.string (aq x.1)),cU f,f.2),false=false,aH x.1=true,aH x.1=true,aH x.1=true,x.1.size.le 1000000000,(x.2==0)=false,false=false,(!x.2==2)=false,(!x.2==2)=false,(!x.2==2)=false,(!x.2==2)=false,(!x.2==2)=false,(!x.2==2)=false,(!aZ x.2 x.4==0)=false,True,(!aS x.1==0)=false,x.1.size.le 1000000000]:=by kernel_rfl
theorem Kr (es:List (SV × SV × Nat)) (cl:Nat) (x:aA) (f g:cg) (i j:Nat):ax kB 32 400 (fy es cl x) ([(17,.hit j (cU f) f.2),(22,.dy)]++ff [13,14,15,18,19,20,23,24,25,26,27,28] true++ff [0,1,2,3,4,5,6,7,8,9,10,11,12,16,21,30] false++[(1000,.b true)]) (.int .i64 0)=[vZ 0=vZ 0,decide ((↑es.length:Int)≥128)=false,true=true,true=true,true=true,true=true,true=true,true=true,∀ (e:SV × SV × Nat),e∈es→cn x.p e.fst,(!f.fst.2==2)=false,aH x.1=true,aH x.1=true,aH x.1=true,(∀ (e:SV × SV × Nat),e∈List.take j es→cn (aq x.p) e.fst)∧es[j]?=some (SV.v (Value.string (aq x.1)),cU f,f.2),false=false,aH x.1=true,aH x.1=true,aH x.1=true,x.1.size.le 1000000000,(x.2==0)=false,false=false,(!x.2==2)=false,(!x.2==2)=false,(!x.2==2)=false,(!x.2==2)=false,(!x.2==2)=false,(!x.2==2)=false,(!aZ x.2 x.4==0)=false,True,(!aS x.1==0)=false,x.1.size.le 1000000000]:=by kernel_rfl
def G7:Option (SO × Bool):=some (.row [.v (.map none)] 63 (0,0) none,false)
noncomputable def DC (f:Value):SM:=(bC dV 38 [.ptr 0 0,.v f] (bO 6 1 0 [G7])).getD dC
noncomputable def iQ (x:aA):SM:=(bC kB 32 [.ptr 0 0,.v (.string x.p),jg x] (bO 6 1 0 [G7])).getD dC
theorem Rj (f:Value):ax dV 38 60 (DC f) [(1000,.b true)] (.slice none 0 0)=[Value.slice none 0 0=Value.slice none 0 0,Value.slice none 0 0=Value.slice none 0 0∧Value.func (Fn.func 40) { toList:=[]:Array Value } { toList:=[]:Array Value }=Value.func (Fn.func 40) { toList:=[]:Array Value } { toList:=[]:Array Value }]:=by kernel_rfl
theorem OE (x:aA):ax kB 32 400 (iQ x) (ff [1] true++ff [0,2] false++[(1000,.b true)]) (.int .i64 (aS x.p))=[vZ (aS x.1)=vZ (aS x.1),(!aS x.1==0)=true,x.1.size.le 1000000000]:=by kernel_rfl
theorem Q5 (x:aA):ax kB 32 400 (iQ x) (ff [3] true++ff [0,1,2,4] false++[(1000,.b true)]) (.int .i64 (aZ x.k x.l))=[vZ (aZ x.2 x.4)=vZ (aZ x.2 x.4),(!aZ x.2 x.4==0)=true,True,(!aS x.1==0)=false,x.1.size.le 1000000000]:=by kernel_rfl
theorem RM (x:aA):ax kB 32 400 (iQ x) (ff [4,5,6,8,9,10,12] true++ff [0,1,2,3,7,11,13] false++[(1000,.b true)]) (.int .i64 0)=[vZ 0=vZ 0,(x.2==0)=true,false=false,(!x.2==2)=true,(!x.2==2)=true,(!x.2==2)=true,63=63∧cx x.1 (mapOf [])=[]∧x.1.size≤1000000000,(!x.2==2)=true,(!x.2==2)=true,(!x.2==2)=true,(!aZ x.2 x.4==0)=false,True,(!aS x.1==0)=false,x.1.size.le 1000000000]:=by kernel_rfl
theorem Mj (x:aA):ax kB 32 400 (iQ x) (ff [4,5,6,8,9,10,14,15,16,18,19,20,21] true++ff [0,1,2,3,7,11,12,13,17,22] false++[(1000,.b true)]) (.int .i64 22)=[vZ 22=vZ 22,true=true,aH x.1=true,aH x.1=true,aH x.1=true,false=false,aH x.1=true,aH x.1=true,aH x.1=true,x.1.size.le 1000000000,(x.2==0)=false,false=false,(!x.2==2)=true,(!x.2==2)=true,(!x.2==2)=true,63=63∧cx x.1 (mapOf [])=[]∧x.1.size≤1000000000,(!x.2==2)=true,(!x.2==2)=true,(!x.2==2)=true,(!aZ x.2 x.4==0)=false,True,(!aS x.1==0)=false,x.1.size.le 1000000000]:=by kernel_rfl
theorem Mu (x:aA):ax kB 32 400 (iQ x) (ff [4,5,6,8,9,10,21,22,23,24,25,26,27] true++ff [0,1,2,3,7,11,12,13,14,15,16,17,18,19,20,28,29] false++[(1000,.b true)]) (.int .i64 0)=[vZ 0=vZ 0,false=false,true=true,true=true,true=true,true=true,true=true,true=true,true=true,false=false,aH x.1=false,aH x.1=false,aH x.1=false,aH x.1=false,aH x.1=false,aH x.1=false,x.1.size.le 1000000000,(x.2==0)=false,false=false,(!x.2==2)=true,(!x.2==2)=true,(!x.2==2)=true,63=63∧cx x.1 (mapOf [])=[]∧x.1.size≤1000000000,(!x.2==2)=true,(!x.2==2)=true,(!x.2==2)=true,(!aZ x.2 x.4==0)=false,True,(!aS x.1==0)=false,x.1.size.le 1000000000]:=by kernel_rfl
theorem MQ (x:aA):ax kB 32 400 (iQ x) (ff [13,14,15,17,18,19,20] true++ff [0,1,2,3,4,5,6,7,8,9,10,11,12,16,21] false++[(1000,.b true)]) (.int .i64 22)=[vZ 22=vZ 22,true=true,aH x.1=true,aH x.1=true,aH x.1=true,false=false,aH x.1=true,aH x.1=true,aH x.1=true,x.1.size.le 1000000000,(x.2==0)=false,false=false,(!x.2==2)=false,(!x.2==2)=false,(!x.2==2)=false,(!x.2==2)=false,(!x.2==2)=false,(!x.2==2)=false,(!aZ x.2 x.4==0)=false,True,(!aS x.1==0)=false,x.1.size.le 1000000000]:=by kernel_rfl
theorem NN (x:aA):ax kB 32 400 (iQ x) (ff [20,21,22,23,24,25,26] true++ff [0,1,2,3,4,5,6,7,8,9,10,11,12,13,14,15,16,17,18,19,27,28] false++[(1000,.b true)]) (.int .i64 0)=[vZ 0=vZ 0,false=false,true=true,true=true,true=true,true=true,true=true,true=true,true=true,false=false,aH x.1=false,aH x.1=false,aH x.1=false,aH x.1=false,aH x.1=false,aH x.1=false,x.1.size.le 1000000000,(x.2==0)=false,false=false,(!x.2==2)=false,(!x.2==2)=false,(!x.2==2)=false,(!x.2==2)=false,(!x.2==2)=false,(!x.2==2)=false,(!aZ x.2 x.4==0)=false,True,(!aS x.1==0)=false,x.1.size.le 1000000000]:=by kernel_rfl
def gT (w:World) (b:Nat):Prop:=w.heap[b]?=some (.cells #[.map none] 63 (0,0))
theorem tN {A:SV} {sh:SH} {es:List (SV × SV × Nat)} {cl:Nat} {q:Prop} (h:ph A sh=some (es,cl,q)) (hq:q) {ν:aU} {M:Own} {w0 w:World} (hr:HR ν M w0 sh w) {y:Value} (hv:VR ν A y):
  ∃ b,y=bX b∧((∃ m,b≠m∧ky w b m (mapOf es) cl∧dM es cl)∨(es=[]∧gT w b)):=by
 unfold ph at h
 split at h
 ·rename_i i
  split at h
  ·rename_i m t mk hl
   split at h
   ·rename_i es' cl' uP hm
    cases h
    obtain ⟨rfl,hT⟩:=hq
    obtain ⟨b,hb,rfl⟩:=VR.aC.1 hv
    obtain ⟨hi,hgi,b',ob,hb',ho,hor,_⟩:=hr.look hl
    rw [hb] at hb';cases hb'
    obtain ⟨hi2,hgi2,b2,ob2,hb2,ho2,hor2,_⟩:=hr.look hm
    have him:i≠m:=by
     rintro rfl
     rw [hl] at hm;cases hm
    have hne:b.1≠b2.1:=fun e=>him (hr.inj i m hi hi2 (by rw [hgi];simp) (by rw [hgi2];simp) b b2 hb hb2 e)
    refine ⟨b.1,rfl,.inl ⟨b2.1,hne,⟨?_,?_⟩,hT⟩⟩
    ·obtain ⟨ys,rest,rfl,hys,hx⟩:=hor
     obtain ⟨z1,u,rfl,r1,hu⟩:=hys.cons_inv
     obtain rfl:=hu.aB
     obtain ⟨b3,hb3,rfl⟩:=VR.dj.1 r1
     rw [hb2] at hb3;cases hb3
     have h0:rest=[]:=by
      have:([Value.map (some b2.1)]++rest).length=1:=hx
      simpa using this
     subst h0
     rw [ho];rfl
    ·obtain ⟨l,rfl,hl2⟩:=hor2
     rw [hT.1] at hl2
     rw [ho2,qM hl2]
   ·cases h
  ·rename_i t mk hl
   cases h
   subst hq
   obtain ⟨b,hb,rfl⟩:=VR.aC.1 hv
   obtain ⟨hi,hgi,b',ob,hb',ho,hor,_⟩:=hr.look hl
   rw [hb] at hb';cases hb'
   refine ⟨b.1,rfl,.inr ⟨rfl,?_⟩⟩
   obtain ⟨ys,rest,rfl,hys,hx⟩:=hor
   obtain ⟨z1,u,rfl,r1,hu⟩:=hys.cons_inv
   obtain rfl:=hu.aB
   obtain rfl:=VR.ah.1 r1
   have h0:rest=[]:=by
    have:([Value.map none]++rest).length=1:=hx
    simpa using this
   subst h0
   unfold gT
   rw [ho];rfl
  ·cases h
 ·cases h
theorem u0 {w:World} {b:Nat} (f:Value) (hm:MX w) (hA:gT w b):Calls Try.prog 38 #[bX b,f] w (zk w []):=by
 refine aY (E:=dV) rfl (d:=6) (l:=[(b,0)]) (os:=[.row [.v (.map none)] 63 (0,0) none]) rfl (by simp) (by simp) ?_ rfl (args:=[.ptr 0 0,.v f]) (a:=[bX b,f]) (S0:=DC f) (by kernel_rfl) (ay.cons (VR.aC.2 ⟨(b,0),rfl,rfl⟩) (ay.cons (VR.ah.2 rfl) ay.nil)) fun cs0=>?_
 ·intro j o' b' c' h1 h2
  match j with
  | 0=>
   simp only [List.getElem?_cons_zero,Option.some.injEq] at h1 h2
   subst h1
   cases h2
   exact ⟨_,hA,[.map none],[],rfl,ay.cons (VR.ah.2 rfl) ay.nil,rfl⟩
  | j+1=>simp at h1
 ·have hM:∀ z,¬ (aT [(b,0)] [(SO.row [.v (.map none)] 63 (0,0) none,false)]) z:=fun z=>a6 (os:=[_])
  have hB:dz (aT [(b,0)] [(SO.row [.v (.map none)] 63 (0,0) none,false)]) w (aT [(b,0)] [(SO.row [.v (.map none)] 63 (0,0) none,false)]) w:=dz.refl (dh (os:=[(SO.row [.v (.map none)] 63 (0,0) none,false)]) (by
   intro j o' m b' c' h1 h2
   match j with
   | 0=>
    simp only [List.getElem?_cons_zero,Option.some.injEq] at h1 h2
    cases h1
    cases h2
    exact ⟨_,hA,[.map none],[],rfl,ay.cons (VR.ah.2 rfl) ay.nil,rfl⟩
   | j+1=>simp at h1)) (fun _ h=>h)
  refine cz (qk hM hB hm) hM (n:=60) (o:=[(1000,.b true)]) (v:=.slice none 0 0) ⟨?_⟩ fun w' hw=>⟨hw,_,rfl,.inl ⟨rfl,rfl⟩⟩
  rw [Rj]
  simp only [ak,and_self,and_true,true_and]
theorem tn {w:World} {b:Nat} {p:ByteArray} (hm:MX w) (hA:gT w b):Calls Try.prog 50 #[bX b,.string p] w (zk w []):=by
 have hbl:b<w.heap.size:=(Array.getElem?_eq_some_iff.1 hA).1
 have hb:Below w.heap.size w (w.alloc (.cells #[.string p] 9)):=(Below.refl _ _).alloc (Nat.le_refl _) _
 have hm':MX (w.alloc (.cells #[.string p] 9)):=hm.keep fun k hk=>hb.block k hk
 have hA':gT (w.alloc (.cells #[.string p] 9)) b:=(hb.block b hbl).trans hA
 have cs:=fun f=>u0 f hm' hA'
 clear hA hA'
 go_enter Try.func50,Try.ntmps50
 go_wp2_with (go_at_call 38;refine (cs _).mono ?_;rintro e w' ⟨hb2,v,rfl,hv⟩)
 go_ret
 have h3:w.heap.size≤(w.alloc (.cells #[.string p] 9)).heap.size:=hb.size
 refine ⟨hb.trans (hb2.mono h3),_,rfl,?_⟩
 rcases hv with hv | ⟨hne,_⟩
 ·exact .inl ⟨rfl,hv.2⟩
 ·exact absurd rfl hne
theorem nk (p:ByteArray):cx p []=[]:=List.length_eq_zero_iff.1 (bB []).length_eq
theorem oq {A:SV} {sh:SH} {es:List (SV × SV × Nat)} {cl:Nat} {q:Prop} (h:ph A sh=some (es,cl,q)) (hq:q) {ν:aU} {M:Own} {w0 w:World} (hr:HR ν M w0 sh w) (hX:MX w) {p:ByteArray} (hp:p.size≤1000000000) {a:List Value} (ha:ay ν [A,.v (.string p)] a):
  Calls Try.prog 50 a.toArray w (zk w (cx p (mapOf es))):=by
 obtain ⟨y1,as1,rfl,q1,ha2⟩:=ha.cons_inv
 obtain ⟨y2,as2,rfl,q2,ha3⟩:=ha2.cons_inv
 obtain rfl:=ha3.aB
 obtain rfl:=VR.ah.1 q2
 obtain ⟨b,rfl,⟨m,hne,hA,hT⟩ | ⟨rfl,hA⟩⟩:=tN h hq hr q1
 ·exact vK hX hA hne hT.2.1 hT.2.2 hp
 ·rw [show cx p (mapOf [])=[] from nk p]
  exact tn hX hA
theorem BC:cr Try.prog MX (50,jM (gh Nw) (eE MI)):=by
 refine cr.br (iG ⟨_,Try.func50,by kernel_rfl,by kernel_rfl⟩ fun args sh ys n C elem ex p h hp ν M w0 w a hr hX ha=>?_) (fP ⟨_,Try.func50,by kernel_rfl,by kernel_rfl⟩ fun args sh v p h hp ν M w0 w a hr hX ha=>?_)
 ·dsimp only [Nw] at h
  split at h
  ·split at h
   ·rename_i es cl q ht
    cases h
    refine (oq ht hp.1 hr hX hp.2.2 ha).mono fun e w' ⟨hB,v,he,h⟩=>⟨hB,v,he,?_⟩
    rcases h with ⟨h1,_⟩ | ⟨_,h3⟩
    ·exact absurd h1 hp.2.1
    ·exact h3
   ·cases h
  ·cases h
 ·dsimp only [MI] at h
  split at h
  ·split at h
   ·rename_i es cl q ht
    cases h
    refine (oq ht hp.1 hr hX hp.2.2 ha).mono fun e w' ⟨hB,v,he,h⟩=>⟨hB,?_⟩
    rcases h with ⟨_,h3⟩ | ⟨h1,_⟩
    ·rw [he,h3]
    ·exact absurd hp.2.1 h1
   ·cases h
  ·cases h
theorem Oa {M:Own} {w0:World} (hM:∀ z,¬ M z) (h:MX w0):aW kB M w0:=
 aW.Bg (Checked.mixed Try.checked) (by kernel_rfl) (gu.of ke rfl eY) (ep.list (X:=MX) (l:=Mm) rfl (fun r hr=>by
  simp only [Mm,List.mem_cons,List.not_mem_nil,or_false] at hr
  rcases hr with rfl | rfl | rfl | rfl
  ·exact cr.pure (r:=(48,lQ)) qO
  ·exact cr.pure (r:=(49,kO)) (CQ E6)
  ·exact BC
  ·exact cr.pure (r:=(51,AB)) BN) fun ν s w hr _=>h.keep fun k hk=>hr.frame k hk (hM k)) (fun f g h=>by cases h)
def yu (E:List cg) (p:ByteArray):Option cg:=E.find? fun e=>oR p e.1
def js (E:List cg) (p:ByteArray):Int:=match yu E p with | some e=>e.1.k | none=>0
def dS (E:List cg) (x:aA):Int:=
 if a7 x.p=false then 23
 else if aZ x.k x.l≠0 then aZ x.k x.l
 else if x.k≠2∧cx x.p E≠[] then 22
 else if x.k=0 then 0
 else if aH x.p=true∧js E (aq x.p)≠2 then 22
 else if yu E x.p=none∧128≤E.length then 24
 else 0
theorem DY {E:List cg} (hn:(E.map fun e=>e.1.p).Nodup) {f:cg} (hf:f∈E) {p:ByteArray} (hp:f.1.p=p):yu E p=some f:=by
 unfold yu
 cases hq:E.find? (fun e=>oR p e.1) with
 | none=>rw [List.find?_eq_none] at hq;exact absurd (fw.2 hp) (hq f hf)
 | some e=>
  have h1:=List.mem_of_find?_eq_some hq
  have h2:e.1.p=p:=fw.1 (by have h3:=List.find?_some hq;exact h3)
  obtain ⟨i,hi⟩:=List.getElem?_of_mem h1
  obtain ⟨j,hj⟩:=List.getElem?_of_mem hf
  have:=lS hn hi hj (by rw [h2,hp])
  subst this
  rw [hi] at hj;exact hj
theorem AK {E:List cg} {p:ByteArray} (h:∀ e∈E,e.1.p≠p):yu E p=none:=by
 unfold yu
 rw [List.find?_eq_none];intro e he hq
 exact h e he (fw.1 hq)
section
variable {w0:World} {cs0:List Frame} {E:List cg} {cl:Nat} {x:aA} {M:Own} {ν:aU}
theorem En (hm:MX w0) (hM:∀ z,¬ M z) (hB:dG E cl) (few:E.length≤1000) (hp:x.p.size≤1000000000):
  af kB M w0 cs0 32 (fun e w'=>Below w0.heap.size w0 w'∧e=.returned (.int .i64 (dS E x))) ν (fy (E.map mI) cl x):=by
 have K:=Oa hM hm
 have hT:dM (E.map mI) cl:=⟨by rw [bp],by rw [bp];exact hB,by rw [bp];exact few⟩
 have go:∀ {o v},uw (ax kB 32 400 (fy (E.map mI) cl x) o v)→v=.int .i64 (dS E x)→af kB M w0 cs0 32 (fun e w'=>Below w0.heap.size w0 w'∧e=.returned (.int .i64 (dS E x))) ν (fy (E.map mI) cl x):=fun hd e=>
  cz K hM hd fun w' hw=>⟨hw,by rw [e]⟩
 have c1:=gO x.p
 have pz:=vh x.p
 let z:cg:=(x,0)
 cases g:a7 x.p
 ·have d1:(!aS x.1==(0:Int))=true:=by show (!(aS x.p==0))=true;rw [c1,g];rfl
  refine go (o:=(ff [1] true++ff [0,2] false++[(1000,.b true)])) (v:=.int .i64 (aS x.p)) ⟨?_⟩ (by unfold dS;rw [if_pos g];simp [aS,g])
  rw [RI (f:=z) (g:=z) (i:=0) (j:=0)]
  simp only [ak,d1,and_self,and_true,true_and];exact hp
 have d1:(!aS x.1==(0:Int))=false:=by show (!(aS x.p==0))=false;rw [c1,g];rfl
 by_cases cl1:aZ x.k x.l=0
 case neg=>
  have d2:(!aZ x.2 x.4==(0:Int))=true:=by simpa using cl1
  refine go (o:=(ff [3] true++ff [0,1,2,4] false++[(1000,.b true)])) (v:=.int .i64 (aZ x.k x.l)) ⟨?_⟩ (by unfold dS;rw [if_neg (by simp [g]),if_pos cl1])
  rw [Pc (f:=z) (g:=z) (i:=0) (j:=0)]
  simp only [ak,d1,d2,and_self,and_true,true_and];exact hp
 have d2:(!aZ x.2 x.4==(0:Int))=false:=by simpa using cl1
 have hit:∀ {q},(∃ f∈E,f.1.p=q)→∃ (f:cg) (j:Nat),yu E q=some f∧f.1.p=q∧(∀ e∈List.take j (E.map mI),cn q e.fst)∧(E.map mI)[j]?=some (SV.v (Value.string q),cU f,f.2):=by
  rintro q ⟨f,hf,rfl⟩
  obtain ⟨j,hj,_⟩:=ny hB.names hf
  exact ⟨f,j,DY hB.names hf rfl,rfl,hj.1,hj.2⟩
 have dy:∀ {q},¬ (∃ f∈E,f.1.p=q)→yu E q=none∧∀ e∈E.map mI,cn q e.fst:=fun {q} h=>by
  have h1:∀ e∈E,e.1.p≠q:=fun e he hq=>h ⟨e,he,hq⟩
  exact ⟨AK h1,jO h1⟩
 have hel:(E.map mI).length=E.length:=List.length_map _
 by_cases c0:x.k=0
 ·have d0:(x.2==(0:Int))=true:=beq_iff_eq.2 c0
  have d3:(!x.2==(2:Int))=true:=by rw [show x.2=0 from c0];rfl
  by_cases cb:cx x.p E=[]
  ·have cb':cx x.1 E=[]:=cb
   refine go (o:=(ff [4,5,6,8,9,10,12] true++ff [0,1,2,3,7,11,13] false++[(1000,.b true)])) (v:=.int .i64 0) ⟨?_⟩ (by unfold dS;rw [if_neg (by simp [g]),if_neg (by simp [cl1]),if_neg (by simp [cb]),if_pos c0])
   rw [Oh (f:=z) (g:=z) (i:=0) (j:=0)]
   simp only [ak,bp,d1,d2,d3,d0,and_self,and_true,true_and]
   repeat' apply And.intro
   all_goals first | exact hp | exact hT | exact hT.1 | exact hT.2.1 | exact hT.2.2 | exact cb' | skip
  ·have db:decide (((cx x.1 E).length:Int)>(0:Int))=true:=decide_eq_true (by have:=List.length_pos_iff.2 cb;exact_mod_cast this)
   have cb':cx x.1 E≠[]:=cb
   refine go (o:=(ff [4,5,6,7,8,9,10,11] true++ff [0,1,2,3,12] false++[(1000,.b true)])) (v:=.int .i64 22) ⟨?_⟩ (by unfold dS;rw [if_neg (by simp [g]),if_neg (by simp [cl1]),if_pos ⟨by omega,cb⟩])
   rw [Ob (f:=z) (g:=z) (i:=0) (j:=0)]
   simp only [ak,bp,d1,d2,d3,db,and_self,and_true,true_and]
   repeat' apply And.intro
   all_goals first | exact hp | exact hT | exact hT.1 | exact hT.2.1 | exact hT.2.2 | exact cb' | skip
 have d0:(x.2==(0:Int))=false:=beq_eq_false_iff_ne.2 c0
 by_cases c2:x.k=2
 ·have d3:(!x.2==(2:Int))=false:=by simpa using c2
  have hN:dS E x=if aH x.p=true∧js E (aq x.p)≠2 then 22 else if yu E x.p=none∧128≤E.length then 24 else 0:=by
   unfold dS;rw [if_neg (by simp [g]),if_neg (by simp [cl1]),if_neg (by simp [c2]),if_neg c0]
  cases u:aH x.p
  ·have u':aH x.1=false:=u
   rw [u,if_neg (by simp)] at hN
   by_cases ht:∃ f∈E,f.1.p=x.p
   ·obtain ⟨gg,jj,ga,gp,gj1,gj2⟩:=hit ht
    refine go (o:=([(20,.hit jj (cU gg) gg.2)]++ff [0,1,2,3,4,5,6,7,8,9,10,11,12,13,14,15,16,17,18,19,21,22,23,24,25,26,27,28,29] false++[(1000,.b true)])) (v:=.int .i64 0) ⟨?_⟩ (by rw [hN,if_neg (by simp [ga])])
    rw [LF (f:=z) (j:=0) (g:=gg) (i:=jj)]
    simp only [ak,bp,d1,d2,d3,d0,hel,u',and_self,and_true,true_and]
    repeat' apply And.intro
    all_goals first | exact hp | exact hT | exact hT.1 | exact hT.2.1 | exact hT.2.2 | exact gj1 | exact gj2 | skip
   ·obtain ⟨ga,gm⟩:=dy ht
    by_cases cf:128≤E.length
    ·have df:decide ((E.length:Int)≥(128:Int))=true:=decide_eq_true (by omega)
     refine go (o:=([(20,.dy)]++ff [21,22,23,24,25,26,27,28] true++ff [0,1,2,3,4,5,6,7,8,9,10,11,12,13,14,15,16,17,18,19,29] false++[(1000,.b true)])) (v:=.int .i64 24) ⟨?_⟩ (by rw [hN,if_pos ⟨ga,cf⟩])
     rw [Kj (f:=z) (j:=0) (g:=z) (i:=0)]
     simp only [ak,bp,d1,d2,d3,d0,hel,u',df,and_self,and_true,true_and]
     repeat' apply And.intro
     all_goals first | exact hp | exact hT | exact hT.1 | exact hT.2.1 | exact hT.2.2 | exact gm | skip
    ·have df:decide ((E.length:Int)≥(128:Int))=false:=decide_eq_false (by omega)
     refine go (o:=([(20,.dy)]++ff [21,22,23,24,25,26] true++ff [0,1,2,3,4,5,6,7,8,9,10,11,12,13,14,15,16,17,18,19,28] false++[(1000,.b true)])) (v:=.int .i64 0) ⟨?_⟩ (by rw [hN,if_neg (by omega)])
     rw [KD (f:=z) (j:=0) (g:=z) (i:=0)]
     simp only [ak,bp,d1,d2,d3,d0,hel,u',df,and_self,and_true,true_and]
     repeat' apply And.intro
     all_goals first | exact hp | exact hT | exact hT.1 | exact hT.2.1 | exact hT.2.2 | exact gm | skip
  ·have u':aH x.1=true:=u
   rw [u] at hN
   by_cases hu:∃ f∈E,f.1.p=aq x.p
   ·obtain ⟨f,j,fa,fp,hj1,hj2⟩:=hit hu
    have hk:js E (aq x.p)=f.1.k:=by unfold js;rw [fa]
    rw [hk] at hN
    by_cases ck:f.1.k=2
    ·have du:(!f.fst.2==(2:Int))=false:=by simpa using ck
     rw [if_neg (by simp [ck])] at hN
     by_cases ht:∃ f∈E,f.1.p=x.p
     ·obtain ⟨gg,jj,ga,gp,gj1,gj2⟩:=hit ht
      refine go (o:=([(17,.hit j (cU f) f.2),(22,.hit jj (cU gg) gg.2)]++ff [13,14,15,18,19,20] true++ff [0,1,2,3,4,5,6,7,8,9,10,11,12,16,21,23,24,25,26,27,28,29,30,31] false++[(1000,.b true)])) (v:=.int .i64 0) ⟨?_⟩ (by rw [hN,if_neg (by simp [ga])])
      rw [Kb (f:=f) (j:=j) (g:=gg) (i:=jj)]
      simp only [ak,bp,d1,d2,d3,d0,hel,u',du,and_self,and_true,true_and]
      repeat' apply And.intro
      all_goals first | exact hp | exact hT | exact hT.1 | exact hT.2.1 | exact hT.2.2 | exact hj1 | exact hj2 | exact gj1 | exact gj2 | skip
     ·obtain ⟨ga,gm⟩:=dy ht
      by_cases cf:128≤E.length
      ·have df:decide ((E.length:Int)≥(128:Int))=true:=decide_eq_true (by omega)
       refine go (o:=([(17,.hit j (cU f) f.2),(22,.dy)]++ff [13,14,15,18,19,20,23,24,25,26,27,28,29,30] true++ff [0,1,2,3,4,5,6,7,8,9,10,11,12,16,21,31] false++[(1000,.b true)])) (v:=.int .i64 24) ⟨?_⟩ (by rw [hN,if_pos ⟨ga,cf⟩])
       rw [KA (f:=f) (j:=j) (g:=z) (i:=0)]
       simp only [ak,bp,d1,d2,d3,d0,hel,u',du,df,and_self,and_true,true_and]
       repeat' apply And.intro
       all_goals first | exact hp | exact hT | exact hT.1 | exact hT.2.1 | exact hT.2.2 | exact hj1 | exact hj2 | exact gm | skip
      ·have df:decide ((E.length:Int)≥(128:Int))=false:=decide_eq_false (by omega)
       refine go (o:=([(17,.hit j (cU f) f.2),(22,.dy)]++ff [13,14,15,18,19,20,23,24,25,26,27,28] true++ff [0,1,2,3,4,5,6,7,8,9,10,11,12,16,21,30] false++[(1000,.b true)])) (v:=.int .i64 0) ⟨?_⟩ (by rw [hN,if_neg (by omega)])
       rw [Kr (f:=f) (j:=j) (g:=z) (i:=0)]
       simp only [ak,bp,d1,d2,d3,d0,hel,u',du,df,and_self,and_true,true_and]
       repeat' apply And.intro
       all_goals first | exact hp | exact hT | exact hT.1 | exact hT.2.1 | exact hT.2.2 | exact hj1 | exact hj2 | exact gm | skip
    ·have du:(!f.fst.2==(2:Int))=true:=by simpa using ck
     rw [if_pos ⟨rfl,ck⟩] at hN
     refine go (o:=([(17,.hit j (cU f) f.2)]++ff [13,14,15,18,19,20,21] true++ff [0,1,2,3,4,5,6,7,8,9,10,11,12,16,22] false++[(1000,.b true)])) (v:=.int .i64 22) ⟨?_⟩ (by rw [hN])
     rw [La (f:=f) (j:=j) (g:=z) (i:=0)]
     simp only [ak,bp,d1,d2,d3,d0,hel,u',du,and_self,and_true,true_and]
     repeat' apply And.intro
     all_goals first | exact hp | exact hT | exact hT.1 | exact hT.2.1 | exact hT.2.2 | exact hj1 | exact hj2 | skip
   ·obtain ⟨fa,fm⟩:=dy hu
    have hk:js E (aq x.p)=0:=by unfold js;rw [fa]
    rw [hk,if_pos ⟨rfl,by decide⟩] at hN
    refine go (o:=([(17,.dy),(22,.dy)]++ff [13,14,15,18,19,20] true++ff [0,1,2,3,4,5,6,7,8,9,10,11,12,16] false++[(1000,.b true)])) (v:=.int .i64 22) ⟨?_⟩ (by rw [hN])
    rw [LG (f:=z) (j:=0) (g:=z) (i:=0)]
    simp only [ak,bp,d1,d2,d3,d0,hel,u',and_self,and_true,true_and]
    repeat' apply And.intro
    all_goals first | exact hp | exact hT | exact hT.1 | exact hT.2.1 | exact hT.2.2 | exact fm | skip
 ·have d3:(!x.2==(2:Int))=true:=by simpa using c2
  by_cases cb:cx x.p E=[]
  case neg=>
   have db:decide (((cx x.1 E).length:Int)>(0:Int))=true:=decide_eq_true (by have:=List.length_pos_iff.2 cb;exact_mod_cast this)
   have cb':cx x.1 E≠[]:=cb
   refine go (o:=(ff [4,5,6,7,8,9,10,11] true++ff [0,1,2,3,12] false++[(1000,.b true)])) (v:=.int .i64 22) ⟨?_⟩ (by unfold dS;rw [if_neg (by simp [g]),if_neg (by simp [cl1]),if_pos ⟨c2,cb⟩])
   rw [Ob (f:=z) (g:=z) (i:=0) (j:=0)]
   simp only [ak,bp,d1,d2,d3,db,and_self,and_true,true_and]
   repeat' apply And.intro
   all_goals first | exact hp | exact hT | exact hT.1 | exact hT.2.1 | exact hT.2.2 | exact cb' | skip
  have cb':cx x.1 E=[]:=cb
  have hN:dS E x=if aH x.p=true∧js E (aq x.p)≠2 then 22 else if yu E x.p=none∧128≤E.length then 24 else 0:=by
   unfold dS;rw [if_neg (by simp [g]),if_neg (by simp [cl1]),if_neg (by simp [cb]),if_neg c0]
  cases u:aH x.p
  ·have u':aH x.1=false:=u
   rw [u,if_neg (by simp)] at hN
   by_cases ht:∃ f∈E,f.1.p=x.p
   ·obtain ⟨gg,jj,ga,gp,gj1,gj2⟩:=hit ht
    refine go (o:=([(21,.hit jj (cU gg) gg.2)]++ff [4,5,6,8,9,10] true++ff [0,1,2,3,7,11,12,13,14,15,16,17,18,19,20,22,23,24,25,26,27,28,29,30] false++[(1000,.b true)])) (v:=.int .i64 0) ⟨?_⟩ (by rw [hN,if_neg (by simp [ga])])
    rw [JJ (f:=z) (j:=0) (g:=gg) (i:=jj)]
    simp only [ak,bp,d1,d2,d3,d0,hel,u',and_self,and_true,true_and]
    repeat' apply And.intro
    all_goals first | exact hp | exact hT | exact hT.1 | exact hT.2.1 | exact hT.2.2 | exact cb' | exact gj1 | exact gj2 | skip
   ·obtain ⟨ga,gm⟩:=dy ht
    by_cases cf:128≤E.length
    ·have df:decide ((E.length:Int)≥(128:Int))=true:=decide_eq_true (by omega)
     refine go (o:=([(21,.dy)]++ff [4,5,6,8,9,10,22,23,24,25,26,27,28,29] true++ff [0,1,2,3,7,11,12,13,14,15,16,17,18,19,20,30] false++[(1000,.b true)])) (v:=.int .i64 24) ⟨?_⟩ (by rw [hN,if_pos ⟨ga,cf⟩])
     rw [K9 (f:=z) (j:=0) (g:=z) (i:=0)]
     simp only [ak,bp,d1,d2,d3,d0,hel,u',df,and_self,and_true,true_and]
     repeat' apply And.intro
     all_goals first | exact hp | exact hT | exact hT.1 | exact hT.2.1 | exact hT.2.2 | exact cb' | exact gm | skip
    ·have df:decide ((E.length:Int)≥(128:Int))=false:=decide_eq_false (by omega)
     refine go (o:=([(21,.dy)]++ff [4,5,6,8,9,10,22,23,24,25,26,27] true++ff [0,1,2,3,7,11,12,13,14,15,16,17,18,19,20,29] false++[(1000,.b true)])) (v:=.int .i64 0) ⟨?_⟩ (by rw [hN,if_neg (by omega)])
     rw [LJ (f:=z) (j:=0) (g:=z) (i:=0)]
     simp only [ak,bp,d1,d2,d3,d0,hel,u',df,and_self,and_true,true_and]
     repeat' apply And.intro
     all_goals first | exact hp | exact hT | exact hT.1 | exact hT.2.1 | exact hT.2.2 | exact cb' | exact gm | skip
  ·have u':aH x.1=true:=u
   rw [u] at hN
   by_cases hu:∃ f∈E,f.1.p=aq x.p
   ·obtain ⟨f,j,fa,fp,hj1,hj2⟩:=hit hu
    have hk:js E (aq x.p)=f.1.k:=by unfold js;rw [fa]
    rw [hk] at hN
    by_cases ck:f.1.k=2
    ·have du:(!f.fst.2==(2:Int))=false:=by simpa using ck
     rw [if_neg (by simp [ck])] at hN
     by_cases ht:∃ f∈E,f.1.p=x.p
     ·obtain ⟨gg,jj,ga,gp,gj1,gj2⟩:=hit ht
      refine go (o:=([(18,.hit j (cU f) f.2),(23,.hit jj (cU gg) gg.2)]++ff [4,5,6,8,9,10,14,15,16,19,20,21] true++ff [0,1,2,3,7,11,12,13,17,22,24,25,26,27,28,29,30,31,32] false++[(1000,.b true)])) (v:=.int .i64 0) ⟨?_⟩ (by rw [hN,if_neg (by simp [ga])])
      rw [Lu (f:=f) (j:=j) (g:=gg) (i:=jj)]
      simp only [ak,bp,d1,d2,d3,d0,hel,u',du,and_self,and_true,true_and]
      repeat' apply And.intro
      all_goals first | exact hp | exact hT | exact hT.1 | exact hT.2.1 | exact hT.2.2 | exact cb' | exact hj1 | exact hj2 | exact gj1 | exact gj2 | skip
     ·obtain ⟨ga,gm⟩:=dy ht
      by_cases cf:128≤E.length
      ·have df:decide ((E.length:Int)≥(128:Int))=true:=decide_eq_true (by omega)
       refine go (o:=([(18,.hit j (cU f) f.2),(23,.dy)]++ff [4,5,6,8,9,10,14,15,16,19,20,21,24,25,26,27,28,29,30,31] true++ff [0,1,2,3,7,11,12,13,17,22,32] false++[(1000,.b true)])) (v:=.int .i64 24) ⟨?_⟩ (by rw [hN,if_pos ⟨ga,cf⟩])
       rw [Lt (f:=f) (j:=j) (g:=z) (i:=0)]
       simp only [ak,bp,d1,d2,d3,d0,hel,u',du,df,and_self,and_true,true_and]
       repeat' apply And.intro
       all_goals first | exact hp | exact hT | exact hT.1 | exact hT.2.1 | exact hT.2.2 | exact cb' | exact hj1 | exact hj2 | exact gm | skip
      ·have df:decide ((E.length:Int)≥(128:Int))=false:=decide_eq_false (by omega)
       refine go (o:=([(18,.hit j (cU f) f.2),(23,.dy)]++ff [4,5,6,8,9,10,14,15,16,19,20,21,24,25,26,27,28,29] true++ff [0,1,2,3,7,11,12,13,17,22,31] false++[(1000,.b true)])) (v:=.int .i64 0) ⟨?_⟩ (by rw [hN,if_neg (by omega)])
       rw [JE (f:=f) (j:=j) (g:=z) (i:=0)]
       simp only [ak,bp,d1,d2,d3,d0,hel,u',du,df,and_self,and_true,true_and]
       repeat' apply And.intro
       all_goals first | exact hp | exact hT | exact hT.1 | exact hT.2.1 | exact hT.2.2 | exact cb' | exact hj1 | exact hj2 | exact gm | skip
    ·have du:(!f.fst.2==(2:Int))=true:=by simpa using ck
     rw [if_pos ⟨rfl,ck⟩] at hN
     refine go (o:=([(18,.hit j (cU f) f.2)]++ff [4,5,6,8,9,10,14,15,16,19,20,21,22] true++ff [0,1,2,3,7,11,12,13,17,23] false++[(1000,.b true)])) (v:=.int .i64 22) ⟨?_⟩ (by rw [hN])
     rw [Lg (f:=f) (j:=j) (g:=z) (i:=0)]
     simp only [ak,bp,d1,d2,d3,d0,hel,u',du,and_self,and_true,true_and]
     repeat' apply And.intro
     all_goals first | exact hp | exact hT | exact hT.1 | exact hT.2.1 | exact hT.2.2 | exact cb' | exact hj1 | exact hj2 | skip
   ·obtain ⟨fa,fm⟩:=dy hu
    have hk:js E (aq x.p)=0:=by unfold js;rw [fa]
    rw [hk,if_pos ⟨rfl,by decide⟩] at hN
    refine go (o:=([(18,.dy),(23,.dy)]++ff [4,5,6,8,9,10,14,15,16,19,20,21] true++ff [0,1,2,3,7,11,12,13,17] false++[(1000,.b true)])) (v:=.int .i64 22) ⟨?_⟩ (by rw [hN])
    rw [LU (f:=z) (j:=0) (g:=z) (i:=0)]
    simp only [ak,bp,d1,d2,d3,d0,hel,u',and_self,and_true,true_and]
    repeat' apply And.intro
    all_goals first | exact hp | exact hT | exact hT.1 | exact hT.2.1 | exact hT.2.2 | exact cb' | exact fm | skip
theorem BZ (hm:MX w0) (hM:∀ z,¬ M z) (hp:x.p.size≤1000000000):
  af kB M w0 cs0 32 (fun e w'=>Below w0.heap.size w0 w'∧e=.returned (.int .i64 (dS [] x))) ν (iQ x):=by
 have K:=Oa hM hm
 have go:∀ {o v},uw (ax kB 32 400 (iQ x) o v)→v=.int .i64 (dS [] x)→af kB M w0 cs0 32 (fun e w'=>Below w0.heap.size w0 w'∧e=.returned (.int .i64 (dS [] x))) ν (iQ x):=fun hd e=>
  cz K hM hd fun w' hw=>⟨hw,by rw [e]⟩
 have c1:=gO x.p
 have hb:cx x.1 (mapOf [])=[]:=nk x.p
 have hb':cx x.p []=[]:=nk x.p
 cases g:a7 x.p
 ·have d1:(!aS x.1==(0:Int))=true:=by show (!(aS x.p==0))=true;rw [c1,g];rfl
  refine go (o:=(ff [1] true++ff [0,2] false++[(1000,.b true)])) (v:=.int .i64 (aS x.p)) ⟨?_⟩ (by unfold dS;rw [if_pos g];simp [aS,g])
  rw [OE]
  simp only [ak,d1,and_self,and_true,true_and];exact hp
 have d1:(!aS x.1==(0:Int))=false:=by show (!(aS x.p==0))=false;rw [c1,g];rfl
 by_cases cl1:aZ x.k x.l=0
 case neg=>
  have d2:(!aZ x.2 x.4==(0:Int))=true:=by simpa using cl1
  refine go (o:=(ff [3] true++ff [0,1,2,4] false++[(1000,.b true)])) (v:=.int .i64 (aZ x.k x.l)) ⟨?_⟩ (by unfold dS;rw [if_neg (by simp [g]),if_pos cl1])
  rw [Q5]
  simp only [ak,d1,d2,and_self,and_true,true_and];exact hp
 have d2:(!aZ x.2 x.4==(0:Int))=false:=by simpa using cl1
 by_cases c0:x.k=0
 ·have d0:(x.2==(0:Int))=true:=beq_iff_eq.2 c0
  have d3:(!x.2==(2:Int))=true:=by rw [show x.2=0 from c0];rfl
  refine go (o:=(ff [4,5,6,8,9,10,12] true++ff [0,1,2,3,7,11,13] false++[(1000,.b true)])) (v:=.int .i64 0) ⟨?_⟩ (by unfold dS;rw [if_neg (by simp [g]),if_neg (by simp [cl1]),if_neg (by simp [hb']),if_pos c0])
  rw [RM]
  simp only [ak,hb,d1,d2,d3,d0,and_self,and_true,true_and];exact ⟨hp,hp⟩
 have d0:(x.2==(0:Int))=false:=beq_eq_false_iff_ne.2 c0
 have hN:dS [] x=if aH x.p=true then 22 else 0:=by
  unfold dS;rw [if_neg (by simp [g]),if_neg (by simp [cl1]),if_neg (by simp [hb']),if_neg c0]
  cases aH x.p
  ·rw [if_neg (by simp),if_neg (by simp),if_neg (by simp)]
  ·rw [if_pos ⟨rfl,by show (0:Int)≠2;decide⟩,if_pos rfl]
 cases u:aH x.p
 ·have u':aH x.1=false:=u
  rw [u,if_neg (by decide)] at hN
  by_cases c2:x.k=2
  ·have d3:(!x.2==(2:Int))=false:=by simpa using c2
   refine go (o:=(ff [20,21,22,23,24,25,26] true++ff [0,1,2,3,4,5,6,7,8,9,10,11,12,13,14,15,16,17,18,19,27,28] false++[(1000,.b true)])) (v:=.int .i64 0) ⟨?_⟩ (by rw [hN])
   rw [NN]
   simp only [ak,hb,d1,d2,d3,d0,u',and_self,and_true,true_and]
   repeat' apply And.intro
   all_goals first | exact hp | skip
  ·have d3:(!x.2==(2:Int))=true:=by simpa using c2
   refine go (o:=(ff [4,5,6,8,9,10,21,22,23,24,25,26,27] true++ff [0,1,2,3,7,11,12,13,14,15,16,17,18,19,20,28,29] false++[(1000,.b true)])) (v:=.int .i64 0) ⟨?_⟩ (by rw [hN])
   rw [Mu]
   simp only [ak,hb,d1,d2,d3,d0,u',and_self,and_true,true_and]
   repeat' apply And.intro
   all_goals first | exact hp | skip
 ·have u':aH x.1=true:=u
  rw [u,if_pos rfl] at hN
  by_cases c2:x.k=2
  ·have d3:(!x.2==(2:Int))=false:=by simpa using c2
   refine go (o:=(ff [13,14,15,17,18,19,20] true++ff [0,1,2,3,4,5,6,7,8,9,10,11,12,16,21] false++[(1000,.b true)])) (v:=.int .i64 22) ⟨?_⟩ (by rw [hN])
   rw [MQ]
   simp only [ak,hb,d1,d2,d3,d0,u',and_self,and_true,true_and]
   repeat' apply And.intro
   all_goals first | exact hp | skip
  ·have d3:(!x.2==(2:Int))=true:=by simpa using c2
   refine go (o:=(ff [4,5,6,8,9,10,14,15,16,18,19,20,21] true++ff [0,1,2,3,7,11,12,13,17,22] false++[(1000,.b true)])) (v:=.int .i64 22) ⟨?_⟩ (by rw [hN])
   rw [Mj]
   simp only [ak,hb,d1,d2,d3,d0,u',and_self,and_true,true_and]
   repeat' apply And.intro
   all_goals first | exact hp | skip
end
def HJ:Co:=fun args sh=>match args with
 | [A,.v (.string p),L]=>match ph A sh,kG L with
  | some (es,cl,q),some (k,a,l,c)=>some (.int .i64 (dS (mapOf es) ⟨p,k,a,l,c⟩),q∧p.size≤1000000000)
  | _,_=>none
 | _=>none
theorem HX:cr Try.prog MX (32,eE HJ):=by
 refine fP ⟨_,Try.func32,by kernel_rfl,by kernel_rfl⟩ fun args sh v p h hp ν M w0 w a hr hX ha=>?_
 dsimp only [HJ] at h
 split at h
 ·rename_i A p L
  split at h
  ·rename_i es cl q k a1 l1 c1 ht hd
   cases h
   obtain ⟨y1,as1,rfl,q1,ha2⟩:=ha.cons_inv
   obtain ⟨y2,as2,rfl,q2,ha3⟩:=ha2.cons_inv
   obtain ⟨y3,as3,rfl,q3,ha4⟩:=ha3.cons_inv
   obtain rfl:=ha4.aB
   obtain rfl:=VR.ah.1 q2
   obtain rfl:=iZ hd q3
   obtain ⟨b,rfl,⟨m,hne,hA,hT⟩ | ⟨rfl,hA⟩⟩:=tN ht hp.1 hr q1
   ·obtain ⟨_,hTo,hTf⟩:=hT
    generalize mapOf es=E at *
    refine aY (E:=kB) rfl (d:=6) (l:=[(b,0),(m,0)]) (os:=[.row [.map 1] 63 (0,0) none,.map (E.map mI) cl]) rfl (by simp) (by simpa using hne) ?_ rfl (args:=[.ptr 0 0,.v (.string p),jg ⟨p,k,a1,l1,c1⟩]) (S0:=fy (E.map mI) cl ⟨p,k,a1,l1,c1⟩) (by kernel_rfl) (ay.cons (VR.aC.2 ⟨(b,0),rfl,rfl⟩) (ay.cons (VR.ah.2 rfl) (ay.cons (VR.ah.2 rfl) ay.nil))) fun cs0=>En hX (fun z=>a6 (os:=[_,_])) hTo hTf hp.2
    intro j o' b' c' h1 h2
    match j with
    | 0=>
     simp only [List.getElem?_cons_zero,Option.some.injEq] at h1 h2
     subst h1
     cases h2
     exact ⟨_,hA.row,_,[],rfl,ay.cons (VR.dj.2 ⟨(m,0),rfl,rfl⟩) ay.nil,rfl⟩
    | 1=>
     simp only [List.getElem?_cons_succ,List.getElem?_cons_zero,Option.some.injEq] at h1 h2
     subst h1
     cases h2
     exact ⟨_,hA.map,_,rfl,nr E⟩
    | j+2=>simp at h1
   ·refine aY (E:=kB) rfl (d:=6) (l:=[(b,0)]) (os:=[.row [.v (.map none)] 63 (0,0) none]) rfl (by simp) (by simp) ?_ rfl (args:=[.ptr 0 0,.v (.string p),jg ⟨p,k,a1,l1,c1⟩]) (S0:=iQ ⟨p,k,a1,l1,c1⟩) (by kernel_rfl) (ay.cons (VR.aC.2 ⟨(b,0),rfl,rfl⟩) (ay.cons (VR.ah.2 rfl) (ay.cons (VR.ah.2 rfl) ay.nil))) fun cs0=>BZ hX (fun z=>a6 (os:=[_])) hp.2
    intro j o' b' c' h1 h2
    match j with
    | 0=>
     simp only [List.getElem?_cons_zero,Option.some.injEq] at h1 h2
     subst h1
     cases h2
     exact ⟨_,hA,[.map none],[],rfl,ay.cons (VR.ah.2 rfl) ay.nil,rfl⟩
    | j+1=>simp at h1
  ·cases h
 ·cases h
theorem dQ.Bk {cm ys:aA→List Int} {E:List cg} {cl:Nat} {xs:List aA} (h:dQ cm ys E cl xs) (p:ByteArray):js E p=(aj p xs).k∧(yu E p=none↔(aj p xs).k=0):=by
 by_cases hf:∃ f∈E,f.1.p=p
 ·obtain ⟨f,hf,rfl⟩:=hf
  obtain ⟨h1,_,e,he,h2,h3⟩:=h.xE hf
  have ha:=DY h.ok.names hf rfl
  unfold js
  rw [ha]
  refine ⟨h1.symm,fun h=>(nomatch h),fun h0=>?_⟩
  rw [h2] at h0
  exact absurd h0 (h.kind e he)
 ·have hm:∀ e∈E,e.1.p≠p:=fun e he hq=>hf ⟨e,he,hq⟩
  have ha:=AK hm
  have hz:=(mE (xs:=xs) (p:=p) (h.dy (x:=⟨p,0,none,0,0⟩) hm)).1
  unfold js
  rw [ha,hz]
  exact ⟨rfl,fun _=>rfl,fun _=>rfl⟩
theorem dQ.below {cm ys:aA→List Int} {E:List cg} {cl:Nat} {xs:List aA} (h:dQ cm ys E cl xs) (p:ByteArray):cx p E=[]↔bP p xs=[]:=by
 have h1:(cx p E).length=(bP p xs).length:=by
  unfold cx bP
  rw [(bB _).length_eq]
  exact (h.sa.filter _).length_eq
 rw [← List.length_eq_zero_iff,← List.length_eq_zero_iff,h1]
theorem Fc (x:aA):A3 x=aH x.p:=by
 unfold A3
 rw [BP,oP,oP]
 congr 1
 cases h:(aq x.p).data.toList with
 | nil=>rfl
 | cons a l=>rfl
theorem ve {cm ys:aA→List Int} {E:List cg} {cl:Nat} {xs:List aA} (h:dQ cm ys E cl xs) (x:aA):dS E x=(aP xs x).2:=by
 have hb:=h.below x.p
 have h1:=(h.Bk (aq x.p)).1
 have h2:=(h.Bk x.p).2
 have hl:=h.len
 unfold dS aP
 by_cases g:a7 x.p=false
 ·rw [if_pos g,if_pos g]
 rw [if_neg g,if_neg g]
 by_cases c1:aZ x.k x.l≠0
 ·rw [if_pos c1,if_pos c1]
 rw [if_neg c1,if_neg c1]
 by_cases c2:x.k≠2∧cx x.p E≠[]
 ·rw [if_pos c2,if_pos ⟨c2.1,fun e=>c2.2 (hb.2 e)⟩]
 have c2':¬ (x.k≠2∧bP x.p xs≠[]):=fun e=>c2 ⟨e.1,fun k=>e.2 (hb.1 k)⟩
 rw [if_neg c2,if_neg c2']
 by_cases c0:x.k=0
 ·rw [if_pos c0,if_pos c0]
 rw [if_neg c0,if_neg c0,Fc,h1]
 by_cases cu:aH x.p=true∧(aj (aq x.p) xs).k≠2
 ·rw [if_pos cu,if_pos cu]
 rw [if_neg cu,if_neg cu]
 by_cases cf:yu E x.p=none∧128≤E.length
 ·rw [if_pos cf,if_pos ⟨h2.1 cf.1,by omega⟩]
 ·have cf':¬ ((aj x.p xs).k=0∧128≤xs.length):=fun e=>cf ⟨h2.2 e.1,by omega⟩
  rw [if_neg cf,if_neg cf']
noncomputable def rI (x:aA) (ys:List Int):SM:=(bC (yM x.a x.l x.c ys) 33 [jg x] (bO 6 0 0 [])).getD dC
theorem Od (x:aA) (ys:List Int):fk (yM x.a x.l x.c ys) 33 300 (rI x ys) ([(1000,.b true)]++ff (List.range 10) false) [] (.v (.agg #[.int .i64 x.k,.slice none 0 0]))=[Value.agg { toList:=[vZ x.2,Value.slice none 0 0]:Array Value }=Value.agg { toList:=[vZ x.2,Value.slice none 0 0]:Array Value },(x.2==x.2)=true,x.3=none]:=by kernel_rfl
theorem OX (x:aA) (ys:List Int) (m:List SV):bR (yM x.a x.l x.c ys) 33 300 (rI x ys) ([(1000,.b true)]++ff (List.range 10) true) (.agg [.v (.int .i64 x.k),.sl 2 0 x.l none]) 2 (.row m 5 (0,0) (some 1))=[vZ x.2=vZ x.2,0=0∧x.4=x.4∧nZ=none,List.map SV.v (List.map (Value.int IntKind.u8) ys)=m,m.all ab=true,(x.2==x.2)=true,(x.3=x.3∧x.4=x.4∧x.5=x.5)∧x.3≠none]:=by kernel_rfl
def xy (w0 w':World) (x:aA) (ys:List Int) (a:Option Addr) (c:Nat) (l:Nat):Prop:=
 (x.a=none∧a=none∧l=0∧c=0)∨(x.a≠none∧l=x.l∧∃ b,a=some ⟨b,0,none⟩∧cy w0 w' (.slice (some ⟨b,0,none⟩) x.l c) (ys.map (Value.int .u8)) x.l 1 5)
theorem ka {w:World} {x:aA} {ys:List Int} (hD:fV w x.a x.l ys):Calls Try.prog 33 #[.agg #[.int .i64 x.k,.slice x.a x.l x.c]] w fun e w'=>Below w.heap.size w w'∧∃ a c l,e=.returned (.agg #[.int .i64 x.k,.slice a l c])∧xy w w' x ys a c l:=by
 refine cp (E:=yM x.a x.l x.c ys) rfl rfl (args:=[jg x]) (a:=[.agg #[.int .i64 x.k,.slice x.a x.l x.c]]) (S0:=rI x ys) (by kernel_rfl) (ay.cons (VR.ah.2 rfl) ay.nil) fun cs0=>?_
 by_cases ha:x.a=none
 ·refine j3 (v:=.agg #[.int .i64 x.k,.slice none 0 0]) (Kn (x:=⟨x.p,0,x.k,x.a,x.l,x.c⟩) bo hD) bo (rn:=[]) (n:=300) (o:=([(1000,.b true)]++ff (List.range 10) false)) ⟨?_⟩ fun w' hB=>⟨hB,none,0,0,rfl,.inl ⟨ha,rfl,rfl,rfl⟩⟩
  show ak (fk (yM x.a x.l x.c ys) 33 300 (rI x ys) ([(1000,.b true)]++ff (List.range 10) false) [] (.v (.agg #[.int .i64 x.k,.slice none 0 0])))
  rw [Od]
  simp only [ak,and_self,and_true,true_and]
  exact ⟨ha,beq_self_eq_true x.k⟩
 ·refine af.bR (Kn (x:=⟨x.p,0,x.k,x.a,x.l,x.c⟩) bo hD) (n:=300) (o:=([(1000,.b true)]++ff (List.range 10) true)) (x:=.agg [.v (.int .i64 x.k),.sl 2 0 x.l none]) (i:=2) (so:=.row (List.map SV.v (List.map (Value.int .u8) ys)) 5 (0,0) (some 1)) (by
   show ak (bR (yM x.a x.l x.c ys) 33 300 (rI x ys) ([(1000,.b true)]++ff (List.range 10) true) (.agg [.v (.int .i64 x.k),.sl 2 0 x.l none]) 2 (.row (List.map SV.v (List.map (Value.int .u8) ys)) 5 (0,0) (some 1)))
   rw [OX]
   simp only [ak,dg,and_self,and_true,true_and]
   exact ⟨ha,beq_self_eq_true x.k⟩) fun ν' w' y b ob hv hb ho hor hw hB=>?_
  have hn:w.heap.size≤b.1:=by
   rcases hw with h | h
   ·exact h
   ·exact absurd h (bo _)
  obtain ⟨_,_,_,_,hB,hr⟩:=hB
  obtain ⟨a,rfl,ha1⟩:=VR.cW.1 hv
  obtain ⟨y1,a1,rfl,q1,ha2⟩:=ha1.cons_inv
  obtain ⟨y4,a4,rfl,q4,ha5⟩:=ha2.cons_inv
  obtain rfl:=ha5.aB
  obtain rfl:=VR.ah.1 q1
  have hs:=cy.e8 q4 hb ho hor hn fun zs hz=>C1 hz
  have hs2:=hs
  obtain ⟨g,c,rest,rfl,_⟩:=hs2
  exact ⟨aI bo hB hr,_,_,_,rfl,.inr ⟨ha,rfl,g,rfl,hs⟩⟩
def mi (D:List aA) (ys:Option Addr→Nat→List Int) (w:World):Prop:=MX w∧∀ x∈D,fV w x.a x.l (ys x.a x.l)
theorem mi.keep {D:List aA} {ys:Option Addr→Nat→List Int} {w0 w:World} (h:mi D ys w0) (hk:∀ k,k<w0.heap.size→w.heap[k]?=w0.heap[k]?):mi D ys w:=⟨h.1.keep hk,fun x hx=>(h.2 x hx).keep hk⟩
def Ar (D:List aA) (ys:Option Addr→Nat→List Int):LX:=fun args _=>match args with
 | [L]=>match kG L with
  | some (k,a,l,c)=>some ((ys a l).map (Value.int .u8),l,1,5,fun s=>.agg [.v (.int .i64 k),s],fun s=>.agg #[.int .i64 k,s],(∃ x∈D,x.a=a∧x.l=l)∧a≠none)
  | none=>none
 | _=>none
def Em (D:List aA) (args:List SV) (_:SH):Option (SV × Prop):=match args with
 | [L]=>match kG L with
  | some (k,a,l,c)=>some (.agg [.v (.int .i64 k),.v (.slice none 0 0)],(∃ x∈D,x.a=a∧x.l=l)∧a=none)
  | none=>none
 | _=>none
theorem GD {D:List aA} {ys:Option Addr→Nat→List Int}:cr Try.prog (mi D ys) (33,jM (pA (Ar D ys)) (pT (Em D))):=by
 refine cr.br (uv ⟨_,Try.func33,by kernel_rfl,by kernel_rfl⟩ (fun args sh zs n C elem mk mv p h ν x y hv=>?_) fun args sh zs n C elem mk mv p h hp ν M w0 w a hr hX ha=>?_) (rY ⟨_,Try.func33,by kernel_rfl,by kernel_rfl⟩ fun args sh v p h hp ν M w0 w a hr hX ha=>?_)
 ·dsimp only [Ar] at h
  split at h
  ·split at h
   ·cases h
    exact VR.cW.2 ⟨_,rfl,ay.cons (VR.ah.2 rfl) (ay.cons hv ay.nil)⟩
   ·cases h
  ·cases h
 ·dsimp only [Ar] at h
  split at h
  ·rename_i L
   split at h
   ·rename_i k a1 l1 c1 hd
    cases h
    obtain ⟨y1,as1,rfl,q1,ha2⟩:=ha.cons_inv
    obtain rfl:=ha2.aB
    obtain rfl:=iZ hd q1
    obtain ⟨⟨x,hx,rfl,rfl⟩,hne⟩:=hp
    refine (ka (x:=⟨x.p,k,x.a,x.l,c1⟩) (hX.2 x hx)).mono fun e w' ⟨hB,a,c,l,he,h⟩=>⟨hB,?_⟩
    rcases h with ⟨h1,_⟩ | ⟨_,h1,b,h2,h3⟩
    ·exact absurd h1 hne
    ·subst h1 h2
     exact ⟨_,he,h3⟩
   ·cases h
  ·cases h
 ·dsimp only [Em] at h
  split at h
  ·rename_i L
   split at h
   ·rename_i k a1 l1 c1 hd
    cases h
    obtain ⟨y1,as1,rfl,q1,ha2⟩:=ha.cons_inv
    obtain rfl:=ha2.aB
    obtain rfl:=iZ hd q1
    obtain ⟨⟨x,hx,rfl,rfl⟩,hne⟩:=hp
    refine (ka (x:=⟨x.p,k,x.a,x.l,c1⟩) (hX.2 x hx)).mono fun e w' ⟨hB,a,c,l,he,h⟩=>⟨hB,?_⟩
    rcases h with ⟨_,h1,h2,h3⟩ | ⟨h1,_⟩
    ·subst h1 h2 h3
     exact ⟨_,he,VR.cW.2 ⟨_,rfl,ay.cons (VR.ah.2 rfl) (ay.cons (VR.ah.2 rfl) ay.nil)⟩⟩
    ·exact absurd hne h1
   ·cases h
  ·cases h
def vW (f g h:Sum):Sum:=fun args s=>match s.orc s.dc with
 | some (.b true)=>f args s
 | some (.b false)=>g args s
 | some .dy=>h args s
 | _=>none
theorem IJ {P:Program} {X:World→Prop} {k:FuncId} {f g h:Sum} (hf:cr P X (k,f)) (hg:cr P X (k,g)) (hh:cr P X (k,h)):cr P X (k,vW f g h):=by
 refine ⟨hf.1,fun args x s s' hx ob=>?_⟩
 dsimp only at hx
 unfold vW at hx
 split at hx
 ·exact hf.2 args x s s' hx ob
 ·exact hg.2 args x s s' hx ob
 ·exact hh.2 args x s s' hx ob
 ·cases hx
structure fK (xs:List aA) (x:aA):Prop where
 p:x.p.size≤1000000000
 size:∀ e∈xs,e.p.size≤1000000000
def Aq:LX:=fun args sh=>match args with
 | [A,.v (.string p),L]=>match gA A sh,kG L with
  | some (xs,q),some (k,a,l,c)=>some (vI (aP xs ⟨p,k,a,l,c⟩).1,(aP xs ⟨p,k,a,l,c⟩).1.length,3,41,fun s=>.tup [s,.v (.int .i64 0)],fun y=>tV y 0,q∧fK xs ⟨p,k,a,l,c⟩∧(aP xs ⟨p,k,a,l,c⟩).2=0∧(aP xs ⟨p,k,a,l,c⟩).1≠[])
  | _,_=>none
 | _=>none
def D9 (args:List SV) (sh:SH):Option (SV × Prop):=match args with
 | [A,.v (.string p),L]=>match gA A sh,kG L with
  | some (xs,q),some (k,a,l,c)=>some (.tup [A,.v (.int .i64 (aP xs ⟨p,k,a,l,c⟩).2)],q∧fK xs ⟨p,k,a,l,c⟩∧(aP xs ⟨p,k,a,l,c⟩).2≠0)
  | _,_=>none
 | _=>none
def Ea (args:List SV) (sh:SH):Option (SV × Prop):=match args with
 | [A,.v (.string p),L]=>match gA A sh,kG L with
  | some (xs,q),some (k,a,l,c)=>some (.tup [.v (.slice none 0 0),.v (.int .i64 0)],q∧fK xs ⟨p,k,a,l,c⟩∧(aP xs ⟨p,k,a,l,c⟩).2=0∧(aP xs ⟨p,k,a,l,c⟩).1=[])
  | _,_=>none
 | _=>none
theorem pk {ν:aU} {M:Own} {w0 w:World} {sh:SH} (hr:HR ν M w0 sh w) {A L:SV} {p:ByteArray} {xs:List aA} {q:Prop} {k:Int} {a1:Option Addr} {l1 c1:Nat} (hl:gA A sh=some (xs,q)) (hd:kG L=some (k,a1,l1,c1)) (hq:q) (hI:fK xs ⟨p,k,a1,l1,c1⟩) {a:List Value} (ha:ay ν [A,.v (.string p),L] a):
  ∃ y0,VR ν A y0∧Calls Try.prog 15 a.toArray w (ML w y0 (aP xs ⟨p,k,a1,l1,c1⟩)):=by
 obtain ⟨y1,as1,rfl,q1,ha2⟩:=ha.cons_inv
 obtain ⟨y2,as2,rfl,q2,ha3⟩:=ha2.cons_inv
 obtain ⟨y3,as3,rfl,q3,ha4⟩:=ha3.cons_inv
 obtain rfl:=ha4.aB
 obtain rfl:=VR.ah.1 q2
 obtain rfl:=iZ hd q3
 refine ⟨y1,q1,?_⟩
 rcases kq hl hq with ⟨rfl,rfl⟩ | ⟨hne,hfew,i,mk,rfl,hlk⟩
 ·obtain rfl:=VR.ah.1 q1
  exact cp (E:=mc) rfl rfl (args:=[.v (.slice none 0 0),.v (.string p),jg ⟨p,k,a1,l1,c1⟩]) (S0:=ki ⟨p,k,a1,l1,c1⟩) (by kernel_rfl) (ay.cons (VR.ah.2 rfl) (ay.cons (VR.ah.2 rfl) (ay.cons (VR.ah.2 rfl) ay.nil))) fun cs0=>Ck hI.p
 ·obtain ⟨bb,hbb,hle,rfl⟩:=VR.aQ.1 q1
  obtain ⟨_,_,b,ob,hb,ho,hor,_⟩:=hr.look hlk
  rw [hbb] at hb;cases hb
  have hle':xs.length≤bb.2:=hle
  refine aY (E:=mc) rfl (d:=6) (l:=[bb]) (os:=[.row (cI xs) 41 (0,0) (some 3)]) rfl (by simp) (by simp) ?_ rfl (args:=[.sl 0 0 xs.length none,.v (.string p),jg ⟨p,k,a1,l1,c1⟩]) (S0:=fR (cI xs) xs.length ⟨p,k,a1,l1,c1⟩) (by kernel_rfl) (ay.cons (VR.aQ.2 ⟨bb,rfl,hle',rfl⟩) (ay.cons (VR.ah.2 rfl) (ay.cons (VR.ah.2 rfl) ay.nil))) fun cs0=>CZ hne hfew hI.p hI.size
  intro j o' b' c' h1 h2
  match j with
  | 0=>
   simp only [List.getElem?_cons_zero,Option.some.injEq] at h1 h2
   subst h1
   subst h2
   exact ⟨_,ho,wY (az xs) hbb rfl hor⟩
  | j+1=>simp at h1
theorem Gb {X:World→Prop}:cr Try.prog X (15,vW (pA Aq) (pT D9) (pT Ea)):=by
 refine IJ (uv ⟨_,Try.func15,by kernel_rfl,by kernel_rfl⟩ (fun args sh ys n C elem mk mv p h ν x y hv=>?_) fun args sh ys n C elem mk mv p h hp ν M w0 w a hr hX ha=>?_) (rY ⟨_,Try.func15,by kernel_rfl,by kernel_rfl⟩ fun args sh v p h hp ν M w0 w a hr hX ha=>?_) (rY ⟨_,Try.func15,by kernel_rfl,by kernel_rfl⟩ fun args sh v p h hp ν M w0 w a hr hX ha=>?_)
 ·dsimp only [Aq] at h
  split at h
  ·split at h
   ·cases h
    exact VR.cC.2 ⟨_,rfl,ay.cons hv (ay.cons (VR.ah.2 rfl) ay.nil)⟩
   ·cases h
  ·cases h
 ·dsimp only [Aq] at h
  split at h
  ·split at h
   ·rename_i xs q k a1 l1 c1 hl hd
    cases h
    obtain ⟨y0,_,hc⟩:=pk hr hl hd hp.1 hp.2.1 ha
    refine hc.mono fun e w' ⟨hB,h⟩=>⟨hB,?_⟩
    rcases h with ⟨h1,_⟩ | ⟨_,h1,_⟩ | ⟨_,_,y,h2,h3⟩
    ·exact absurd hp.2.2.1 h1
    ·exact absurd h1 hp.2.2.2
    ·exact ⟨y,h2,h3⟩
   ·cases h
  ·cases h
 ·dsimp only [D9] at h
  split at h
  ·split at h
   ·rename_i xs q k a1 l1 c1 hl hd
    cases h
    obtain ⟨y0,hv,hc⟩:=pk hr hl hd hp.1 hp.2.1 ha
    refine hc.mono fun e w' ⟨hB,h⟩=>⟨hB,?_⟩
    rcases h with ⟨_,h2⟩ | ⟨h1,_⟩ | ⟨h1,_⟩
    ·exact ⟨_,h2,VR.cC.2 ⟨_,rfl,ay.cons hv (ay.cons (VR.ah.2 rfl) ay.nil)⟩⟩
    ·exact absurd h1 hp.2.2
    ·exact absurd h1 hp.2.2
   ·cases h
  ·cases h
 ·dsimp only [Ea] at h
  split at h
  ·split at h
   ·rename_i xs q k a1 l1 c1 hl hd
    cases h
    obtain ⟨y0,hv,hc⟩:=pk hr hl hd hp.1 hp.2.1 ha
    refine hc.mono fun e w' ⟨hB,h⟩=>⟨hB,?_⟩
    rcases h with ⟨h1,_⟩ | ⟨_,_,h2⟩ | ⟨_,h1,_⟩
    ·exact absurd hp.2.2.1 h1
    ·exact ⟨_,h2,VR.cC.2 ⟨_,rfl,ay.cons (VR.ah.2 rfl) (ay.cons (VR.ah.2 rfl) ay.nil)⟩⟩
    ·exact absurd hp.2.2.2 h1
   ·cases h
  ·cases h
end paths
end Go.Proofs.Ytbjmmnegkpeboaa
